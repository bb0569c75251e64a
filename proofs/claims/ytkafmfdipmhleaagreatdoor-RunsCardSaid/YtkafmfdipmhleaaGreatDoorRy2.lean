/-
  What is proved: contracts of how a saga moves: forward, Move, Call, Same. the contract of what a saga asks for: Call. the contract of the closure in journal's parse that takes one text off the rest of a block. the contract of journal's parse, wherever the texts do not go beyond the block (parseM says what it answers). the partner: what it asks and answers; the drawn regions of Ask. the partner's done. the contract of the partner's Ask.
-/
import Derived.Test.YtkafmfdipmhleaaGreatDoorRy1
import Derived.Deep.DeepCutAuto
import Derived.BigRegion
import Derived.Deep.RegionHeld3
import Derived.Deep.AppendLies
import Derived.Laws.ResultCell
import Derived.Deep.QuietTactic
import Derived.BigQuiet
import Derived.Deep.CutBlock

namespace Go.Proofs.YtkafmfdipmhleaaGreatDoor
open Go.RowKit
set_option maxHeartbeats 1000000 in
theorem forward_calls {w : World} {sb : Nat} {s : SagaM} (h : SagaAt w sb s) (hs : 1 ≤ s.step ∧ s.step ≤ 100) (reply : Int) :
    Calls Tryz.prog 73 #[.pointer (some ⟨sb, 0, none⟩), .int .i64 reply] w (MovePost w sb (s.forward reply)) := by
  by_cases hr : reply = 0
  · obtain ⟨sv, h1, h2⟩ := h
    obtain ⟨id, st, step, tries, due, steps⟩ := s
    simp only at hs
    have hsv : ∃ b off cap, sv = .slice (some ⟨b, off, none⟩) steps.length cap := by
      obtain ⟨b, off, cap, _, e, _⟩ := h2
      exact ⟨b, off, cap, e⟩
    have Ht := Lib.hid (fun (w' : World) (s' : SagaM) (hf : Fr (· = sb) w w') (hs : s'.steps = steps) => SagaAt.turn h1 h2 hf hs)
    simp only [sgCells] at h1
    clear h2
    obtain ⟨b, off, cap, rfl⟩ := hsv
    subst hr
    have hcv := cellv w
    have hfv := frozv w
    have hw : wrap64 (step + 1) = step + 1 := wrap_in _ (by omega)
    have Hw := Lib.hid hw
    clear hw
    have h15 : (w.setCell ⟨sb, 2, none⟩ (.int .i64 (step + 1))).heap[sb]? = some (.cells (sgCells ⟨id, st, step + 1, tries, due, steps⟩ (.slice (some ⟨b, off, none⟩) steps.length cap)) 88 (0, 0)) := by
      rw [hp_setCell, if_pos rfl, h1]; simp [sgCells]
    simp only [sgCells] at h15
    go_enter Tryz.func73, Tryz.ntmps73
    go_upto_region 3 with fail
    have hcv2 := cellv (w.setCell ⟨sb, 2, none⟩ (.int .i64 (step + 1)))
    go_quiet (fail)
    go_wp2_with fail
    · rename_i hlt
      have Hm : Hid (SagaM.forward ⟨id, st, step, tries, due, steps⟩ 0 = ⟨id, 3, 0, tries, due, steps⟩) := by show _ = _; simp [SagaM.forward, hlt]
      go_end0
      refine ⟨rfl, (((Fr.one _ _ _ _).drewN _).trans (Fr.one _ _ _ _)).trans (Fr.one _ _ _ _), ?_⟩
      rw [Hm.out]
      refine Ht.out _ _ ((((Fr.one _ _ _ _).drewN _).trans (Fr.one _ _ _ _)).trans (Fr.one _ _ _ _)) rfl ?_
      simp only [hp_setCell, hp_drewN, if_true, h1]
      simp [sgCells]
    · rename_i hlt
      have Hm : Hid (SagaM.forward ⟨id, st, step, tries, due, steps⟩ 0 = ⟨id, st, step + 1, tries, due, steps⟩) := by
        show _ = _
        have : ¬ (steps.length : Int) < step + 1 := by omega
        simp [SagaM.forward, this]
      go_end0
      refine ⟨rfl, (Fr.one _ _ _ _).drewN _, ?_⟩
      rw [Hm.out]
      refine Ht.out _ _ ((Fr.one _ _ _ _).drewN _) rfl ?_
      simp only [hp_setCell, hp_drewN, if_true, h1]
      simp [sgCells]
  · have hr' : (reply != 0) = true := by simpa using hr
    have hb := backward_calls h hs reply
    have Hb := Lib.hid hb
    have Hf : Hid (s.forward reply = s.backward) := by show _ = _; simp [SagaM.forward, hr]
    clear hb h hs hr
    rw [Hf.out]
    go_enter Tryz.func73, Tryz.ntmps73
    go_wp2_with (first
      | (go_at_call 74; refine Calls.mono Hb.out ?_; rintro e w2 ⟨rfl, hf2, hs2⟩)
      | fail)
    first | go_end0 | refine bodyPost_ret (results_none rfl _ _ _) rfl ?_
    exact ⟨rfl, hf2, hs2⟩
theorem Tryz.info139 : (Tryz.prog.info? 139).map (·.size) = some 3 := by kernel_rfl
set_option maxRecDepth 100000 in
set_option maxHeartbeats 1000000 in
theorem Move_calls {w : World} {sb : Nat} {s : SagaM} (h : SagaAt w sb s) (hst : s.st = 1 ∨ s.st = 2) (hs : 1 ≤ s.step ∧ s.step ≤ 100) (reply : Int) :
    Calls Tryz.prog 55 #[.pointer (some ⟨sb, 0, none⟩), .int .i64 reply] w (MovePost w sb (s.moved reply)) := by
  obtain ⟨sv, h1, h2⟩ := h
  obtain ⟨id, st, step, tries, due, steps⟩ := s
  simp only at hs hst
  have Ht := Lib.hid (fun (w' : World) (s' : SagaM) (hf : Fr (· = sb) w w') (hs : s'.steps = steps) => SagaAt.turn h1 h2 hf hs)
  simp only [sgCells] at h1
  clear h2
  have hcv := cellv w
  have hfv := frozv w
  have H139 : Hid ((#[Value.nilFunc, .func (.func 73) #[] #[], .func (.func 74) #[] #[]] : Array Value).all (·.oneCell') = true) := by
    show _ = _
    simp [Value.oneCell']
  rcases hst with rfl | rfl
  all_goals
    go_enter Tryz.func55, Tryz.ntmps55
    go_upto_region 1 with fail
    have hF : Fr (· = sb) w ((w.setCell ⟨sb, 4, none⟩ (.int .i64 0)).setCell ⟨sb, 5, none⟩ (.int .i64 0)) := (Fr.one _ _ _ _).trans (Fr.one _ _ _ _)
    have hS := Ht.out _ (SagaM.mk id _ step 0 0 steps) hF rfl (by
      simp only [hp_setCell, if_true, h1]
      simp [sgCells]; rfl)
    have h3 := hS
    generalize ((w.setCell ⟨sb, 4, none⟩ (.int .i64 0)).setCell ⟨sb, 5, none⟩ (.int .i64 0)) = W1 at hF hS h3 ⊢
    obtain ⟨sv1, h4, _⟩ := h3
    have HF := Lib.hid hF
    have HS := Lib.hid hS
    clear hcv hfv Ht h1 hF hS
    go_upto_region 2 with (first
      | (refine wpl_store_new rfl 139 (.tmp 4) (.tmp 13) rfl W1.heap.size #[Value.nilFunc, .func (.func 73) #[] #[], .func (.func 74) #[] #[]] #[Value.nilFunc, Value.nilFunc, Value.nilFunc] 139 rfl rfl rfl Tryz.info139 rfl H139.out ?_)
      | fail)
    simp only [Act.put]
    have hn := heap_alloc_new W1 (.cells #[Value.nilFunc, .func (.func 73) #[] #[], .func (.func 74) #[] #[]] 139)
    have HA : Hid (New W1 (W1.alloc (.cells #[Value.nilFunc, .func (.func 73) #[] #[], .func (.func 74) #[] #[]] 139))) := (Fr.refl _ _).alloc _
    have h5 := heap_alloc_keep (.cells #[Value.nilFunc, .func (.func 73) #[] #[], .func (.func 74) #[] #[]] 139) h4
    clear h4
    generalize W1.alloc (.cells #[Value.nilFunc, .func (.func 73) #[] #[], .func (.func 74) #[] #[]] 139) = W2 at hn HA h5 ⊢
    generalize W1.heap.size = N at hn ⊢
    simp only [sgCells] at h5
    have hcv := cellv W2
    have HS2 := Lib.hid (HS.out.new HA.out)
    have HF2 := Lib.hid (HF.out.trans (HA.out.mono (fun _ _ f => f.elim)))
    have hsn : ¬ N = sb := ne_of_kind hn h5 (by simp [kindOf])
    go_wp2_with (first
      | (go_at_call 73; refine Calls.mono (forward_calls HS2.out hs reply) ?_; rintro e w3 ⟨rfl, hf3, hs3⟩)
      | (go_at_call 74; refine Calls.mono (backward_calls HS2.out hs reply) ?_; rintro e w3 ⟨rfl, hf3, hs3⟩)
      | fail)
    go_end0
    exact ⟨rfl, HF2.out.trans hf3, hs3⟩
end Go.Proofs.YtkafmfdipmhleaaGreatDoor

namespace Go.Proofs.YtkafmfdipmhleaaGreatDoor
open Go.RowKit
structure CallM where
  saga : Int
  step : Int
  back : Bool
  data : ByteArray
def CallM.val (c : CallM) : Value := .agg #[.int .i64 c.saga, .int .i64 c.step, .bool c.back, .string c.data]
def SagaM.call (s : SagaM) : CallM := ⟨s.id, s.step, decide (s.st = 2), if s.st = 2 then (s.steps.getD (s.step - 1).toNat (⟨#[]⟩, ⟨#[]⟩)).2 else (s.steps.getD (s.step - 1).toNat (⟨#[]⟩, ⟨#[]⟩)).1⟩
set_option maxRecDepth 100000 in
set_option maxHeartbeats 2000000 in
theorem Call_calls {w : World} {sb : Nat} {s : SagaM} (h : SagaAt w sb s) (hst : s.st = 1 ∨ s.st = 2) (k : Nat) (hk : s.step = k + 1) (hkl : k < s.steps.length) (hlen : s.steps.length ≤ 100) :
    Calls Tryz.prog 52 #[.pointer (some ⟨sb, 0, none⟩)] w fun e w' => e = .returned s.call.val ∧ New w w' := by
  have hc : Hid (s.call = ⟨s.id, (k : Int) + 1, decide (s.st = 2), if s.st = 2 then s.steps[k].2 else s.steps[k].1⟩) := by
    show _ = _
    have e1 : (s.step - 1).toNat = k := by omega
    simp [SagaM.call, hk, hkl]
  obtain ⟨sv, h1, b, off, cap, c, rfl, h2, h3⟩ := h
  obtain ⟨id, st, step, tries, due, steps⟩ := s
  simp only at hk hkl hst hlen hc h3
  subst hk
  obtain ⟨x0,x1⟩ := stepCells_get steps k hkl
  have c0 := h3 (k * 2) (by omega)
  have c1 := h3 (k * 2 + 1) (by omega)
  rw [x0] at c0
  rw [x1] at c1
  clear x0 x1 h3
  generalize steps[k].1 = D0 at hc c0
  generalize steps[k].2 = D1 at hc c1
  simp only [sgCells] at h1
  generalize steps.length = n at h1 hkl hlen
  have hkl' : (k : Int) < n := by omega
  have hw1 : IntKind.i64.wrap ((k : Int) + 1 - 1) = k := by rw [IntWalk.i64_in _ (by omega)]; omega
  have hw2 : IntKind.i64.wrap (k : Int) = k := IntWalk.i64_in _ (by omega)
  have hk0 : (0 : Int) ≤ k := by omega
  have HW := Lib.hid (rfl : w = w)
  clear hlen
  rcases hst with rfl | rfl
  · go_enter Tryz.func52, Tryz.ntmps52
    go_upto_region 1 with fail
    have hF1 : New w (w.alloc (.cells #[.int .i64 0, .int .i64 0, .bool false, .string ⟨#[]⟩] 46)) := (Fr.refl _ _).alloc _
    have h1' := hF1.get h1 (fun f => f)
    have h2' := hF1.get h2 (fun f => f)
    have h3' := heap_alloc_new w (.cells #[.int .i64 0, .int .i64 0, .bool false, .string ⟨#[]⟩] 46)
    generalize (w.alloc (.cells #[.int .i64 0, .int .i64 0, .bool false, .string ⟨#[]⟩] 46)) = W1 at hF1 h1' h2' h3' ⊢
    generalize hN : w.heap.size = N at h3' ⊢
    have HN := Lib.hid hN
    clear hN
    have a0 : W1.cell? ⟨sb, 0, none⟩ = some (.int .i64 id) := by rw [cellv, h1']; rfl
    have a1 : W1.cell? ⟨sb, 1, none⟩ = some (.int .i64 1) := by rw [cellv, h1']; rfl
    have a2 : W1.cell? ⟨sb, 2, none⟩ = some (.int .i64 ((k : Int) + 1)) := by rw [cellv, h1']; rfl
    have a6 : W1.cell? ⟨sb, 6, none⟩ = some (.slice (some ⟨b, off, none⟩) n cap) := by rw [cellv, h1']; rfl
    have aa : W1.cell? ⟨b, off + k * 2, none⟩ = some (.string D0) := by rw [cellv, h2']; exact c0
    have n0 := World.new_ne W1 ⟨sb, 0, none⟩ a0
    clear h1 h2 h1' h2' c0 c1
    go_region_held3 (fun w' => w'.cell? ⟨sb, 0, none⟩ = some (.int .i64 id) ∧ w'.cell? ⟨sb, 1, none⟩ = some (.int .i64 1) ∧ w'.cell? ⟨sb, 2, none⟩ = some (.int .i64 ((k : Int) + 1)) ∧ w'.cell? ⟨sb, 6, none⟩ = some (.slice (some ⟨b, off, none⟩) n cap) ∧ w'.cell? ⟨b, off + k * 2, none⟩ = some (.string D0)) (go_keep) ((fail))
    have hF2 : New w (W1.alloc (.cells #[.int .i64 id, .int .i64 ((k : Int) + 1), .bool false, .string D0] 46)).drew := (hF1.alloc _).drew
    have h3'' := heap_alloc_keep (.cells #[.int .i64 id, .int .i64 ((k : Int) + 1), .bool false, .string D0] 46) h3'
    have h4' := heap_alloc_new W1 (.cells #[.int .i64 id, .int .i64 ((k : Int) + 1), .bool false, .string D0] 46)
    have hne : N ≠ W1.heap.size := ne_size_of_hp h3'
    rw [← hp_drew] at h3'' h4'
    clear h3' a0 a1 a2 a6 aa n0
    rename_i hHeld
    clear hHeld
    generalize (W1.alloc (.cells #[.int .i64 id, .int .i64 ((k : Int) + 1), .bool false, .string D0] 46)).drew = W2 at hF2 h3'' h4' ⊢
    generalize W1.heap.size = N1 at h4' hne ⊢
    have hcv := cellv W2
    have hfv := frozv W2
    have HF2 := Lib.hid hF2
    clear hF1 hF2
    go_wp2_with fail
    refine bodyPost_ret (v := CallM.val ⟨id, (k : Int) + 1, false, D0⟩) ?_ rfl ⟨by rw [hc.out]; rfl, ?_⟩
    · simp [results, Tryz.results52, go_sem, CallM.val, hp_setCell, h3'', cellv]
    · have hb : N < w.heap.size → False := by rw [HN.out]; omega
      exact (((HF2.out.setCell hb _ _).setCell hb _ _).setCell hb _ _).setCell hb _ _
  · go_enter Tryz.func52, Tryz.ntmps52
    go_upto_region 1 with fail
    have hF1 : New w (w.alloc (.cells #[.int .i64 0, .int .i64 0, .bool false, .string ⟨#[]⟩] 46)) := (Fr.refl _ _).alloc _
    have h1' := hF1.get h1 (fun f => f)
    have h2' := hF1.get h2 (fun f => f)
    have h3' := heap_alloc_new w (.cells #[.int .i64 0, .int .i64 0, .bool false, .string ⟨#[]⟩] 46)
    generalize (w.alloc (.cells #[.int .i64 0, .int .i64 0, .bool false, .string ⟨#[]⟩] 46)) = W1 at hF1 h1' h2' h3' ⊢
    generalize hN : w.heap.size = N at h3' ⊢
    have HN := Lib.hid hN
    clear hN
    have a0 : W1.cell? ⟨sb, 0, none⟩ = some (.int .i64 id) := by rw [cellv, h1']; rfl
    have a1 : W1.cell? ⟨sb, 1, none⟩ = some (.int .i64 2) := by rw [cellv, h1']; rfl
    have a2 : W1.cell? ⟨sb, 2, none⟩ = some (.int .i64 ((k : Int) + 1)) := by rw [cellv, h1']; rfl
    have a6 : W1.cell? ⟨sb, 6, none⟩ = some (.slice (some ⟨b, off, none⟩) n cap) := by rw [cellv, h1']; rfl
    have aa : W1.cell? ⟨b, off + k * 2, none⟩ = some (.string D0) := by rw [cellv, h2']; exact c0
    have n0 := World.new_ne W1 ⟨sb, 0, none⟩ a0
    clear h1 h2 c0
    go_region_held3 (fun w' => w'.cell? ⟨sb, 0, none⟩ = some (.int .i64 id) ∧ w'.cell? ⟨sb, 1, none⟩ = some (.int .i64 2) ∧ w'.cell? ⟨sb, 2, none⟩ = some (.int .i64 ((k : Int) + 1)) ∧ w'.cell? ⟨sb, 6, none⟩ = some (.slice (some ⟨b, off, none⟩) n cap) ∧ w'.cell? ⟨b, off + k * 2, none⟩ = some (.string D0)) (go_keep) ((fail))
    have hF2 : New w (W1.alloc (.cells #[.int .i64 id, .int .i64 ((k : Int) + 1), .bool true, .string D0] 46)).drew := (hF1.alloc _).drew
    have h3'' := heap_alloc_keep (.cells #[.int .i64 id, .int .i64 ((k : Int) + 1), .bool true, .string D0] 46) h3'
    have h4' := heap_alloc_new W1 (.cells #[.int .i64 id, .int .i64 ((k : Int) + 1), .bool true, .string D0] 46)
    have hne : N ≠ W1.heap.size := ne_size_of_hp h3'
    rw [← hp_drew] at h3'' h4'
    clear h3' a0 a1 a2 a6 aa n0
    rename_i hHeld
    clear hHeld
    have hS2 : New W1 (W1.alloc (.cells #[.int .i64 id, .int .i64 ((k : Int) + 1), .bool true, .string D0] 46)).drew := ((Fr.refl _ _).alloc _).drew
    generalize (W1.alloc (.cells #[.int .i64 id, .int .i64 ((k : Int) + 1), .bool true, .string D0] 46)).drew = W2 at hF2 hS2 h3'' h4' ⊢
    have hN1 : w.heap.size ≤ W1.heap.size := hF1.size
    generalize W1.heap.size = N1 at h4' hne hN1 ⊢
    have HN1 := Lib.hid hN1
    clear hN1
    have HF2 := Lib.hid hF2
    have h1'' := hS2.get h1' (fun f => f)
    have h2'' := hS2.get h2' (fun f => f)
    have hcv := cellv W2
    have hfv := frozv W2
    clear hF1 hF2 hS2 h1' h2'
    go_upto_region 3 with fail
    have e1 : N1 ≠ sb := ne_of_kind h4' h1'' (by simp [kindOf])
    have e2 : N1 ≠ b := ne_of_kind h4' h2'' (by simp [kindOf])
    have e3 : ¬ sb = N1 := fun e => e1 e.symm
    have e4 : ¬ b = N1 := fun e => e2 e.symm
    have b2 : W2.cell? ⟨sb, 2, none⟩ = some (.int .i64 ((k : Int) + 1)) := by rw [cellv, h1'']; rfl
    have b6 : W2.cell? ⟨sb, 6, none⟩ = some (.slice (some ⟨b, off, none⟩) n cap) := by rw [cellv, h1'']; rfl
    have bb : W2.cell? ⟨b, off + k * 2 + 1, none⟩ = some (.string D1) := by rw [cellv, h2'']; exact c1
    have bn : W2.cell? ⟨N1, 3, none⟩ = some (.string D0) := by rw [cellv, h4']; rfl
    have fn : W2.frozen? ⟨N1, 3, none⟩ = false := by rw [frozv, h4']; rfl
    have H3 := Lib.hid h3''
    have H4 := Lib.hid h4'
    clear hcv hfv h1'' h2'' c1 h3'' h4'
    go_region_held3 (fun w' => w'.cell? ⟨sb, 2, none⟩ = some (.int .i64 ((k : Int) + 1)) ∧ w'.cell? ⟨sb, 6, none⟩ = some (.slice (some ⟨b, off, none⟩) n cap) ∧ w'.cell? ⟨b, off + k * 2 + 1, none⟩ = some (.string D1)) (go_keep) ((fail))
    rename_i hHeld2
    clear hHeld2 b2 b6 bb bn fn
    have HF3 := Lib.hid ((HF2.out.setCell (b := N1) (fun h => absurd (show N1 < w.heap.size from h) (by have := HN1.out; omega)) 3 (.string D1)).drew)
    have h5 : ((W2.setCell ⟨N1, 3, none⟩ (.string D1)).drew).heap[N]? = some (.cells #[.int .i64 0, .int .i64 0, .bool false, .string ⟨#[]⟩] 46 (0, 0)) := by
      rw [hp_drew, hp_setCell, if_neg hne]; exact H3.out
    have h6 : ((W2.setCell ⟨N1, 3, none⟩ (.string D1)).drew).heap[N1]? = some (.cells #[.int .i64 id, .int .i64 ((k : Int) + 1), .bool true, .string D1] 46 (0, 0)) := by
      rw [hp_drew, hp_setCell, if_pos rfl, H4.out]; rfl
    generalize (W2.setCell ⟨N1, 3, none⟩ (.string D1)).drew = W3 at HF3 h5 h6 ⊢
    have hcv := cellv W3
    have hfv := frozv W3
    go_wp2_with fail
    refine bodyPost_ret (v := CallM.val ⟨id, (k : Int) + 1, true, D1⟩) ?_ rfl ⟨by rw [hc.out]; rfl, ?_⟩
    · simp [results, Tryz.results52, go_sem, CallM.val, hp_setCell, h5, cellv]
    · have hb : N < w.heap.size → False := by rw [HN.out]; omega
      exact (((HF3.out.setCell hb _ _).setCell hb _ _).setCell hb _ _).setCell hb _ _
end Go.Proofs.YtkafmfdipmhleaaGreatDoor

namespace Go.Proofs.YtkafmfdipmhleaaGreatDoor
open Go.RowKit
/-- One text, and what is behind it. -/
def takeOne : List UInt8 → Option (ByteArray × List UInt8)
  | [] => none
  | x :: t => if x.toNat < t.length then some (⟨(t.take x.toNat).toArray⟩, t.drop x.toNat) else none
/-- The bytes of row g that are still to be read. -/
def RestAt (gc : Array Value) (g : Nat) (rest : List UInt8) (v : Value) : Prop :=
  ∃ off, v = .slice (some ⟨g, off, none⟩) rest.length rest.length ∧ ∀ j, j < rest.length → gc[off + j]? = some (bv (rest.getD j 0))
set_option maxRecDepth 100000 in
set_option maxHeartbeats 2000000 in
theorem take_calls (w : World) (g q : Nat) (gc : Array Value) (gt : TypeId) (x : UInt8) (t : List UInt8) (v : Value) (hlen : t.length ≤ 128) (hx : x.toNat < t.length) (hg : w.heap[g]? = some (.cells gc gt (0, 0)))
    (hq : w.heap[q]? = some (.cells #[v] 92 (0, 0))) (hr : RestAt gc g (x :: t) v) :
    Calls Tryz.prog 132 #[.pointer (some ⟨q, 0, none⟩)] w fun e w' => ∃ v', e = .returned (.string ⟨(t.take x.toNat).toArray⟩) ∧ w'.heap[q]? = some (.cells #[v'] 92 (0, 0)) ∧ RestAt gc g (t.drop x.toNat) v' ∧ Fr (· = q) w w' := by
  obtain ⟨off, rfl, hc⟩ := hr
  have h0 := hc 0 (by simp)
  simp only [List.length_cons] at hq ⊢
  rw [Nat.add_zero] at h0
  unfold bv at h0
  simp only [List.getD_eq_getElem?_getD, List.getElem?_cons_zero, Option.getD_some] at h0
  have hcv := cellv w
  have hfv := frozv w
  have Hc := Lib.hid hc
  have hx0 := x.toNat_lt
  clear hc
  have hT : 0 < t.length := by omega
  have htake : Hid (strOfNums ((t.take x.toNat).map fun b : UInt8 => (b.toNat : Int)) = ⟨(t.take x.toNat).toArray⟩) := by
    show _ = _
    simp [strOfNums, Function.comp_def]
  have hcell : Hid (∀ j, j < x.toNat → w.cell? ⟨g, off + 1 + j, none⟩ = some (.int .u8 (((t.take x.toNat).map fun b : UInt8 => (b.toNat : Int)).getD j 0))) := by
    intro j hj
    have h1 := Hc.out (j + 1) (by simp; omega)
    rw [hcv, hg, cellOf_cells, show off + 1 + j = off + (j + 1) by omega, h1]
    simp [bv, hj, List.getElem?_take_of_lt, (by omega : j < t.length)]
  generalize hN : t.length = N at hx hlen hq hT
  have HN := Lib.hid hN
  clear hN
  have hx1 : ¬ ((x.toNat : Int) = N) := by omega
  have hx2 : ¬ (x.toNat = N) := by omega
  have hN0 : ¬ N = 0 := by omega
  have hlm : ((t.take x.toNat).map fun b : UInt8 => (b.toNat : Int)).length = x.toNat := by simp [HN.out]; omega
  have hcnv : (convert 92 9 (.slice (some ⟨g, off + 1, none⟩) x.toNat N)).run Tryz.prog w = .ok (.string ⟨(t.take x.toNat).toArray⟩) w := by
    rw [run_convert_bytes_arg (P := Tryz.prog) w 92 5 Tryz.underlying92 Tryz.underlying5 g (off + 1) x.toNat N _ hlm hcell.out 9 Tryz.underlying9, htake.out]
  clear hlm
  go_enter Tryz.func132, Tryz.ntmps132
  go_wp2
  go_ret
  refine ⟨_, rfl, by rw [hp_setCell, if_pos rfl, hq]; rfl, ⟨off + (1 + x.toNat), ?_, ?_⟩, Fr.one _ _ _ _⟩
  · rw [List.length_drop, HN.out, show N + 1 - (1 + x.toNat) = N - x.toNat by omega]
  · intro j hj
    rw [List.length_drop] at hj
    have h1 := Hc.out (x.toNat + j + 1) (by simp; omega)
    rw [show off + (1 + x.toNat) + j = off + (x.toNat + j + 1) by omega, h1]
    simp [List.getElem?_drop]
end Go.Proofs.YtkafmfdipmhleaaGreatDoor

namespace Go.Proofs.YtkafmfdipmhleaaGreatDoor
open Go.RowKit
/-- get over a part of a row of bytes. -/
theorem get_row {w : World} {g : Nat} {gc : Array Value} {gt : TypeId} {bs : List UInt8} (hb : w.heap[g]? = some (.cells gc gt (0, 0))) (hgc : ∀ j, j < 128 → gc[j]? = some (bv (bs.getD j 0))) (hbs : bs.length = 128) (off n cap : Nat) (h : off + n ≤ 128) (hn : n ≤ 4) :
    Calls Tryz.prog 131 #[.slice (some ⟨g, off, none⟩) n cap] w fun e w' => e = .returned (.int .i64 (leVal ((bs.drop off).take n))) ∧ w = w' := by
  have hl : ((bs.drop off).take n).length = n := by simp; omega
  have := get_calls w ((bs.drop off).take n) g off cap (by omega) (by
    intro j hj
    rw [hb, cellOf_cells, hgc _ (by omega)]
    rw [List.getD_eq_getElem?_getD, List.getD_eq_getElem?_getD, List.getElem?_take_of_lt (by omega), List.getElem?_drop])
  rwa [hl] at this
theorem get_q {w : World} {g : Nat} {gc : Array Value} {gt : TypeId} {bs : List UInt8} (hb : w.heap[g]? = some (.cells gc gt (0, 0))) (hgc : ∀ j, j < 128 → gc[j]? = some (bv (bs.getD j 0))) (hbs : bs.length = 128) (off n cap N : Nat) (h : off + n ≤ 128) (hn : n ≤ 4) :
    Calls Tryz.prog 131 #[.slice (some ⟨g, off, none⟩) n cap] (w.drewN N) fun e w' => e = .returned (.int .i64 (leVal ((bs.drop off).take n))) ∧ ∃ m, w' = w.drewN m :=
  (get_row (w := w.drewN N) hb hgc hbs off n cap h hn).mono fun _ _ ⟨h1, h2⟩ => ⟨h1, N, h2.symm⟩
theorem crc_q {w : World} {g : Nat} {gc : Array Value} {gt : TypeId} {bs : List UInt8} (hb : w.heap[g]? = some (.cells gc gt (0, 0))) (hgc : ∀ j, j < 128 → gc[j]? = some (bv (bs.getD j 0))) (hbs : bs.length = 128) (off n cap N : Nat) (h : off + n ≤ 128) :
    Calls Tryz.prog 119 #[.slice (some ⟨g, off, none⟩) n cap] (w.drewN N) fun e w' => e = .returned (.int .u32 (crcM ((bs.drop off).take n))) ∧ ∃ m, w' = w.drewN m := by
  have hl : ((bs.drop off).take n).length = n := by simp; omega
  have := crc_calls (w.drewN N) ((bs.drop off).take n) g off cap (by omega) (by
    intro j hj
    rw [hp_drewN, hb, cellOf_cells, hgc _ (by omega)]
    rw [List.getD_eq_getElem?_getD, List.getD_eq_getElem?_getD, List.getElem?_take_of_lt (by omega), List.getElem?_drop])
  rw [hl] at this
  exact this.mono fun _ _ ⟨h1, h2⟩ => ⟨h1, N, h2.symm⟩
def kindB (bs : List UInt8) : Nat := (bs[4]?.getD 0).toNat
def epochB (bs : List UInt8) : Nat := leVal ((bs.drop 5).take 4)
def indexB (bs : List UInt8) : Nat := leVal ((bs.drop 9).take 2)
def sagaB (bs : List UInt8) : Nat := leVal ((bs.drop 11).take 2)
def replyB (bs : List UInt8) : Nat := leVal ((bs.drop 13).take 1)
def rcells (k ep ix sg rp : Nat) (sv : Value) : Array Value := #[.int .u8 k, .int .u32 ep, .int .i64 ix, .int .i64 sg, .int .i64 rp, sv]
theorem S_of {w' : World} {g : Nat} {gc : Array Value} {gt : TypeId} {v : Value} {k : Nat} (h4 : gc[k]? = some v) (h : w'.heap[g]? = some (.cells gc gt (0, 0))) :
    w'.heap[g]? = some (.cells gc gt (0, 0)) ∧ w'.cell? ⟨g, k, none⟩ = some v := ⟨h, by rw [cellv, h, cellOf_cells]; exact h4⟩
/-- What a block holds, if it is taken for a record; none: nothing is said (its texts go too far). -/
def takeSteps : Nat → List UInt8 → Option (List (ByteArray × ByteArray))
  | 0, _ => some []
  | n + 1, r =>
    match takeOne r with
    | none => none
    | some (a, r1) =>
      match takeOne r1 with
      | none => none
      | some (b, r2) => (takeSteps n r2).map ((a, b) :: ·)
def recOf (bs : List UInt8) (l : List (ByteArray × ByteArray)) : RecM := ⟨kindB bs, epochB bs, indexB bs, sagaB bs, replyB bs, l⟩
def sumOk (bs : List UInt8) : Prop := (leVal (bs.take 4) : Int) = crcM ((bs.drop 4).take ((if kindB bs = 2 then 128 else 32) - 4))
instance (bs : List UInt8) : Decidable (sumOk bs) := by unfold sumOk; infer_instance
def parseM (bs : List UInt8) : Option (RecM × Bool) :=
  if sumOk bs then
    if kindB bs = 2 then (takeSteps (bs[14]?.getD 0).toNat (bs.drop 15)).map fun l => (recOf bs l, true)
    else some (recOf bs [], decide (1 ≤ kindB bs) && decide (kindB bs ≤ 4))
  else some (recOf bs [], false)
theorem results_row_tmp {P : Program} {fn : Func} {q u : Tmp} {ty : TypeId} (h : fn.results = #[.cell q ty, .tmp u]) (tmps : Array Value) (w : World) (g : Nat) (t : TypeId) (cs : Array Value) (fr : Nat × Nat) (d : TypeDesc)
    (hp : tmps.getD q undef = .pointer (some ⟨g, 0, none⟩)) (hg : w.heap[g]? = some (.cells cs t fr))
    (hu : P.underlying ty = some d) (hd : (match d with | .struct _ | .array _ _ => true | _ => false) = true) (hi : (P.info? ty).map (·.size) = some cs.size) :
    (results fn tmps).run P w = .ok (.tuple #[.agg cs, tmps.getD u undef]) w := by
  rw [results_cell_tmp h, hp]
  simp [asAddr, run_loadVar_row w g t ty cs fr d hg hu hd hi]
theorem Tryz.info91s : (Tryz.prog.info? 91).map (·.size) = some 6 := by kernel_rfl
theorem takeOne_some {R : List UInt8} {a : ByteArray} {r1 : List UInt8} (h : takeOne R = some (a, r1)) : ∃ x t, R = x :: t ∧ x.toNat < t.length ∧ a = ⟨(t.take x.toNat).toArray⟩ ∧ r1 = t.drop x.toNat := by
  cases R with
  | nil => simp [takeOne] at h
  | cons x t =>
    simp only [takeOne] at h
    split at h
    · rename_i hlt
      simp only [Option.some.injEq, Prod.mk.injEq] at h
      exact ⟨x, t, rfl, hlt, h.1.symm, h.2.symm⟩
    · cases h
theorem takeOne_len {R : List UInt8} {a : ByteArray} {r1 : List UInt8} (h : takeOne R = some (a, r1)) : r1.length ≤ R.length := by
  obtain ⟨x, t, rfl, _, _, rfl⟩ := takeOne_some h
  simp; omega
theorem takeSteps_succ {n : Nat} {R : List UInt8} {L : List (ByteArray × ByteArray)} (h : takeSteps (n + 1) R = some L) :
    ∃ a r1 b r2 L2, takeOne R = some (a, r1) ∧ takeOne r1 = some (b, r2) ∧ takeSteps n r2 = some L2 ∧ L = (a, b) :: L2 := by
  simp only [takeSteps] at h
  split at h
  · cases h
  · rename_i a r1 h1
    split at h
    · cases h
    · rename_i b r2 h2
      obtain ⟨L2, h3, rfl⟩ := Option.map_eq_some_iff.1 h
      exact ⟨a, r1, b, r2, L2, h1, h2, h3, rfl⟩
theorem take_c {w : World} {g q : Nat} {gc : Array Value} {gt : TypeId} {R r1 : List UInt8} {a : ByteArray} {v : Value} (h : takeOne R = some (a, r1)) (hlen : R.length ≤ 128) (hg : w.heap[g]? = some (.cells gc gt (0, 0)))
    (hq : w.heap[q]? = some (.cells #[v] 92 (0, 0))) (hr : RestAt gc g R v) :
    Calls Tryz.prog 132 #[.pointer (some ⟨q, 0, none⟩)] w fun e w' => ∃ v', e = .returned (.string a) ∧ w'.heap[q]? = some (.cells #[v'] 92 (0, 0)) ∧ RestAt gc g r1 v' ∧ Fr (· = q) w w' := by
  obtain ⟨x, t, rfl, hx, rfl, rfl⟩ := takeOne_some h
  exact take_calls w g q gc gt x t v (by simp at hlen; omega) hx hg hq hr
theorem Tryz.info54 : (Tryz.prog.info? 54).map (fun i => (i.zero, i.size, i.bytes)) = some (some (.agg #[.string ⟨#[]⟩, .string ⟨#[]⟩]), 2, 32) := by kernel_rfl
theorem heap_alloc_old' {w : World} {k : Nat} {x : Obj} (o : Obj) (h : w.heap[k]? = some x) : (w.alloc o).heap[k]? = some x := by
  rw [hp_alloc, if_neg (ne_size_of_hp h)]; exact h
theorem news2 (w : World) (x y : Value) (t : TypeId) : ∀ (j : Nat) u, ([x, y] : List Value)[j]? = some u → (w.alloc (.cells #[x, y] t)).cell? ((⟨w.heap.size, 0, none⟩ : Addr).add j) = some u := by
  intro j u hj
  match j, hj with
  | 0, hj => rw [← hj]; simp [Addr.add]
  | 1, hj => rw [← hj]; simp [Addr.add]
theorem one2 (a b : ByteArray) : ∀ u ∈ ([.string a, .string b] : List Value), u.oneCell' = true := by
  intro u hu
  simp at hu
  rcases hu with rfl | rfl <;> rfl
theorem own_other {w : World} {base : Nat} {e : TypeId} {size : Nat} {v : Value} {n : Nat} {xs : List Value} {k : Nat} {x : Obj} (h : w.ownsRow base e size v n xs) (hk : w.heap[k]? = some x) (hx : kindOf x ≠ e + 1) : ¬ v.ownBlock = some k := by
  intro hv
  rcases h.2 with ⟨rfl, _⟩ | ⟨g, cap, cur, rfl, hg, hh, r⟩
  · simp [Value.ownBlock] at hv
  · obtain rfl : g = k := by simpa [Value.ownBlock] using hv
    rw [hh] at hk
    exact hx (by rw [← Option.some.inj hk]; rfl)
theorem own_base {w : World} {base : Nat} {e : TypeId} {size : Nat} {v : Value} {n : Nat} {xs : List Value} {k : Nat} (h : w.ownsRow base e size v n xs) (hv : v.ownBlock = some k) : base ≤ k := by
  rcases h.2 with ⟨rfl, _⟩ | ⟨g, cap, cur, rfl, hg, hh, r⟩
  · simp [Value.ownBlock] at hv
  · obtain rfl : g = k := by simpa [Value.ownBlock] using hv
    exact hg
theorem own_slice {w : World} {base : Nat} {e : TypeId} {size : Nat} {v : Value} {n : Nat} {xs : List Value} (h : w.ownsRow base e size v n xs) : ∃ a m c, v = .slice a m c := by
  rcases h.2 with ⟨rfl, _⟩ | ⟨g, cap, cur, rfl, _⟩
  · exact ⟨_, _, _, rfl⟩
  · exact ⟨_, _, _, rfl⟩
theorem ownsRow_base_le {w : World} {base base' : Nat} {e : TypeId} {size : Nat} {v : Value} {n : Nat} {xs : List Value} (h : w.ownsRow base e size v n xs) (hb : base' ≤ base) : w.ownsRow base' e size v n xs := by
  refine ⟨h.1, ?_⟩
  rcases h.2 with h2 | ⟨g, cap, cur, hv, hg, r⟩
  · exact Or.inl h2
  · exact Or.inr ⟨g, cap, cur, hv, Nat.le_trans hb hg, r⟩
theorem ownsRow_drew {w : World} {base : Nat} {e : TypeId} {size : Nat} {v : Value} {n : Nat} {xs : List Value} (h : w.ownsRow base e size v n xs) : w.drew.ownsRow base e size v n xs := h
/-- What the call owns stays owned, if no block of its kind turns. -/
theorem ownsRow_fr {w w' : World} {base : Nat} {e : TypeId} {size : Nat} {v : Value} {n : Nat} {xs : List Value} {S : Nat → Prop} (h : w.ownsRow base e size v n xs) (hf : Fr S w w')
    (hS : ∀ k, S k → ∃ o, w.heap[k]? = some o ∧ kindOf o ≠ e + 1) : w'.ownsRow base e size v n xs := by
  obtain ⟨h1, h2⟩ := h
  refine ⟨h1, ?_⟩
  rcases h2 with h2 | ⟨g, cap, cur, hv, hg, hh, r⟩
  · exact Or.inl h2
  · refine Or.inr ⟨g, cap, cur, hv, hg, hf.get hh (fun hs => ?_), r⟩
    obtain ⟨o, ho, hk⟩ := hS g hs
    rw [hh] at ho
    exact hk (by rw [← Option.some.inj ho]; rfl)
/-- A slice value whose steps read as l: nil if there are none. -/
def StepsVal (w : World) (B : Nat) (v : Value) (l : List (ByteArray × ByteArray)) : Prop := w.ownsRow B 54 2 v l.length (stepCells l)
def ParsePost (w : World) (r : RecM) (ok : Bool) (e : Ending) (w' : World) : Prop :=
  ∃ sv, e = .returned (.tuple #[.agg (rcells r.kind r.epoch r.index r.saga r.reply sv), .bool ok]) ∧ StepsVal w' w.heap.size sv r.steps ∧ New w w'
theorem epochB_lt (bs : List UInt8) : epochB bs < 2 ^ 32 := by
  have := leVal_lt ((bs.drop 5).take 4)
  refine Nat.lt_of_lt_of_le this (Nat.pow_le_pow_right (by omega) ?_)
  simp; omega
theorem u32_wrap {n : Nat} (h : n < 2 ^ 32) : IntKind.u32.wrap (n : Int) = n := by
  simp [IntKind.wrap, IntKind.signed, IntKind.bits]
  omega
set_option maxRecDepth 100000 in
set_option maxHeartbeats 4000000 in
theorem parse_calls (w : World) (g : Nat) (gc : Array Value) (gt : TypeId) (bs : List UInt8) (r : RecM) (ok : Bool) (hbs : bs.length = 128) (hg : w.heap[g]? = some (.cells gc gt (0, 0))) (hgc : ∀ j, j < 128 → gc[j]? = some (bv (bs.getD j 0))) (hp : parseM bs = some (r, ok)) :
    Calls Tryz.prog 104 #[.slice (some ⟨g, 0, none⟩) 128 128] w (ParsePost w r ok) := by
  have h4 := hgc 4 (by omega)
  rw [List.getD_eq_getElem?_getD] at h4
  unfold bv at h4
  have hgl := lt_of_hp hg
  have hc4 : w.cell? ⟨g, 4, none⟩ = some (.int .u8 ((bs[4]?.getD 0).toNat : Int)) := by rw [cellv, hg, cellOf_cells, h4]
  have hwne := World.new_ne w ⟨g, 4, none⟩ hc4
  have Hgc := Lib.hid hgc
  have H4 := Lib.hid h4
  have Hbs := Lib.hid hbs
  have Hp := Lib.hid hp
  clear hgc h4 hbs hp
  go_enter Tryz.func104, Tryz.ntmps104
  go_upto_region 1 with fail
  go_cut [4] (fun s4 wx => s4 = .pointer (some ⟨w.heap.size + 1, 0, none⟩) ∧ wx.heap[w.heap.size + 1]? = some (.cells (rcells (kindB bs) (epochB bs) (indexB bs) (sagaB bs) (replyB bs) (.slice none 0 0)) 91 (0, 0)) ∧ New (w.alloc (.cells #[Value.int .u8 0, .int .u32 0, .int .i64 0, .int .i64 0, .int .i64 0, .slice none 0 0] 91)) wx)
  case first =>
    go_region_held3 (fun w' => w'.heap[g]? = some (.cells gc gt (0, 0)) ∧ w'.cell? ⟨g, 4, none⟩ = some (.int .u8 ((bs[4]?.getD 0).toNat : Int)))
      ((refine S_of H4.out ?_; (repeat (first | rw [hp_drew] | rw [hp_alloc, if_neg (by first | omega | (simp; omega))])); assumption))
      ((go_at_call 131; refine Calls.mono (get_row (gc := gc) (gt := gt) ?_ Hgc.out Hbs.out _ _ _ ?_ ?_) ?_; ((repeat (first | rw [hp_drew] | rw [hp_alloc, if_neg (by first | omega | (simp; omega))])); assumption); omega; omega; rintro e w' ⟨rfl, rfl⟩))
    all_goals
      have hwr := u32_wrap (epochB_lt bs)
      go_wp2_with fail
      go_meet
      refine ⟨rfl, ?_, ((Fr.refl _ _).alloc _).drew⟩
      rw [hp_drew, hp_alloc, if_pos (by simp)]
      simp only [rcells, kindB, indexB, sagaB, replyB]
      rw [← hwr]
      rfl
  case rest =>
    obtain ⟨rfl, hr1, hn1⟩ := hcut
    have hz1 : wc.heap[w.heap.size]? = some (.cells #[Value.int .u8 0, .int .u32 0, .int .i64 0, .int .i64 0, .int .i64 0, .slice none 0 0] 91 (0, 0)) := hn1.get (by rw [hp_alloc, if_pos rfl]) (fun f => f)
    have hg1 : wc.heap[g]? = some (.cells gc gt (0, 0)) := hn1.get (by rw [hp_alloc, if_neg (by omega)]; exact hg) (fun f => f)
    have hnw : New w wc := ((Fr.refl _ w).alloc _).trans hn1
    have hep := epochB_lt bs
    have hk : kindB bs < 256 := (bs[4]?.getD 0).toNat_lt
    simp only [rcells] at hr1
    clear hc4 hg hn1
    have hcv := cellv wc
    by_cases hk2 : kindB bs = 2
    · have hkB : ((kindB bs : Int) == 2) = true := by rw [hk2]; rfl
      have hso : sumOk bs ↔ (leVal ((bs.drop 0).take 4) : Int) = crcM ((bs.drop 4).take 124) := by simp [sumOk, hk2]
      have hkm : parseM bs = if sumOk bs then (takeSteps (bs[14]?.getD 0).toNat (bs.drop 15)).map (fun l => (recOf bs l, true)) else some (recOf bs [], false) := by simp [parseM, hk2]
      have qcrc := fun N => crc_q hg1 Hgc.out Hbs.out 4 124 124 N (by omega)
      have qget := fun N => get_q hg1 Hgc.out Hbs.out 0 4 128 N (by omega) (by omega)
      obtain ⟨hcr0, hcr1⟩ := crcM_u32 ((bs.drop 4).take 124)
      generalize crcM ((bs.drop 4).take 124) = cr at hcr0 hcr1 qcrc hso
      generalize leVal ((bs.drop 0).take 4) = lv at qget hso
      have Qcrc := Lib.hid qcrc
      have Qget := Lib.hid qget
      have Hkm := Lib.hid (hkm.symm.trans Hp.out)
      have hneq : ((lv : Int) != cr) = !decide (sumOk bs) := by
        by_cases h : sumOk bs
        · simp [h, hso.1 h]
        · have : ¬ (lv : Int) = cr := fun e => h (hso.2 e)
          simp [h, this]
      have hk2n : Hid (kindB bs = 2) := hk2
      clear hkm hso qcrc qget hk2
      by_cases hs : sumOk bs
      · rw [decide_eq_true hs] at hneq
        have Hs := Lib.hid hs
        clear hs
        have hmf : ∀ (fn : Fn) (first cap : Array Value) (w : World), (Instr.makeFunc fn first cap).run Tryz.prog w = .ok (.func fn first cap) w := fun _ _ _ _ => rfl
        have h14 := Hgc.out 14 (by omega)
        rw [List.getD_eq_getElem?_getD] at h14
        unfold bv at h14
        have hcl : (bs[14]?.getD 0).toNat < 256 := (bs[14]?.getD 0).toNat_lt
        go_wp2_with fail
        go_quiet (first | (go_at_call 131; exact Qget.out _) | (go_at_call 119; exact Qcrc.out _))
        have hcv2 := cellv (wc.drewN nq)
        have hr2 := (hp_drewN wc nq _).trans hr1
        have hz2 := (hp_drewN wc nq _).trans hz1
        have hg2 := (hp_drewN wc nq _).trans hg1
        have hn2 := hnw.drewN nq
        generalize wc.drewN nq = W2 at hcv2 hr2 hz2 hg2 hn2 ⊢
        clear hr1 hz1 hg1 hnw hcv
        have Hgl2 := Lib.hid (lt_of_hp hg2)
        have Hrl2 := Lib.hid (lt_of_hp hr2)
        have Hzl2 := Lib.hid (lt_of_hp hz2)
        have hcvA := cellv (W2.alloc (.cells #[.slice (some ⟨g, 15, none⟩) 113 113] 92))
        have hgA : (W2.alloc (.cells #[.slice (some ⟨g, 15, none⟩) 113 113] 92)).heap[g]? = some (.cells gc gt (0, 0)) := by rw [hp_alloc, if_neg (Nat.ne_of_lt Hgl2.out)]; exact hg2
        go_wp2_with fail
        have hgl2 := Hgl2.out
        have hrl2 := Hrl2.out
        have hzl2 := Hzl2.out
        clear hcvA hgA
        have hkm := Hkm.out
        rw [if_pos Hs.out] at hkm
        generalize hcnt : (bs[14]?.getD 0).toNat = cnt at hkm hcl ⊢
        obtain ⟨L, hL, hkm2⟩ := Option.map_eq_some_iff.1 hkm
        simp only [Prod.mk.injEq] at hkm2
        have HL := Lib.hid hL
        have Hkm2 := Lib.hid hkm2
        have Hcnt := Lib.hid hcnt
        clear hkm hkm2 hL hcnt h14 hcv2
        go_loopw [49] (fun i wr => ∃ m acc R L' sv v, m ≤ cnt ∧ R.length ≤ 113 ∧ i = .int .i64 (m : Nat) ∧ acc.length = m ∧ takeSteps (cnt - m) R = some L' ∧ acc ++ L' = L ∧ RestAt gc g R v ∧ wr.heap[W2.heap.size]? = some (.cells #[v] 92 (0, 0)) ∧
          wr.heap[w.heap.size + 1]? = some (.cells (rcells (kindB bs) (epochB bs) (indexB bs) (sagaB bs) (replyB bs) sv) 91 (0, 0)) ∧ StepsVal wr W2.heap.size sv acc ∧ Fr (fun k => k = W2.heap.size ∨ k = w.heap.size + 1) W2 wr) (fun i _ => cnt - (intOf i).toNat)
        case atStart =>
          refine ⟨0, [], bs.drop 15, L, .slice none 0 0, .slice (some ⟨g, 15, none⟩) 113 113, by omega, by simp [Hbs.out], rfl, rfl, HL.out, rfl, ⟨15, by simp [Hbs.out], ?_⟩, by rw [hp_alloc, if_pos rfl], ?_, ?_, (Fr.refl _ _).alloc _⟩
          · intro j hj
            simp [Hbs.out] at hj
            rw [Hgc.out _ (by omega)]
            simp [List.getElem?_drop]
          · rw [hp_alloc, if_neg (by omega)]; exact hr2
          · exact ⟨by simp [stepCells], Or.inl ⟨rfl, rfl⟩⟩
        case round =>
          obtain ⟨m, acc, R, L', sv, v, hm, hRl, rfl, hal, hts, hacc, hR, hq, hrr, hsv, hfr⟩ := hrel
          have hgr : wr.heap[g]? = some (.cells gc gt (0, 0)) := hfr.get hg2 (by omega)
          have hzr := hfr.get hz2 (by omega)
          by_cases hlt : m < cnt
          · obtain ⟨k, hk1⟩ : ∃ k, cnt - m = k + 1 := ⟨cnt - m - 1, by omega⟩
            rw [hk1] at hts
            obtain ⟨a, r1, b, r2, L2, ht1, ht2, ht3, rfl⟩ := takeSteps_succ hts
            have hl1 := takeOne_len ht1
            have hl2 := takeOne_len ht2
            have hgq : g ≠ W2.heap.size := Nat.ne_of_lt hgl2
            have hrq : w.heap.size + 1 ≠ W2.heap.size := Nat.ne_of_lt hrl2
            have HTS := Lib.hid (And.intro hacc ht3)
            have Hal := Lib.hid hal
            have Hk1 := Lib.hid hk1
            have Hfr := Lib.hid hfr
            have hBr : W2.heap.size ≤ wr.heap.size := hfr.size
            have Hzr := Lib.hid hzr
            clear hts hacc hal hk1 ht3 hfr hzr
            go_wp2_with fail
            refine Calls.mono (take_c ht1 (by omega) hgr hq hR) ?_
            rintro e w1 ⟨v1, rfl, hq1, hR1, hf1⟩
            have hg1 := hf1.get hgr hgq
            have hrr1 := hf1.get hrr hrq
            have hsv1 := ownsRow_fr hsv hf1 (by rintro k rfl; exact ⟨_, hq, by simp [kindOf]⟩)
            have Hf1 := Lib.hid hf1
            have HB2 := Lib.hid (Nat.le_trans hBr hf1.size)
            obtain ⟨i54, hi54, hz54, hs54, hb54⟩ := info_parts Tryz.info54
            have hml : acc.length + 1 ≤ maxLen := by rw [Hal.out]; unfold maxLen; omega
            have hmb : (acc.length + 1) * 32 ≤ 140737488355328 := by rw [Hal.out]; omega
            clear hq hgr hrr hsv hf1
            go_wp2_with fail
            have hr5 : (rcells (kindB bs) (epochB bs) (indexB bs) (sagaB bs) (replyB bs) sv)[5]? = some sv := rfl
            have hcv1 := cellv w1
            go_region_law (first
              | (refine step_append_lies _ (by rfl) (.tmp 54) (.tmp 59) 34 (by rfl) W2.heap.size 54 i54 (.agg #[.string ⟨#[]⟩, .string ⟨#[]⟩]) 2 32 Tryz.underlying34 hi54 hz54 hs54 hb54 rfl (by omega) sv acc.length (stepCells acc) (by rfl) hsvA ⟨w2.heap.size, 0, none⟩ 1 1 [.string a, .string b] (by rfl) rfl (news2 _ _ _ _) (one2 _ _) (by omega) hml hmb (Nat.le_trans hB2 (by simp)) _ rfl ?_; intro gq capq w3 hown3 hgrow3 hat3 hlt3; have hrr3 := (Fr.ofGrown hgrow3).get hrrA (own_other hsvA hrrA (by simp [kindOf])); have hfv3 := frozv w3; have hcv3 := cellv w3)
              | (go_simp; go_at_call 132; refine Calls.mono (take_c ht2 ?_ hg1 hq1 hR1) ?_; omega; rintro e w2 ⟨v2, rfl, hq2, hR2, hf2⟩; have hrr2 := hf2.get ((hp_drew _ _).trans hrr1) hrq; have hcv2 := cellv w2; have hrrA := (heap_alloc_old' (.cells #[.string a, .string b] 54) hrr2); have hsvA := (ownsRow_fr (ownsRow_drew hsv1) hf2 (by rintro k rfl; exact ⟨_, (hp_drew _ _).trans hq1, by simp [kindOf]⟩)).alloc (.cells #[.string a, .string b] 54); have hB2 := Nat.le_trans HB2.out hf2.size; have hcvA := cellv (w2.alloc (.cells #[.string a, .string b] 54)))
              | fail)
            all_goals
              have hq3 := (Fr.ofGrown hgrow3).get (heap_alloc_old' _ hq2) (own_other hsvA (heap_alloc_old' _ hq2) (by simp [kindOf]))
              have hfe : Fr (fun k => k = W2.heap.size ∨ k = w.heap.size + 1) W2 (w3.setCell ⟨w.heap.size + 1, 5, none⟩ (.slice (some ⟨gq, 0, none⟩) (acc.length + 1) capq)) := by
                have e1 := ((Hfr.out.trans' Hf1.out (fun _ _ h => Or.inl h)).drew.trans' hf2 (fun _ _ h => Or.inl h)).alloc (.cells #[.string a, .string b] 54)
                have e2 := e1.trans' (Fr.ofGrown hgrow3) (fun i hi h => absurd (own_base hsvA h) (by omega))
                exact e2.trans' (Fr.one _ _ _ _) (fun _ _ h => Or.inr h)
              have Hfin : Hid (∃ (m' : Nat) (acc' : List (ByteArray × ByteArray)) (R' : List UInt8) (L3 : List (ByteArray × ByteArray)) (sv' v' : Value), m' ≤ cnt ∧ R'.length ≤ 113 ∧ Value.int .i64 ((m : Int) + 1) = .int .i64 (m' : Nat) ∧ acc'.length = m' ∧ takeSteps (cnt - m') R' = some L3 ∧ acc' ++ L3 = L ∧ RestAt gc g R' v' ∧ (w3.setCell ⟨w.heap.size + 1, 5, none⟩ (.slice (some ⟨gq, 0, none⟩) (acc.length + 1) capq)).heap[W2.heap.size]? = some (.cells #[v'] 92 (0, 0)) ∧
                  (w3.setCell ⟨w.heap.size + 1, 5, none⟩ (.slice (some ⟨gq, 0, none⟩) (acc.length + 1) capq)).heap[w.heap.size + 1]? = some (.cells (rcells (kindB bs) (epochB bs) (indexB bs) (sagaB bs) (replyB bs) sv') 91 (0, 0)) ∧ StepsVal (w3.setCell ⟨w.heap.size + 1, 5, none⟩ (.slice (some ⟨gq, 0, none⟩) (acc.length + 1) capq)) W2.heap.size sv' acc' ∧ Fr (fun k => k = W2.heap.size ∨ k = w.heap.size + 1) W2 (w3.setCell ⟨w.heap.size + 1, 5, none⟩ (.slice (some ⟨gq, 0, none⟩) (acc.length + 1) capq))) := by
                refine ⟨m + 1, acc ++ [(a, b)], r2, L2, .slice (some ⟨gq, 0, none⟩) (acc.length + 1) capq, v2, by omega, by omega, by go_num, by simp [Hal.out], ?_, by simpa using HTS.out.1, hR2, ?_, ?_, ?_, hfe⟩
                · rw [show cnt - (m + 1) = k by have := Hk1.out; omega]; exact HTS.out.2
                · rw [hp_setCell, if_neg (Ne.symm hrq)]; exact hq3
                · rw [hp_setCell, if_pos rfl, hrr3]; rfl
                · have := ownsRow_fr hown3 (Fr.one (w.heap.size + 1) w3 5 (.slice (some ⟨gq, 0, none⟩) (acc.length + 1) capq)) (by rintro k rfl; exact ⟨_, hrr3, by simp [kindOf]⟩)
                  unfold StepsVal
                  rw [List.length_append, show stepCells (acc ++ [(a, b)]) = stepCells acc ++ [.string a, .string b] by simp [stepCells]]
                  exact this
              clear hfe hq3 hcv3 hfv3 hrr3 hcvA hcv2 hrr2 hcv1 hr5
              go_wp2_with fail
              go_roundw
              case rel => exact Hfin.out
              case measure => simp [intOf]; omega
          · obtain rfl : m = cnt := by omega
            rw [Nat.sub_self] at hts
            simp only [takeSteps, Option.some.injEq] at hts
            obtain rfl : acc = L := by rw [← hacc, ← hts]; simp
            have hkv : 1 ≤ kindB bs ∧ kindB bs ≤ 4 := by rw [hk2n.out]; omega
            have d1 : decide ((1 : Int) ≤ kindB bs) = true := by simp; omega
            have d2 : decide ((kindB bs : Int) ≤ 4) = true := by simp; omega
            have hnr : New w wr := hn2.trans' hfr (fun i hi h => by omega)
            obtain ⟨sa, sn, sc, rfl⟩ := own_slice hsv
            have Hsv := Lib.hid hsv
            have hcv := cellv wr
            have hfv := frozv wr
            simp only [rcells] at hrr
            clear hq hgr hts hacc hal hfr hsv hgl2 hrl2 hzl2
            go_wp2_with fail
            go_region
            all_goals
              go_wp2_with fail
              refine bodyPost_ret (results_row_tmp rfl _ _ w.heap.size 91 (rcells (kindB bs) (epochB bs) (indexB bs) (sagaB bs) (replyB bs) (.slice sa sn sc)) (0, 0) _ rfl (by simp [hp_drew, hp_setCell, hzr, rcells]) Tryz.underlying91 rfl Tryz.info91s) rfl ?_
              obtain ⟨rfl, rfl⟩ := Hkm2.out
              refine ⟨_, rfl, ?_, ?_⟩
              · refine ownsRow_base_le (ownsRow_fr (S := (· = w.heap.size)) Hsv.out ?_ (by rintro k rfl; exact ⟨_, hzr, by simp [kindOf]⟩)) (by have := hn2.size; omega)
                refine Fr.drew ?_
                repeat refine Fr.setCell (b := w.heap.size) ?_ (fun _ => by exact rfl) _ _
                exact Fr.refl _ _
              · refine Fr.drew ?_
                repeat refine Fr.setCell ?_ (fun hi => absurd hi (by omega)) _ _
                exact hnr
      · rw [decide_eq_false hs] at hneq
        have Hs := Lib.hid hs
        clear hs
        go_wp2_with fail
        go_quiet (first | (go_at_call 131; exact Qget.out _) | (go_at_call 119; exact Qcrc.out _))
        have hcv2 := cellv (wc.drewN nq)
        have hfv2 := frozv (wc.drewN nq)
        go_wp2_with fail
        refine bodyPost_ret (results_row_tmp rfl _ _ w.heap.size 91 (rcells (kindB bs) (epochB bs) (indexB bs) (sagaB bs) (replyB bs) (.slice none 0 0)) (0, 0) _ rfl (by simp [hp_setCell, hz1, rcells]) Tryz.underlying91 rfl Tryz.info91s) rfl ?_
        have := Hkm.out
        rw [if_neg Hs.out] at this
        simp only [Option.some.injEq, Prod.mk.injEq] at this
        obtain ⟨rfl, rfl⟩ := this
        refine ⟨_, rfl, ⟨by simp [recOf, stepCells], Or.inl ⟨rfl, rfl⟩⟩, ?_⟩
        repeat refine Fr.setCell ?_ (fun hi => absurd hi (by omega)) _ _
        exact hnw.drewN nq
    · have hkB : ((kindB bs : Int) == 2) = false := by simp; omega
      have hkm : parseM bs = if sumOk bs then some (recOf bs [], decide (1 ≤ kindB bs) && decide (kindB bs ≤ 4)) else some (recOf bs [], false) := by simp [parseM, hk2]
      have hso : sumOk bs ↔ (leVal ((bs.drop 0).take 4) : Int) = crcM ((bs.drop 4).take 28) := by simp [sumOk, hk2]
      have qcrc := fun N => crc_q hg1 Hgc.out Hbs.out 4 28 124 N (by omega)
      have qget := fun N => get_q hg1 Hgc.out Hbs.out 0 4 128 N (by omega) (by omega)
      obtain ⟨hcr0, hcr1⟩ := crcM_u32 ((bs.drop 4).take 28)
      generalize crcM ((bs.drop 4).take 28) = cr at hcr0 hcr1 qcrc hso
      generalize leVal ((bs.drop 0).take 4) = lv at qget hso
      have Qcrc := Lib.hid qcrc
      have Qget := Lib.hid qget
      have Hkm := Lib.hid (hkm.symm.trans Hp.out)
      have hneq : ((lv : Int) != cr) = !decide (sumOk bs) := by
        by_cases h : sumOk bs
        · simp [h, hso.1 h]
        · have : ¬ (lv : Int) = cr := fun e => h (hso.2 e)
          simp [h, this]
      clear hkm hso qcrc qget
      by_cases hs : sumOk bs
      · rw [decide_eq_true hs] at hneq
        have Hs := Lib.hid hs
        clear hs
        go_wp2_with fail
        go_quiet (first | (go_at_call 131; exact Qget.out _) | (go_at_call 119; exact Qcrc.out _))
        have hcv2 := cellv (wc.drewN nq)
        have hfv2 := frozv (wc.drewN nq)
        go_wp2_with fail
        have hr2 := (hp_drewN wc nq _).trans hr1
        have hz2 := (hp_drewN wc nq _).trans hz1
        have hn2 := hnw.drewN nq
        generalize wc.drewN nq = W2 at hcv2 hfv2 hr2 hz2 hn2 ⊢
        clear hr1 hz1 hg1 hnw hcv
        have fin : ∀ (W : World) (b : Bool), W.heap[w.heap.size]? = some (.cells (rcells (kindB bs) (epochB bs) (indexB bs) (sagaB bs) (replyB bs) (.slice none 0 0)) 91 (0, 0)) → New w W → b = (decide (1 ≤ kindB bs) && decide (kindB bs ≤ 4)) → ParsePost w r ok (.returned (.tuple #[.agg (rcells (kindB bs) (epochB bs) (indexB bs) (sagaB bs) (replyB bs) (.slice none 0 0)), .bool b])) W := by
          intro W b h1 h2 h3
          have := Hkm.out
          rw [if_pos Hs.out] at this
          simp only [Option.some.injEq, Prod.mk.injEq] at this
          obtain ⟨rfl, rfl⟩ := this
          exact ⟨_, by rw [h3]; rfl, ⟨by simp [recOf, stepCells], Or.inl ⟨rfl, rfl⟩⟩, h2⟩
        have Fin := Lib.hid fin
        clear fin
        by_cases h1 : 1 ≤ kindB bs
        · by_cases h4 : kindB bs ≤ 4
          · have d1 : decide ((1 : Int) ≤ kindB bs) = true := by simp; omega
            have d2 : decide ((kindB bs : Int) ≤ 4) = true := by simp; omega
            go_region
            all_goals
              go_wp2_with fail
              refine bodyPost_ret (results_row_tmp rfl _ _ w.heap.size 91 (rcells (kindB bs) (epochB bs) (indexB bs) (sagaB bs) (replyB bs) (.slice none 0 0)) (0, 0) _ rfl (by simp [hp_drew, hp_setCell, hz2, rcells]) Tryz.underlying91 rfl Tryz.info91s) rfl ?_
              refine Fin.out _ true (by simp [hp_drew, hp_setCell, hz2, rcells]) ?_ (by simp [h1, h4])
              refine Fr.drew ?_
              repeat refine Fr.setCell ?_ (fun hi => absurd hi (by omega)) _ _
              exact hn2
          · have d1 : decide ((1 : Int) ≤ kindB bs) = true := by simp; omega
            have d2 : decide ((kindB bs : Int) ≤ 4) = false := by simp; omega
            go_region
            all_goals
              go_wp2_with fail
              refine bodyPost_ret (results_row_tmp rfl _ _ w.heap.size 91 (rcells (kindB bs) (epochB bs) (indexB bs) (sagaB bs) (replyB bs) (.slice none 0 0)) (0, 0) _ rfl (by simp [hp_drew, hp_setCell, hz2, rcells]) Tryz.underlying91 rfl Tryz.info91s) rfl ?_
              refine Fin.out _ false (by simp [hp_drew, hp_setCell, hz2, rcells]) ?_ (by simp [h4])
              refine Fr.drew ?_
              repeat refine Fr.setCell ?_ (fun hi => absurd hi (by omega)) _ _
              exact hn2
        · have d1 : decide ((1 : Int) ≤ kindB bs) = false := by simp; omega
          go_region
          all_goals
            go_wp2_with fail
            refine bodyPost_ret (results_row_tmp rfl _ _ w.heap.size 91 (rcells (kindB bs) (epochB bs) (indexB bs) (sagaB bs) (replyB bs) (.slice none 0 0)) (0, 0) _ rfl (by simp [hp_drew, hp_setCell, hz2, rcells]) Tryz.underlying91 rfl Tryz.info91s) rfl ?_
            refine Fin.out _ false (by simp [hp_drew, hp_setCell, hz2, rcells]) ?_ (by simp [h1])
            refine Fr.drew ?_
            repeat refine Fr.setCell ?_ (fun hi => absurd hi (by omega)) _ _
            exact hn2
      · rw [decide_eq_false hs] at hneq
        have Hs := Lib.hid hs
        clear hs
        go_wp2_with fail
        go_quiet (first | (go_at_call 131; exact Qget.out _) | (go_at_call 119; exact Qcrc.out _))
        have hcv2 := cellv (wc.drewN nq)
        have hfv2 := frozv (wc.drewN nq)
        go_wp2_with fail
        refine bodyPost_ret (results_row_tmp rfl _ _ w.heap.size 91 (rcells (kindB bs) (epochB bs) (indexB bs) (sagaB bs) (replyB bs) (.slice none 0 0)) (0, 0) _ rfl (by simp [hp_setCell, hz1, rcells]) Tryz.underlying91 rfl Tryz.info91s) rfl ?_
        have := Hkm.out
        rw [if_neg Hs.out] at this
        simp only [Option.some.injEq, Prod.mk.injEq] at this
        obtain ⟨rfl, rfl⟩ := this
        refine ⟨_, rfl, ⟨by simp [recOf, stepCells], Or.inl ⟨rfl, rfl⟩⟩, ?_⟩
        repeat refine Fr.setCell ?_ (fun hi => absurd hi (by omega)) _ _
        exact hnw.drewN nq
end Go.Proofs.YtkafmfdipmhleaaGreatDoor

namespace Go.Proofs.YtkafmfdipmhleaaGreatDoor
open Go.RowKit
/-- The region of a number, out of a body. -/
def regionAt (n : Nat) : Code → Option Code
  | .region m l b => if m = n then some (.region m l b) else none
  | .loop c => regionAt n c
  | .seq a b => match regionAt n a with
    | some c => some c
    | none => regionAt n b
  | .block _ c => regionAt n c
  | .scope c => regionAt n c
  | .cond _ a b => match regionAt n a with
    | some c => some c
    | none => regionAt n b
  | _ => none
def CallM.cells (c : CallM) : List Value := [.int .i64 c.saga, .int .i64 c.step, .bool c.back, .string c.data]
structure PartM where
  log : List (CallM × Int)
  effs : List CallM
  l : List Int
  at_ : Int
  /-- All that is its own lies from here on. -/
  lo : Nat
def logCells (l : List (CallM × Int)) : List Value := l.flatMap fun p => p.1.cells ++ [.int .i64 p.2]
def effCells (l : List CallM) : List Value := l.flatMap CallM.cells
/-- A slice whose numbers read as l. -/
def IntsAt (w : World) (v : Value) (l : List Int) : Prop :=
  (l = [] ∧ ∃ a c, v = .slice a 0 c) ∨ ∃ b off cap c, v = .slice (some ⟨b, off, none⟩) l.length cap ∧ w.heap[b]? = some (.cells c 3 (0, 0)) ∧ ∀ j x, l[j]? = some x → c[off + j]? = some (.int .i64 x)
theorem IntsAt.keep {w w' : World} {v : Value} {l : List Int} (h : IntsAt w v l) (hf : ∀ (k : Nat) (o : Obj), w.heap[k]? = some o → kindOf o = 4 → w'.heap[k]? = some o) : IntsAt w' v l := by
  rcases h with h | ⟨b, off, cap, c, e, h1, h2⟩
  · exact .inl h
  · exact .inr ⟨b, off, cap, c, e, hf b _ h1 rfl, h2⟩
structure PAt (w : World) (pb : Nat) (p : PartM) : Prop where
  ex : ∃ lv ev iv B, w.heap[pb]? = some (.cells #[lv, ev, iv, .int .i64 p.at_] 44 (0, 0)) ∧ w.ownsRow B 48 5 lv p.log.length (logCells p.log) ∧ w.ownsRow B 46 4 ev p.effs.length (effCells p.effs) ∧ IntsAt w iv p.l ∧ (B ≤ w.heap.size ∧ B = p.lo ∧ B ≤ pb) ∧ ∀ a m c, iv = .slice (some a) m c → a.block < pb
theorem Tryz.info46 : (Tryz.prog.info? 46).map (fun i => (i.zero, i.size, i.bytes)) = some (some (.agg #[.int .i64 0, .int .i64 0, .bool false, .string ⟨#[]⟩]), 4, 40) := by kernel_rfl
theorem Tryz.info48 : (Tryz.prog.info? 48).map (fun i => (i.zero, i.size, i.bytes)) = some (some (.agg #[.int .i64 0, .int .i64 0, .bool false, .string ⟨#[]⟩, .int .i64 0]), 5, 48) := by kernel_rfl
theorem own_lt {w : World} {base : Nat} {e : TypeId} {size : Nat} {v : Value} {n : Nat} {xs : List Value} (h : w.ownsRow base e size v n xs) {k : Nat} (hv : v.ownBlock = some k) : k < w.heap.size := (h.lt k hv).2
theorem call_one (c : CallM) : ∀ u ∈ c.cells, u.oneCell' = true := by
  intro u hu
  simp [CallM.cells] at hu
  rcases hu with rfl | rfl | rfl | rfl <;> rfl
noncomputable def ptR8 : Code := ((Tryz.f58.body).bind (regionAt 8)).getD .skip
noncomputable def ptR18 : Code := ((Tryz.f58.body).bind (regionAt 18)).getD .skip
noncomputable def ptR3 : Code := ((Tryz.f58.body).bind (regionAt 3)).getD .skip
set_option maxRecDepth 100000 in
set_option maxHeartbeats 4000000 in
/-- p.Effects = append(p.Effects, c). -/
theorem pt_r8 (pb cb : Nat) (c : CallM) (effs : List CallM) (lv ev iv atv : Value) (B : Nat) (W : World)
    (hp : W.heap[pb]? = some (.cells #[lv, ev, iv, atv] 44 (0, 0))) (hc : W.heap[cb]? = some (.cells c.cells.toArray 46 (0, 0))) (ho : W.ownsRow B 46 4 ev effs.length (effCells effs)) (hB : B ≤ W.heap.size)
    (hne : ev.ownBlock ≠ some cb) (hl : effs.length < 2 ^ 30)
    {ds : List Deferred} {x1 x2 x4 x5 x6 x7 x8 x9 x10 x11 x12 x13 x14 x15 x16 x17 x18 x19 x20 x21 x22 x23 x24 x25 x26 x27 x28 x29 x30 x31 x32 x33 x34 x35 x36 x37 x38 x39 x40 x41 x42 x43 x44 x45 x46 x47 x48 x49 x50 x51 x52 x53 x54 x55 x56 x57 x58 x59 x60 x61 x62 x63 x64 x65 x66 x67 x68 x69 x70 x71 x72 x73 x74 x75 x76 x77 x78 x79 x80 x81 x82 x83 x84 x85 x86 x87 x88 x89 : Value} {Q : Exit → Act → World → Prop}
    (hQ : ∀ (y41 y42 y43 y44 y45 y46 y47 y48 y49 y50 ev' : Value) (w' : World), Fr (fun k => k = pb ∨ ev.ownBlock = some k) W w' → w'.heap[pb]? = some (.cells #[lv, ev', iv, atv] 44 (0, 0)) → w'.ownsRow B 46 4 ev' (effs ++ [c]).length (effCells (effs ++ [c])) → (∀ k, ev'.ownBlock = some k → ev.ownBlock = some k ∨ W.heap.size ≤ k) → Q .normal ⟨#[.pointer (some ⟨pb, 0, none⟩), x1,x2, .pointer (some ⟨cb, 0, none⟩), x4,x5,x6,x7,x8,x9,x10,x11,x12,x13,x14,x15,x16,x17,x18,x19,x20,x21,x22,x23,x24,x25,x26,x27,x28,x29,x30,x31,x32,x33,x34,x35,x36,x37,x38,x39,x40,y41,y42,y43,y44,y45,y46,y47,y48,y49,y50,x51,x52,x53,x54,x55,x56,x57,x58,x59,x60,x61,x62,x63,x64,x65,x66,x67,x68,x69,x70,x71,x72,x73,x74,x75,x76,x77,x78,x79,x80,x81,x82,x83,x84,x85,x86,x87,x88,x89], ds⟩ w') :
    Code.wp Tryz.prog ptR8 Q ⟨#[.pointer (some ⟨pb, 0, none⟩), x1,x2, .pointer (some ⟨cb, 0, none⟩), x4,x5,x6,x7,x8,x9,x10,x11,x12,x13,x14,x15,x16,x17,x18,x19,x20,x21,x22,x23,x24,x25,x26,x27,x28,x29,x30,x31,x32,x33,x34,x35,x36,x37,x38,x39,x40,x41,x42,x43,x44,x45,x46,x47,x48,x49,x50,x51,x52,x53,x54,x55,x56,x57,x58,x59,x60,x61,x62,x63,x64,x65,x66,x67,x68,x69,x70,x71,x72,x73,x74,x75,x76,x77,x78,x79,x80,x81,x82,x83,x84,x85,x86,x87,x88,x89], ds⟩ W := by
  have hsh := own_slice ho
  obtain ⟨va, vm, vc, rfl⟩ := hsh
  have a1 : W.cell? ⟨pb, 1, none⟩ = some (.slice va vm vc) := by rw [cellv, hp]; rfl
  have f1 : W.frozen? ⟨pb, 1, none⟩ = false := by rw [frozv, hp]; rfl
  have c0 : W.cell? ⟨cb, 0, none⟩ = some (.int .i64 c.saga) := by rw [cellv, hc]; rfl
  have c1 : W.cell? ⟨cb, 1, none⟩ = some (.int .i64 c.step) := by rw [cellv, hc]; rfl
  have c2 : W.cell? ⟨cb, 2, none⟩ = some (.bool c.back) := by rw [cellv, hc]; rfl
  have c3 : W.cell? ⟨cb, 3, none⟩ = some (.string c.data) := by rw [cellv, hc]; rfl
  have hpe : (Value.slice va vm vc).ownBlock ≠ some pb := by
    intro e
    exact own_other ho hp (by simp [kindOf]) e
  have Hpb := Lib.hid hp
  have HF : Hid (∀ (w' : World), Fr (fun k => (Value.slice va vm vc).ownBlock = some k) W.drew w' → w'.heap[pb]? = some (.cells #[lv, .slice va vm vc, iv, atv] 44 (0, 0))) := fun w' hf => hf.get (w := W.drew) hp hpe
  obtain ⟨i46, hi46, hz46, hs46, hb46⟩ := info_parts Tryz.info46
  have hml : effs.length + 1 ≤ maxLen := by unfold maxLen; omega
  have hmb : (effs.length + 1) * 40 ≤ 140737488355328 := by omega
  have HO := Lib.hid ho
  have HQ := Lib.hid hQ
  have HB := Lib.hid hB
  clear hp hc ho hne hl hQ hB hpe
  conv => arg 2; whnf
  have hA : Hid (W.heap.size ≠ pb) := fun e => by have h := lt_of_hp Hpb.out; omega
  have hcell : ∀ (j : Nat) (u : Value), c.cells[j]? = some u → (W.drew.alloc (.cells c.cells.toArray 46)).cell? ((⟨W.heap.size, 0, none⟩ : Addr).add j) = some u := World.news_of_block (heap_alloc_new W.drew _)
  have Hcell := Lib.hid hcell
  clear hcell
  have aA : (W.alloc (.cells #[.int .i64 c.saga, .int .i64 c.step, .bool c.back, .string c.data] 46)).cell? ⟨pb, 1, none⟩ = some (.slice va vm vc) := by
    rw [cellv, heap_alloc_keep _ Hpb.out]; rfl
  refine wp_region_noPanic ?_
  go_region_law (first
    | (refine step_append_lies _ (by rfl) (.tmp 45) (.tmp 47) 42 (by rfl) B 46 i46 (.agg #[.int .i64 0, .int .i64 0, .bool false, .string ⟨#[]⟩]) 4 40 Tryz.underlying42 hi46 hz46 hs46 hb46 rfl (by omega) (.slice va vm vc) effs.length (effCells effs) (by rfl) ((ownsRow_drew HO.out).alloc _) ⟨W.heap.size, 0, none⟩ 1 1 c.cells (by rfl) rfl Hcell.out (call_one c) (by omega) hml hmb (Nat.le_trans HB.out (by simp)) _ rfl ?_; intro gq capq w3 hown3 hgrow3 hat3 hlt3; have hF3 := ((Fr.refl (fun k => (Value.slice va vm vc).ownBlock = some k) W.drew).alloc (.cells c.cells.toArray 46)).trans (Fr.ofGrown hgrow3); have hp3 := HF.out _ hF3; have hcv3 := cellv w3; have hfv3 := frozv w3)
    | fail)
  all_goals
    have hFa : Fr (fun k => k = pb ∨ (Value.slice va vm vc).ownBlock = some k) W w3 := (Fr.refl _ W).drew.trans (hF3.mono (fun _ _ h => .inr h))
    refine NoPanic.normal (HQ.out _ _ _ _ _ _ _ _ _ _ (.slice (some ⟨gq, 0, none⟩) (effs.length + 1) capq) _ (hFa.trans' (Fr.one pb w3 1 (.slice (some ⟨gq, 0, none⟩) (effs.length + 1) capq)) (fun _ _ e => .inl e)) ?_ ?_ ?_)
    · rw [hp_setCell, if_pos rfl, hp3]; rfl
    · have := ownsRow_fr hown3 (Fr.one pb w3 1 (.slice (some ⟨gq, 0, none⟩) (effs.length + 1) capq)) (by rintro k rfl; exact ⟨_, hp3, by simp [kindOf]⟩)
      rw [List.length_append, show effCells (effs ++ [c]) = effCells effs ++ c.cells by simp [effCells]]
      exact this
    · intro k hk
      simp only [Value.ownBlock, Option.some.injEq] at hk
      subst hk
      rcases hat3 with h | h
      · exact .inl h
      · right; rw [h]; simp
theorem ask_one (c : CallM) (rp : Int) : ∀ u ∈ c.cells ++ [Value.int .i64 rp], u.oneCell' = true := by
  intro u hu
  rw [List.mem_append] at hu
  rcases hu with h | h
  · exact call_one c u h
  · simp at h; subst h; rfl
set_option maxRecDepth 100000 in
set_option maxHeartbeats 4000000 in
/-- p.Log = append(p.Log, Asked{c, reply}). -/
theorem pt_r18 (pb cb : Nat) (c : CallM) (log : List (CallM × Int)) (rp : Int) (lv ev iv atv : Value) (B : Nat) (W : World)
    (hp : W.heap[pb]? = some (.cells #[lv, ev, iv, atv] 44 (0, 0))) (hc : W.heap[cb]? = some (.cells c.cells.toArray 46 (0, 0))) (ho : W.ownsRow B 48 5 lv log.length (logCells log)) (hB : B ≤ W.heap.size)
    (hne : lv.ownBlock ≠ some cb) (hl : log.length < 2 ^ 30)
    {ds : List Deferred} {x1 x2 x4 x5 x7 x8 x9 x10 x11 x12 x13 x14 x15 x16 x17 x18 x19 x20 x21 x22 x23 x24 x25 x26 x27 x28 x29 x30 x31 x32 x33 x34 x35 x36 x37 x38 x39 x40 x41 x42 x43 x44 x45 x46 x47 x48 x49 x50 x51 x52 x53 x54 x55 x56 x57 x58 x59 x60 x61 x62 x63 x64 x65 x66 x67 x68 x69 x70 x71 x72 x73 x74 x75 x76 x77 x78 x79 x80 x81 x82 x83 x84 x85 x86 x87 x88 x89 : Value} {Q : Exit → Act → World → Prop}
    (hQ : ∀ (y77 y78 y79 y80 y81 y82 y83 y84 y85 y86 y87 y88 lv' : Value) (w' : World), Fr (fun k => k = pb ∨ lv.ownBlock = some k) W w' → w'.heap[pb]? = some (.cells #[lv', ev, iv, atv] 44 (0, 0)) → w'.ownsRow B 48 5 lv' (log ++ [(c, rp)]).length (logCells (log ++ [(c, rp)])) → (∀ k, lv'.ownBlock = some k → lv.ownBlock = some k ∨ W.heap.size ≤ k) → Q .normal ⟨#[.pointer (some ⟨pb, 0, none⟩), x1,x2, .pointer (some ⟨cb, 0, none⟩), x4,x5, .int .i64 rp, x7,x8,x9,x10,x11,x12,x13,x14,x15,x16,x17,x18,x19,x20,x21,x22,x23,x24,x25,x26,x27,x28,x29,x30,x31,x32,x33,x34,x35,x36,x37,x38,x39,x40,x41,x42,x43,x44,x45,x46,x47,x48,x49,x50,x51,x52,x53,x54,x55,x56,x57,x58,x59,x60,x61,x62,x63,x64,x65,x66,x67,x68,x69,x70,x71,x72,x73,x74,x75,x76,y77,y78,y79,y80,y81,y82,y83,y84,y85,y86,y87,y88,x89], ds⟩ w') :
    Code.wp Tryz.prog ptR18 Q ⟨#[.pointer (some ⟨pb, 0, none⟩), x1,x2, .pointer (some ⟨cb, 0, none⟩), x4,x5, .int .i64 rp, x7,x8,x9,x10,x11,x12,x13,x14,x15,x16,x17,x18,x19,x20,x21,x22,x23,x24,x25,x26,x27,x28,x29,x30,x31,x32,x33,x34,x35,x36,x37,x38,x39,x40,x41,x42,x43,x44,x45,x46,x47,x48,x49,x50,x51,x52,x53,x54,x55,x56,x57,x58,x59,x60,x61,x62,x63,x64,x65,x66,x67,x68,x69,x70,x71,x72,x73,x74,x75,x76,x77,x78,x79,x80,x81,x82,x83,x84,x85,x86,x87,x88,x89], ds⟩ W := by
  have hsh := own_slice ho
  obtain ⟨va, vm, vc, rfl⟩ := hsh
  have a1 : W.cell? ⟨pb, 0, none⟩ = some (.slice va vm vc) := by rw [cellv, hp]; rfl
  have f1 : W.frozen? ⟨pb, 0, none⟩ = false := by rw [frozv, hp]; rfl
  have c0 : W.cell? ⟨cb, 0, none⟩ = some (.int .i64 c.saga) := by rw [cellv, hc]; rfl
  have c1 : W.cell? ⟨cb, 1, none⟩ = some (.int .i64 c.step) := by rw [cellv, hc]; rfl
  have c2 : W.cell? ⟨cb, 2, none⟩ = some (.bool c.back) := by rw [cellv, hc]; rfl
  have c3 : W.cell? ⟨cb, 3, none⟩ = some (.string c.data) := by rw [cellv, hc]; rfl
  have hpe : (Value.slice va vm vc).ownBlock ≠ some pb := by
    intro e
    exact own_other ho hp (by simp [kindOf]) e
  have Hpb := Lib.hid hp
  have HF : Hid (∀ (w' : World), Fr (fun k => (Value.slice va vm vc).ownBlock = some k) W.drew w' → w'.heap[pb]? = some (.cells #[.slice va vm vc, ev, iv, atv] 44 (0, 0))) := fun w' hf => hf.get (w := W.drew) hp hpe
  obtain ⟨i48, hi48, hz48, hs48, hb48⟩ := info_parts Tryz.info48
  have hml : log.length + 1 ≤ maxLen := by unfold maxLen; omega
  have hmb : (log.length + 1) * 48 ≤ 140737488355328 := by omega
  have HO := Lib.hid ho
  have HQ := Lib.hid hQ
  have HB := Lib.hid hB
  clear hp hc ho hne hl hQ hB hpe
  conv => arg 2; whnf
  have hA : Hid (W.heap.size ≠ pb) := fun e => by have h := lt_of_hp Hpb.out; omega
  have hcell : ∀ (j : Nat) (u : Value), (c.cells ++ [Value.int .i64 rp])[j]? = some u → (W.drew.alloc (.cells (c.cells ++ [Value.int .i64 rp]).toArray 48)).cell? ((⟨W.heap.size, 0, none⟩ : Addr).add j) = some u := World.news_of_block (heap_alloc_new W.drew _)
  have Hcell := Lib.hid hcell
  clear hcell
  have aA : (W.alloc (.cells #[.int .i64 c.saga, .int .i64 c.step, .bool c.back, .string c.data, .int .i64 rp] 48)).cell? ⟨pb, 0, none⟩ = some (.slice va vm vc) := by
    rw [cellv, heap_alloc_keep _ Hpb.out]; rfl
  refine wp_region_noPanic ?_
  go_region_law (first
    | (refine step_append_lies _ (by rfl) (.tmp 81) (.tmp 85) 41 (by rfl) B 48 i48 (.agg #[.int .i64 0, .int .i64 0, .bool false, .string ⟨#[]⟩, .int .i64 0]) 5 48 Tryz.underlying41 hi48 hz48 hs48 hb48 rfl (by omega) (.slice va vm vc) log.length (logCells log) (by rfl) ((ownsRow_drew HO.out).alloc _) ⟨W.heap.size, 0, none⟩ 1 1 (c.cells ++ [Value.int .i64 rp]) (by rfl) rfl Hcell.out (ask_one c rp) (by omega) hml hmb (Nat.le_trans HB.out (by simp)) _ rfl ?_; intro gq capq w3 hown3 hgrow3 hat3 hlt3; have hF3 := ((Fr.refl (fun k => (Value.slice va vm vc).ownBlock = some k) W.drew).alloc (.cells (c.cells ++ [Value.int .i64 rp]).toArray 48)).trans (Fr.ofGrown hgrow3); have hp3 := HF.out _ hF3; have hcv3 := cellv w3; have hfv3 := frozv w3)
    | fail)
  all_goals
    have hFa : Fr (fun k => k = pb ∨ (Value.slice va vm vc).ownBlock = some k) W w3 := (Fr.refl _ W).drew.trans (hF3.mono (fun _ _ h => .inr h))
    refine NoPanic.normal (HQ.out _ _ _ _ _ _ _ _ _ _ _ _ (.slice (some ⟨gq, 0, none⟩) (log.length + 1) capq) _ (hFa.trans' (Fr.one pb w3 0 (.slice (some ⟨gq, 0, none⟩) (log.length + 1) capq)) (fun _ _ e => .inl e)) ?_ ?_ ?_)
    · rw [hp_setCell, if_pos rfl, hp3]; rfl
    · have := ownsRow_fr hown3 (Fr.one pb w3 0 (.slice (some ⟨gq, 0, none⟩) (log.length + 1) capq)) (by rintro k rfl; exact ⟨_, hp3, by simp [kindOf]⟩)
      rw [List.length_append, show logCells (log ++ [(c, rp)]) = logCells log ++ (c.cells ++ [Value.int .i64 rp]) by simp [logCells]]
      exact this
    · intro k hk
      simp only [Value.ownBlock, Option.some.injEq] at hk
      subst hk
      rcases hat3 with h | h
      · exact .inl h
      · right; rw [h]; simp
end Go.Proofs.YtkafmfdipmhleaaGreatDoor

namespace Go.Proofs.YtkafmfdipmhleaaGreatDoor
open Go.RowKit
def sameCall (e c : CallM) : Bool := e.saga == c.saga && (e.step == c.step && e.back == c.back)
theorem effCells_get (l : List CallM) (k : Nat) (h : k < l.length) (q : Nat) (hq : q < 4) : (effCells l)[k * 4 + q]? = l[k].cells[q]? := by
  induction l generalizing k with
  | nil => simp at h
  | cons a l ih =>
    have ha : a.cells.length = 4 := rfl
    simp only [effCells, List.flatMap_cons]
    cases k with
    | zero =>
      rw [Nat.zero_mul, Nat.zero_add, List.getElem?_append_left (by omega)]
      rfl
    | succ k =>
      rw [List.getElem?_append_right (by omega), show (k + 1) * 4 + q - a.cells.length = k * 4 + q by omega]
      have := ih k (by simpa using h)
      simpa [effCells] using this
set_option maxRecDepth 100000 in
set_option maxHeartbeats 4000000 in
theorem done_calls {w : World} {pb : Nat} {p : PartM} (h : PAt w pb p) (c : CallM) (hl : p.effs.length < 2 ^ 30) :
    Calls Tryz.prog 83 #[.pointer (some ⟨pb, 0, none⟩), c.val] w fun e w' => e = .returned (.bool (p.effs.any fun e => sameCall e c)) ∧ New w w' := by
  obtain ⟨⟨lv, ev, iv, B, h1, _, ho, _, _⟩⟩ := h
  generalize p.effs = effs at ho hl ⊢
  have hsh := own_slice ho
  have hrow : ∀ k (hk : k < effs.length), ∃ g, (∃ m c', ev = .slice (some ⟨g, 0, none⟩) m c') ∧ ∀ w', New w w' → ∀ q v, effs[k].cells[q]? = some v → cellOf w'.heap[g]? (k * 4 + q) = some v := by
    intro k hk
    rcases ho with ⟨o1, ⟨_, h0⟩ | ⟨g, cap, cur, hv, hg, hh, _, _, _, htk⟩⟩
    · omega
    · refine ⟨g, ⟨_, _, hv⟩, fun w' hf q v hq => ?_⟩
      have hq4 : q < 4 := by
        have := (List.getElem?_eq_some_iff.1 hq).1
        simpa [CallM.cells] using this
      have := effCells_get effs k hk q hq4
      rw [hf.get hh (fun f => f), cellOf_cells]
      rw [← htk, List.getElem?_take_of_lt (by omega)] at this
      simpa [hq] using this
  obtain ⟨va, vm, vc, rfl⟩ := hsh
  have hvm : vm = effs.length := by
    rcases ho with ⟨_, ⟨e, h0⟩ | ⟨g, cap, cur, hv, _⟩⟩
    · simp at e; omega
    · simp at hv; exact hv.2.1
  have Hvm := Lib.hid hvm
  have Hrow := Lib.hid hrow
  clear hrow ho hvm
  have hcv := cellv w
  have hcv2 := cellv (w.alloc (.cells #[.int .i64 c.saga, .int .i64 c.step, .bool c.back, .string c.data] 46))
  have h1a := heap_alloc_keep (.cells #[.int .i64 c.saga, .int .i64 c.step, .bool c.back, .string c.data] 46) h1
  have hca := heap_alloc_new w (.cells #[.int .i64 c.saga, .int .i64 c.step, .bool c.back, .string c.data] 46)
  unfold CallM.val
  go_enter Tryz.func83, Tryz.ntmps83
  go_upto_region 1 with fail
  generalize hW1 : w.alloc (.cells #[.int .i64 c.saga, .int .i64 c.step, .bool c.back, .string c.data] 46) = W1 at hcv2 h1a hca ⊢
  have HF1 : Hid (New w W1) := by show New _ _; rw [← hW1]; exact (Fr.refl _ _).alloc _
  have HWs : Hid (W1.heap.size = w.heap.size + 1) := by show _ = _; rw [← hW1]; simp
  generalize w.heap.size = N at hca ⊢
  have Hca := Lib.hid hca
  clear hcv h1 hW1
  go_wp2_with fail
  go_loopw [12] (fun i wr => ∃ k : Nat, k ≤ effs.length ∧ i = .int .i64 k ∧ (effs.take k).any (fun e => sameCall e c) = false ∧ New W1 wr) (fun i _ => effs.length - (intOf i).toNat)
  case atStart => exact ⟨0, Nat.zero_le _, rfl, rfl, Fr.refl _ _⟩
  case round =>
    obtain ⟨k, hk, rfl, hno, hf⟩ := hrel
    have Hno := Lib.hid hno
    have Hf := Lib.hid hf
    clear hno hf
    by_cases hlt : k < effs.length
    · obtain ⟨g, ⟨m, c', hva⟩, hcc⟩ := Hrow.out k hlt
      simp only [Value.slice.injEq] at hva
      obtain ⟨rfl, _, _⟩ := hva
      have hc4 := hcc wr (HF1.out.trans Hf.out)
      have hcN := Hf.out.get Hca.out (fun f => f)
      have hsn : Hid ((effs.take (k + 1)).any (fun e => sameCall e c) = ((effs.take k).any (fun e => sameCall e c) || sameCall effs[k] c)) := by
        show _ = _
        rw [List.take_succ_eq_append_getElem hlt, List.any_append]
        simp
      have hall : Hid (sameCall effs[k] c = true → (effs.any fun e => sameCall e c) = true) := by
        intro h
        rw [List.any_eq_true]
        exact ⟨effs[k], List.getElem_mem hlt, h⟩
      clear hcc
      generalize effs[k] = e at hc4 hsn hall
      obtain ⟨es, et, eb, ed⟩ := e
      have x0 : wr.cell? ⟨g, k * 4, none⟩ = some (.int .i64 es) := by rw [cellv]; exact hc4 0 _ rfl
      have x1 : wr.cell? ⟨g, k * 4 + 1, none⟩ = some (.int .i64 et) := by rw [cellv]; exact hc4 1 _ rfl
      have x2 : wr.cell? ⟨g, k * 4 + 2, none⟩ = some (.bool eb) := by rw [cellv]; exact hc4 2 _ rfl
      have x3 : wr.cell? ⟨g, k * 4 + 3, none⟩ = some (.string ed) := by rw [cellv]; exact hc4 3 _ rfl
      have hvI : Hid ((k : Int) < vm) := by show _ < _; have := Hvm.out; omega
      have hvI' := hvI.out
      have hk0 : (0 : Int) ≤ k := by omega
      clear hc4 hcv2 h1a hca
      go_upto_region 4 with fail
      have hn1 := heap_alloc_new wr (.cells #[.int .i64 es, .int .i64 et, .bool eb, .string ed] 46)
      have hn2 := heap_alloc_keep (.cells #[.int .i64 es, .int .i64 et, .bool eb, .string ed] 46) hcN
      have Hf2 := Lib.hid (Hf.out.alloc (.cells #[.int .i64 es, .int .i64 et, .bool eb, .string ed] 46))
      clear x0 x1 x2 x3 hcN
      generalize wr.alloc (.cells #[.int .i64 es, .int .i64 et, .bool eb, .string ed] 46) = W2 at hn1 hn2 Hf2 ⊢
      generalize wr.heap.size = N2 at hn1 ⊢
      have hcv := cellv W2
      by_cases e1 : es = c.saga
      · by_cases e2 : et = c.step
        · by_cases e3 : eb = c.back
          · have q1 : (es == c.saga) = true := by simpa using e1
            have q2 : (et == c.step) = true := by simpa using e2
            have q3 : (eb == c.back) = true := by simpa using e3
            have hs : Hid (sameCall ⟨es, et, eb, ed⟩ c = true) := by show _ = _; simp [sameCall, q1, q2, q3]
            have Ha := Lib.hid (hall.out hs.out)
            clear e1 e2 e3 hall hsn
            go_wp2_with fail
            go_ret
            exact ⟨by rw [Ha.out]; rfl, HF1.out.trans Hf2.out⟩
          · have q1 : (es == c.saga) = true := by simpa using e1
            have q2 : (et == c.step) = true := by simpa using e2
            have q3 : (eb == c.back) = false := by simpa using e3
            have hs : Hid (sameCall ⟨es, et, eb, ed⟩ c = false) := by show _ = _; simp [sameCall, q3]
            clear e1 e2 e3 hall
            go_wp2_with fail
            go_roundw
            case rel => exact ⟨k + 1, by omega, by go_num, by rw [hsn.out, Hno.out, hs.out]; rfl, Hf2.out⟩
            case measure => simp [intOf]; omega
        · have q1 : (es == c.saga) = true := by simpa using e1
          have q2 : (et == c.step) = false := by simpa using e2
          have hs : Hid (sameCall ⟨es, et, eb, ed⟩ c = false) := by show _ = _; simp [sameCall, q2]
          clear e1 e2 hall
          go_wp2_with fail
          go_roundw
          case rel => exact ⟨k + 1, by omega, by go_num, by rw [hsn.out, Hno.out, hs.out]; rfl, Hf2.out⟩
          case measure => simp [intOf]; omega
      · have q1 : (es == c.saga) = false := by simpa using e1
        have hs : Hid (sameCall ⟨es, et, eb, ed⟩ c = false) := by show _ = _; simp [sameCall, q1]
        clear e1 hall
        go_wp2_with fail
        go_roundw
        case rel => exact ⟨k + 1, by omega, by go_num, by rw [hsn.out, Hno.out, hs.out]; rfl, Hf2.out⟩
        case measure => simp [intOf]; omega
    · have hkl : Hid (k = effs.length) := by show _ = _; omega
      have hnk : Hid (¬ (k : Int) < vm) := by show ¬ _; have := Hvm.out; omega
      have hnk' := hnk.out
      have Ha : Hid ((effs.any fun e => sameCall e c) = false) := by
        show _ = _
        have := Hno.out
        rw [hkl.out, List.take_length] at this
        exact this
      clear hca h1a hcv2
      go_wp2_with fail
      go_ret
      exact ⟨by rw [Ha.out]; rfl, HF1.out.trans Hf.out⟩
end Go.Proofs.YtkafmfdipmhleaaGreatDoor

namespace Go.Proofs.YtkafmfdipmhleaaGreatDoor
open Go.RowKit
set_option maxRecDepth 100000 in
set_option maxHeartbeats 4000000 in
/-- k = p.l[p.at%len(p.l)] % 6. -/
theorem pt_r3 (pb b off cap c0 : Nat) (m : Nat) (l : List Int) (lv ev : Value) (x : Int) (W : World) (hm : m < 2 ^ 40) (hl : l.length < 2 ^ 40)
    (hp : W.heap[pb]? = some (.cells #[lv, ev, .slice (some ⟨b, off, none⟩) l.length cap, .int .i64 m] 44 (0, 0))) (hx : W.cell? ⟨b, off + m % l.length, none⟩ = some (.int .i64 x)) (h0 : 0 < l.length) (_hc0 : c0 = 0)
    {ds : List Deferred} {x1 x2 x3 x4 x5 x6 x7 x8 x9 x10 x11 x12 x13 x14 x15 x16 x17 x18 x19 x20 x21 x22 x23 x24 x25 x26 x27 x28 x29 x30 x31 x32 x33 x34 x35 x36 x37 x38 x39 x40 x41 x42 x43 x44 x45 x46 x47 x48 x49 x50 x51 x52 x53 x54 x55 x56 x57 x58 x59 x60 x61 x62 x63 x64 x65 x66 x67 x68 x69 x70 x71 x72 x73 x74 x75 x76 x77 x78 x79 x80 x81 x82 x83 x84 x85 x86 x87 x88 x89 : Value} {Q : Exit → Act → World → Prop}
    (hQ : ∀ (y13 y14 y15 y16 y17 y18 y19 y20 y21 y22 y23 y24 y25 y26 y27 y28 : Value) (q : Nat), Q .normal ⟨#[.pointer (some ⟨pb, 0, none⟩), x1,x2,x3,x4, .int .i64 (x.tmod 6), x6,x7,x8,x9,x10,x11,x12,y13,y14,y15,y16,y17,y18,y19,y20,y21,y22,y23,y24,y25,y26,y27,y28, .int .i64 (x.tmod 6), x30,x31,x32,x33,x34,x35,x36,x37,x38,x39,x40,x41,x42,x43,x44,x45,x46,x47,x48,x49,x50,x51,x52,x53,x54,x55,x56,x57,x58,x59,x60,x61,x62,x63,x64,x65,x66,x67,x68,x69,x70,x71,x72,x73,x74,x75,x76,x77,x78,x79,x80,x81,x82,x83,x84,x85,x86,x87,x88,x89], ds⟩ (W.drewN q)) :
    Code.wp Tryz.prog ptR3 Q ⟨#[.pointer (some ⟨pb, 0, none⟩), x1,x2,x3,x4,x5,x6,x7,x8,x9,x10,x11,x12,x13,x14,x15,x16,x17,x18,x19,x20,x21,x22,x23,x24,x25,x26,x27,x28,x29,x30,x31,x32,x33,x34,x35,x36,x37,x38,x39,x40,x41,x42,x43,x44,x45,x46,x47,x48,x49,x50,x51,x52,x53,x54,x55,x56,x57,x58,x59,x60,x61,x62,x63,x64,x65,x66,x67,x68,x69,x70,x71,x72,x73,x74,x75,x76,x77,x78,x79,x80,x81,x82,x83,x84,x85,x86,x87,x88,x89], ds⟩ W := by
  have a2 : W.cell? ⟨pb, 2, none⟩ = some (.slice (some ⟨b, off, none⟩) l.length cap) := by rw [cellv, hp]; rfl
  have a3 : W.cell? ⟨pb, 3, none⟩ = some (.int .i64 m) := by rw [cellv, hp]; rfl
  have hlt : m % l.length < l.length := Nat.mod_lt _ h0
  have ht : (m : Int).tmod (l.length : Int) = ((m % l.length : Nat) : Int) := by
    rw [Int.tmod_eq_emod_of_nonneg (by omega)]; simp
  have hlt' : ((m % l.length : Nat) : Int) < l.length := by omega
  have hge : (0 : Int) ≤ ((m % l.length : Nat) : Int) := by omega
  have hn0 : ¬ l.length = 0 := by omega
  have HQ := Lib.hid hQ
  generalize hi : m % l.length = i at hx hlt ht hlt' hge
  have hn0' : ((l.length : Int) == 0) = false := by simp; intro e; simp [e] at h0
  generalize l.length = len at a2 hlt ht hlt' hge hn0 hn0'
  clear hp hQ hi h0 hm hl
  conv => arg 2; whnf
  go_quiet (fail)
  exact HQ.out _ _ _ _ _ _ _ _ _ _ _ _ _ _ _ _ nq
/-- Of the blocks that were there only those of the kinds K may have turned. -/
structure FrK (K : List Nat) (w w' : World) : Prop where
  os : w'.os = w.os
  tape : w'.tape = w.tape
  output : w'.output = w.output
  size : w.heap.size ≤ w'.heap.size
  block : ∀ (k : Nat) (o : Obj), w.heap[k]? = some o → kindOf o ∉ K → w'.heap[k]? = some o
theorem FrK.refl (K : List Nat) (w : World) : FrK K w w := ⟨rfl, rfl, rfl, Nat.le_refl _, fun _ _ h _ => h⟩
theorem FrK.trans {K : List Nat} {a b c : World} (h : FrK K a b) (k : FrK K b c) : FrK K a c :=
  ⟨k.os.trans h.os, k.tape.trans h.tape, k.output.trans h.output, Nat.le_trans h.size k.size, fun i o hi ho => k.block i o (h.block i o hi ho) ho⟩
theorem Fr.toK {S : Nat → Prop} {K : List Nat} {w w' : World} (h : Fr S w w') (hS : ∀ (k : Nat) (o : Obj), S k → w.heap[k]? = some o → kindOf o ∈ K) : FrK K w w' :=
  ⟨h.os, h.tape, h.output, h.size, fun k _ ho hk => h.get ho (fun s => hk (hS k _ s ho))⟩
/-- What lies below B is as it was. -/
structure Low (B : Nat) (w w' : World) : Prop where
  os : w'.os = w.os
  tape : w'.tape = w.tape
  output : w'.output = w.output
  size : w.heap.size ≤ w'.heap.size
  block : ∀ k, k < B → w'.heap[k]? = w.heap[k]?
theorem Low.refl (B : Nat) (w : World) : Low B w w := ⟨rfl, rfl, rfl, Nat.le_refl _, fun _ _ => rfl⟩
theorem Low.trans {B : Nat} {a b c : World} (h : Low B a b) (k : Low B b c) : Low B a c :=
  ⟨k.os.trans h.os, k.tape.trans h.tape, k.output.trans h.output, Nat.le_trans h.size k.size, fun i hi => (k.block i hi).trans (h.block i hi)⟩
theorem Low.le {A B : Nat} {w w' : World} (h : Low B w w') (hAB : A ≤ B) : Low A w w' := ⟨h.os, h.tape, h.output, h.size, fun k hk => h.block k (Nat.lt_of_lt_of_le hk hAB)⟩
theorem Low.below {B : Nat} {w w' : World} (h : Low B w w') : Below B w w' := ⟨h.os, h.tape, h.output, h.size, h.block⟩
theorem Fr.low {S : Nat → Prop} {w w' : World} {B : Nat} (h : Fr S w w') (hB : B ≤ w.heap.size) (hS : ∀ k, S k → B ≤ k) : Low B w w' := ⟨h.os, h.tape, h.output, h.size, fun k hk => h.block k (by omega) (fun s => by have := hS k s; omega)⟩
theorem FrK.mono {K L : List Nat} {w w' : World} (h : FrK K w w') (hK : ∀ k ∈ K, k ∈ L) : FrK L w w' :=
  ⟨h.os, h.tape, h.output, h.size, fun k o ho hk => h.block k o ho (fun e => hk (hK _ e))⟩
theorem own_kind {w : World} {base : Nat} {e : TypeId} {size : Nat} {v : Value} {n : Nat} {xs : List Value} (h : w.ownsRow base e size v n xs) {k : Nat} (hv : v.ownBlock = some k) : ∃ o, w.heap[k]? = some o ∧ kindOf o = e + 1 := by
  rcases h.2 with ⟨rfl, _⟩ | ⟨g, cap, cur, rfl, hg, hh, r⟩
  · simp [Value.ownBlock] at hv
  · obtain rfl : g = k := by simpa [Value.ownBlock] using hv
    exact ⟨_, hh, rfl⟩
theorem PAt.keep {w w' : World} {pb : Nat} {p : PartM} (h : PAt w pb p) (hs : w.heap.size ≤ w'.heap.size) (hf : ∀ (k : Nat) (o : Obj), w.heap[k]? = some o → (kindOf o = 45 ∨ kindOf o = 47 ∨ kindOf o = 49 ∨ (kindOf o = 4 ∧ k < pb)) → w'.heap[k]? = some o) : PAt w' pb p := by
  obtain ⟨⟨lv, ev, iv, B, h1, hlo, heo, hil, hB, hib⟩⟩ := h
  have hown : ∀ {e : TypeId} {size : Nat} {v : Value} {n : Nat} {xs : List Value}, w.ownsRow B e size v n xs → (e = 46 ∨ e = 48) → w'.ownsRow B e size v n xs := by
    intro e size v n xs h he
    refine ⟨h.1, ?_⟩
    rcases h.2 with h2 | ⟨g, cap, cur, hv, hg, hh, r⟩
    · exact .inl h2
    · exact .inr ⟨g, cap, cur, hv, hg, hf g _ hh (by rcases he with rfl | rfl <;> simp [kindOf]), r⟩
  refine ⟨⟨lv, ev, iv, B, hf pb _ h1 (.inl rfl), hown hlo (.inr rfl), hown heo (.inl rfl), ?_, ⟨Nat.le_trans hB.1 hs, hB.2⟩, hib⟩⟩
  rcases hil with h | ⟨b, off, cap, c, e, h1, h2⟩
  · exact .inl h
  · exact .inr ⟨b, off, cap, c, e, hf b _ h1 (.inr (.inr (.inr ⟨rfl, hib _ _ _ e⟩))), h2⟩
def PartM.k (p : PartM) : Int := if p.l = [] then 0 else if (p.l.getD (p.at_.toNat % p.l.length) 0).tmod 6 < 0 then (p.l.getD (p.at_.toNat % p.l.length) 0).tmod 6 + 6 else (p.l.getD (p.at_.toNat % p.l.length) 0).tmod 6
def PartM.next (p : PartM) : Int := if p.l = [] then p.at_ else p.at_ + 1
def PartM.knows (p : PartM) (c : CallM) : Bool := p.effs.any fun e => sameCall e c
def replyM (dn back : Bool) (k : Int) : Int := if dn then (if k = 3 ∨ k = 4 then 1 else 0) else if k = 3 ∨ (k = 5 ∧ back = true) then 1 else if k = 5 then 2 else if k = 4 then 1 else 0
def PartM.ask (p : PartM) (c : CallM) : PartM :=
  ⟨p.log ++ [(c, replyM (p.knows c) c.back p.k)], if p.knows c = true ∨ p.k = 3 ∨ p.k = 5 then p.effs else p.effs ++ [c], p.l, p.next, p.lo⟩
def PartM.small (p : PartM) : Prop := p.log.length < 2 ^ 30 ∧ p.effs.length < 2 ^ 30 ∧ p.l.length < 2 ^ 30 ∧ 0 ≤ p.at_ ∧ p.at_ < 2 ^ 30
end Go.Proofs.YtkafmfdipmhleaaGreatDoor
