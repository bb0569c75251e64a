/-
  What is proved: the contract of Status.
-/
import Derived.Test.YtkafmfdipmhleaaGreatDoorKs
namespace Go.Proofs.YtkafmfdipmhleaaGreatDoor
open Go.RowKit Go.Maps

def SagaM.status (g : SagaM) : Array Value := #[.int .i64 g.id, .int .i64 g.st, .int .i64 g.step, .int .i64 g.steps.length, .int .i64 g.tries, .int .i64 g.due]
theorem Tryz.info38s : (Tryz.prog.info? 38).map (·.size) = some 6 := by kernel_rfl
set_option maxRecDepth 100000 in
set_option maxHeartbeats 2000000 in
theorem Status_calls {w : World} {q : Pl} {bl : List Nat} {s : StM} {i : Nat} {g : SagaM} (hs : StAt w q bl s) (ho : s.sagas.Pairwise (fun a b => a.id < b.id)) (hg : s.sagas[i]? = some g) (hgi : 1 ≤ g.id ∧ g.id ≤ 1000) :
    Calls Tryz.prog 21 #[.pointer (some ⟨q.xb, 0, none⟩), .int .i64 g.id] w fun e w' => e = .returned (.tuple #[.agg g.status, .nilIface]) ∧ New w w' := by
  obtain ⟨b, hb, hbo⟩ := blk_of s.sagas bl hs.len ho i g hg
  have hN : New w (w.alloc (.cells #[.int .i64 0, .int .i64 0, .int .i64 0, .int .i64 0, .int .i64 0, .int .i64 0] 38)) := (Fr.refl _ w).alloc _
  have hs1 := hs.keepK (hN.toK (K := []) (fun _ _ f _ => f.elim)) (by simp)
  have hlk := look_some hs1.mp g.id (by omega) hbo
  have hsg := hs1.sg i g b hg hb
  have hx := hs1.eng
  have hr := heap_alloc_new w (.cells #[.int .i64 0, .int .i64 0, .int .i64 0, .int .i64 0, .int .i64 0, .int .i64 0] 38)
  obtain ⟨sv, hsb, _⟩ := hsg
  have HN := Lib.hid hN
  have Hr := Lib.hid hr
  simp only [egCells] at hx
  simp only [sgCells] at hsb
  have Hst : Hid (g.status = #[.int .i64 g.id, .int .i64 g.st, .int .i64 g.step, .int .i64 g.steps.length, .int .i64 g.tries, .int .i64 g.due]) := rfl
  clear hs ho hg hgi hb hbo hN hs1
  go_enter Tryz.func21, Tryz.ntmps21
  go_upto_region 1 with fail
  generalize w.alloc (.cells #[.int .i64 0, .int .i64 0, .int .i64 0, .int .i64 0, .int .i64 0, .int .i64 0] 38) = w1 at HN Hr hlk hx hsb hr ⊢
  have hcv := cellv w1
  have hfv := frozv w1
  go_wp2_with fail
  refine bodyPost_ret (results_row_tmp rfl _ _ w.heap.size 38 g.status (0, 0) _ rfl (by
    rw [hp_setCell, if_pos rfl, hp_setCell, if_pos rfl, hp_setCell, if_pos rfl, hp_setCell, if_pos rfl, hp_setCell, if_pos rfl, hp_setCell, if_pos rfl, Hr.out]; rfl) Tryz.underlying38 rfl Tryz.info38s) rfl ?_
  refine ⟨rfl, HN.out.trans' ((((((Fr.one w.heap.size w1 0 _).trans (Fr.one w.heap.size _ 1 _)).trans (Fr.one w.heap.size _ 2 _)).trans (Fr.one w.heap.size _ 3 _)).trans (Fr.one w.heap.size _ 4 _)).trans (Fr.one w.heap.size _ 5 _)) (fun i hi e => by omega)⟩
end Go.Proofs.YtkafmfdipmhleaaGreatDoor
