/-
  What is proved: contracts of the journal's Room and Settle, on a disk that tells no errors.
-/
import Derived.Test.YtkafmfdipmhleaaGreatDoorFmt
import Derived.Deep.QuietTactic
import Derived.BigQuiet
namespace Go.Proofs.YtkafmfdipmhleaaGreatDoor
open Go.RowKit

structure JnM where
  epoch : Nat
  en : Nat
  fresh : Bool
def jnCells (db : Nat) (j : JnM) : Array Value := #[.iface 27 (.pointer (some ⟨db, 0, none⟩)), .int .u32 j.epoch, .int .i64 j.en, .bool j.fresh]
def JnAt (w : World) (jb db : Nat) (j : JnM) : Prop := w.heap[jb]? = some (.cells (jnCells db j) 132 (0, 0))

set_option maxHeartbeats 1000000 in
theorem Room_calls {w : World} {jb db bb : Nat} {j : JnM} {d : DiskM} (hj : JnAt w jb db j) (h : DiskAt w db bb d) :
    Calls Tryz.prog 45 #[.pointer (some ⟨jb, 0, none⟩)] w fun e w' => e = .returned (.int .i64 (wrap64 ((d.blocks.length : Int) - j.en))) ∧ w' = w.drew := by
  have hB : Calls Tryz.prog 177 #[.pointer (some ⟨db, 0, none⟩)] w.drew fun e w' => e = .returned (.int .i64 d.blocks.length) ∧ w.drew = w' := Blocks_calls (h.new ((Fr.refl _ w).drew))
  unfold JnAt jnCells at hj
  have HB := Lib.hid hB
  clear hB h
  have hcv := cellvd w
  go_enter Tryz.func45, Tryz.ntmps45
  go_wp2_with fail
  go_region_law (first
    | (go_simp; go_invoke; go_simp; go_at_call 177; refine Calls.mono HB.out ?_; rintro e w2 ⟨rfl, rfl⟩)
    | fail)
  all_goals
    go_wp2_with fail
    go_ret
    refine ⟨by simp [go_sem, wrap64, IntKind.wrap_i64], rfl⟩

def settleD (j : JnM) (d : DiskM) : DiskM := if j.fresh then d.flush else d
def SettlePost (w : World) (jb db bb : Nat) (j : JnM) (d : DiskM) (e : Ending) (w' : World) : Prop :=
  e = .returned .nilIface ∧ Fr (fun k => k = db ∨ k = bb ∨ k = jb) w w' ∧ DiskAt w' db bb (settleD j d) ∧ JnAt w' jb db { j with fresh := false }
theorem jn_ne {w : World} {jb db bb : Nat} {j : JnM} {d : DiskM} (hj : JnAt w jb db j) (h : DiskAt w db bb d) : jb ≠ db ∧ jb ≠ bb := by
  obtain ⟨_, _, _, _, h1, h2, _⟩ := h
  exact ⟨ne_of_kind hj h1 (by simp [kindOf]), ne_of_kind hj h2 (by simp [kindOf])⟩
theorem disk_lt {w : World} {db bb : Nat} {d : DiskM} (h : DiskAt w db bb d) : db < w.heap.size ∧ bb < w.heap.size := by
  obtain ⟨_, _, _, _, h1, h2, _⟩ := h
  exact ⟨lt_of_hp h1, lt_of_hp h2⟩
set_option maxRecDepth 100000 in
set_option maxHeartbeats 2000000 in
theorem Settle_calls {w : World} {jb db bb : Nat} {j : JnM} {d : DiskM} (hj : JnAt w jb db j) (h : DiskAt w db bb d) (hq : d.quiet) :
    Calls Tryz.prog 50 #[.pointer (some ⟨jb, 0, none⟩)] w (SettlePost w jb db bb j d) := by
  have hmf : ∀ (fn : Fn) (first cap : Array Value) (w : World), (Instr.makeFunc fn first cap).run Tryz.prog w = .ok (.func fn first cap) w := fun _ _ _ _ => rfl
  have hne := jn_ne hj h
  have hlt := disk_lt h
  have hjl := lt_of_hp hj
  have hd1 := h.new ((Fr.refl _ w).alloc (.cells #[.nilIface] 32))
  have hj1 := heap_alloc_keep (.cells #[.nilIface] 32) hj
  have he1 := heap_alloc_new w (.cells #[.nilIface] 32)
  have hF1 : Fr (fun k => k = db ∨ k = bb ∨ k = jb) w (w.alloc (.cells #[.nilIface] 32)) := (Fr.refl _ w).alloc _
  have Hq := Lib.hid hq
  have Hs : Hid (settleD j d = if j.fresh then d.flush else d) := rfl
  obtain ⟨ep, en, fresh⟩ := j
  go_enter_defers Tryz.func50, Tryz.ntmps50
  go_upto_region 2 with fail
  have HE : Hid (w.heap.size ≠ db ∧ w.heap.size ≠ bb ∧ w.heap.size ≠ jb ∧ ¬ w.heap.size < w.heap.size) := ⟨by omega, by omega, by omega, by omega⟩
  have Hne := Lib.hid hne
  have HF1 := Lib.hid hF1
  have Hd1 := Lib.hid hd1
  clear h hj hne hlt hjl hd1 hF1 hq
  generalize w.alloc (.cells #[.nilIface] 32) = W1 at hj1 he1 HF1 Hd1 ⊢
  have HEl := Lib.hid (rfl : w.heap.size = w.heap.size)
  generalize hE : w.heap.size = E at he1 HE ⊢
  have HEe := Lib.hid hE
  clear hE HEl
  unfold jnCells at hj1
  simp only at hj1
  have hcv := cellv W1
  have hfv := frozv W1
  cases fresh
  · go_wp2_with fail
    refine leaves_cons (f := 69) (args := #[.pointer (some ⟨E, 0, none⟩)]) (by simp) (by simp [go_sem]) ?_
    refine (idle69 _ _).mono ?_
    rintro e u' w'' ⟨rfl, rfl, rfl⟩
    have hsome : (W1.setCell ⟨E, 0, none⟩ Value.nilIface).cell? ⟨E, 0, none⟩ = some .nilIface := by rw [cellv, hp_setCell, if_pos rfl, he1]; rfl
    refine ⟨.nilIface, ?_, rfl, HF1.out.setCell (b := E) (fun h => absurd h (by rw [HEe.out]; omega)) 0 .nilIface, ?_, ?_⟩
    · simp [results, Tryz.results50, go_sem, hsome]
    · exact Hd1.out.frame (Fr.one E W1 0 .nilIface) (by rintro k rfl; exact ⟨HE.out.1, HE.out.2.1, _, he1, by simp [kindOf]⟩)
    · unfold JnAt
      rw [hp_setCell, if_neg (Ne.symm HE.out.2.2.1)]; exact hj1
  · go_upto_region 4 with (first
      | (go_at_call 178; refine Calls.mono (Flush_calls Hd1.out) ?_; rintro e w6 ⟨hf6, ⟨hb6, _⟩ | ⟨hb6, rfl, hd6⟩⟩; (rw [Hq.out.bad] at hb6; cases hb6))
      | (go_at_call 71; refine Calls.mono (check_ok w6) ?_; rintro e w7 ⟨rfl, rfl⟩)
      | fail)
    have hj7 := hf6.get hj1 (by rintro (e | e); exact Hne.out.1 e; exact Hne.out.2 e)
    have he7 := hf6.get he1 (by rintro (e | e); exact HE.out.1 e; exact HE.out.2.1 e)
    have HF7 := Lib.hid (HF1.out.trans (hf6.mono (fun k _ e => e.elim .inl (fun e => .inr (.inl e)))))
    have Hd7 := Lib.hid hd6
    clear hf6 hd6 hb6 hcv hfv
    have hcv := cellv w7
    have hfv := frozv w7
    go_upto_region 5 with fail
    have hj8 : (w7.setCell ⟨jb, 3, none⟩ (.bool false)).heap[jb]? = some (.cells #[.iface 27 (.pointer (some ⟨db, 0, none⟩)), .int .u32 ep, .int .i64 en, .bool false] 132 (0, 0)) := by
      rw [hp_setCell, if_pos rfl, hj7]; rfl
    have he8 : (w7.setCell ⟨jb, 3, none⟩ (.bool false)).heap[E]? = some (.cells #[.nilIface] 32 (0, 0)) := by
      rw [hp_setCell, if_neg HE.out.2.2.1]; exact he7
    have Hd8 := Lib.hid (Hd7.out.frame (Fr.one jb w7 3 (.bool false)) (by rintro k rfl; exact ⟨Hne.out.1, Hne.out.2, _, hj7, by simp [kindOf]⟩))
    have HF8 := Lib.hid (HF7.out.setCell (b := jb) (fun _ => .inr (.inr rfl)) 3 (.bool false))
    clear hcv hfv hj7 he7
    generalize w7.setCell ⟨jb, 3, none⟩ (.bool false) = W8 at hj8 he8 Hd8 HF8 ⊢
    have hcv := cellv W8
    have hfv := frozv W8
    go_wp2_with fail
    refine leaves_cons (f := 69) (args := #[.pointer (some ⟨E, 0, none⟩)]) (by simp) (by simp [go_sem]) ?_
    refine (idle69 _ _).mono ?_
    rintro e u' w'' ⟨rfl, rfl, rfl⟩
    have hsome : (W8.setCell ⟨E, 0, none⟩ Value.nilIface).cell? ⟨E, 0, none⟩ = some .nilIface := by rw [cellv, hp_setCell, if_pos rfl, he8]; rfl
    refine ⟨.nilIface, ?_, rfl, HF8.out.setCell (b := E) (fun h => absurd h (by rw [HEe.out]; omega)) 0 .nilIface, ?_, ?_⟩
    · simp [results, Tryz.results50, go_sem, hsome]
    · exact Hd8.out.frame (Fr.one E W8 0 .nilIface) (by rintro k rfl; exact ⟨HE.out.1, HE.out.2.1, _, he8, by simp [kindOf]⟩)
    · unfold JnAt
      rw [hp_setCell, if_neg (Ne.symm HE.out.2.2.1)]; exact hj8
end Go.Proofs.YtkafmfdipmhleaaGreatDoor
