/-
  What is proved: contracts of sagas.Open and plain.Open, of an empty journal, on a disk that tells no errors; of plain.Format and NewPartner.
-/
import Derived.Test.YtkafmfdipmhleaaGreatDoorOp0
import Derived.Test.YtkafmfdipmhleaaGreatDoorAz
import Derived.Carry
namespace Go.Proofs.YtkafmfdipmhleaaGreatDoor
open Go.RowKit Go.Maps

/-- An engine was opened, and it has no saga. -/
def Open0Post (w : World) (db bb : Nat) (d : DiskM) (j : JnM) (pause : Int) (cv : Value) (e : Ending) (w' : World) : Prop :=
  ∃ xb jb mb, e = .returned (.tuple #[.pointer (some ⟨xb, 0, none⟩), .nilIface]) ∧ (w.heap.size ≤ xb ∧ w.heap.size ≤ jb ∧ w.heap.size ≤ mb) ∧ w'.heap[xb]? = some (.cells (egCells jb mb pause cv 0 false) 79 (0, 0)) ∧ JnAt w' jb db j ∧ DiskAt w' db bb d ∧
    w'.ownsMap Tryz.prog 3 ptrR mb 0 (dataOf []) ∧ Fr (· = db) w w'
set_option maxRecDepth 100000 in
set_option maxHeartbeats 4000000 in
theorem sOpen0_calls {w : World} {db bb : Nat} {d : DiskM} (h : DiskAt w db bb d) (hq : d.quiet) (r0 r1 : RecM) (ok1 : Bool) (h0 : parseM (d.look 0) = some (r0, true)) (hk : r0.kind = 1) (h1 : parseM (d.look 1) = some (r1, ok1))
    (hat : atOk ⟨r0.epoch, 1, true⟩ 1 r1 ok1 = false) (hl : d.fits = true) (pause : Int) (hp : 1 ≤ pause ∧ pause ≤ 64) (fn : Fn) (fs cs : Array Value) :
    Calls Tryz.prog 57 #[.iface 27 (.pointer (some ⟨db, 0, none⟩)), .int .i64 pause, .func fn fs cs] w (Open0Post w db bb d.count.count ⟨r0.epoch, 1, true⟩ pause (.func fn fs cs)) := by
  have hmf : ∀ (fn : Fn) (first cap : Array Value) (w : World), (Instr.makeFunc fn first cap).run Tryz.prog w = .ok (.func fn first cap) w := fun _ _ _ _ => rfl
  have hmm := @run_makeMap Tryz.prog
  have HF := Lib.hid (fits_calls h)
  rw [hl] at HF
  have hlen : 1 < d.blocks.length := by simp [DiskM.fits] at hl; omega
  have HJ := Lib.hid (fun (w' : World) (h' : DiskAt w' db bb d) (tv mv : Value) => jOpen0_calls h' hq r0 r1 ok1 h0 hk h1 hat hlen tv mv)
  have Hd := Lib.hid h
  have hdl := disk_lt h
  have Hdl := Lib.hid hdl
  have hp1 : ¬ pause < 1 := by omega
  have hp2 : ¬ (64 : Int) < pause := by omega
  clear h hq h0 hk h1 hat hl hp hlen hdl
  go_enter Tryz.func57, Tryz.ntmps57
  go_upto_region 6 with (first
    | (go_at_call 79; refine Calls.mono HF.out ?_; rintro e w2 ⟨rfl, rfl⟩)
    | fail)
  have hN1 : New w (((w.alloc (.map #[] 0)).alloc (.cells #[.pointer none, .map (some w.heap.size), .int .i64 pause, .func fn fs cs, .int .i64 0, .bool false] 79)).alloc (.cells #[.pointer (some ⟨w.heap.size + 1, 0, none⟩)] 28)) := (((Fr.refl _ w).alloc _).alloc _).alloc _
  have hm0 : (w.alloc (.map #[] 0)).ownsMap Tryz.prog 3 ptrR w.heap.size 0 (dataOf []) := World.ownsMap_made w Tryz.prog 3 ptrR
  have hx0 := heap_alloc_new (w.alloc (.map #[] 0)) (.cells #[.pointer none, .map (some w.heap.size), .int .i64 pause, .func fn fs cs, .int .i64 0, .bool false] 79)
  have hx1 := heap_alloc_keep (.cells #[.pointer (some ⟨w.heap.size + 1, 0, none⟩)] 28) hx0
  have hc1 := heap_alloc_new ((w.alloc (.map #[] 0)).alloc (.cells #[.pointer none, .map (some w.heap.size), .int .i64 pause, .func fn fs cs, .int .i64 0, .bool false] 79)) (.cells #[.pointer (some ⟨w.heap.size + 1, 0, none⟩)] 28)
  have hm1 : (((w.alloc (.map #[] 0)).alloc (.cells #[.pointer none, .map (some w.heap.size), .int .i64 pause, .func fn fs cs, .int .i64 0, .bool false] 79)).alloc (.cells #[.pointer (some ⟨w.heap.size + 1, 0, none⟩)] 28)).ownsMap Tryz.prog 3 ptrR w.heap.size 0 (dataOf []) := map_keepK hm0 ((((Fr.refl (fun _ => False) _).alloc _).alloc _).toK (K := []) (fun _ _ f _ => f.elim)) (by simp)
  rw [sz_alloc] at hx1
  rw [sz_alloc, sz_alloc] at hc1
  have HJ1 := Lib.hid (HJ.out _ (Hd.out.new hN1))
  have HN1 := Lib.hid hN1
  have HM1 := Lib.hid hm1
  have HX1 := Lib.hid hx1
  have HC1 := Lib.hid hc1
  clear hN1 hm0 hx0 hx1 hc1 hm1
  generalize (((w.alloc (.map #[] 0)).alloc (.cells #[.pointer none, .map (some w.heap.size), .int .i64 pause, .func fn fs cs, .int .i64 0, .bool false] 79)).alloc (.cells #[.pointer (some ⟨w.heap.size + 1, 0, none⟩)] 28)) = W1 at HJ1 HN1 HM1 HX1 HC1 ⊢
  go_upto_region 9 with (first
    | (go_at_call 80; refine Calls.mono (HJ1.out _ _) ?_; rintro e w2 ⟨jb, rfl, hjs, hj2, hd2, hf2⟩)
    | fail)
  have hlt := Hdl.out
  have hx2 := hf2.get HX1.out (by omega)
  have hc2 := hf2.get HC1.out (by omega)
  have HJs := Lib.hid hjs
  have Hj2 := Lib.hid hj2
  have Hd2 := Lib.hid hd2
  have Hm2 := Lib.hid (map_keepK HM1.out (hf2.toK (K := [103]) (by
    rintro k o rfl ho
    obtain ⟨_, _, _, _, e1, _⟩ := Hd.out
    have := HN1.out.get e1 (fun f => f)
    rw [this] at ho; cases ho; simp [kindOf])) (by decide))
  have Hx2 := Lib.hid hx2
  have HF2 := Lib.hid ((HN1.out.mono (fun _ _ f => f.elim)).trans hf2)
  have hne : w.heap.size + 1 ≠ w.heap.size + 1 + 1 := by omega
  clear hlt hj2 hd2 hf2 hjs
  have hcv := cellv w2
  have hfv := frozv w2
  go_wp2_with fail
  go_ret2
  refine ⟨w.heap.size + 1, jb, w.heap.size, rfl, ⟨by omega, Nat.le_trans HN1.out.size HJs.out, Nat.le_refl _⟩, ?_, ?_, ?_, ?_, ?_⟩
  · rw [hp_setCell, if_pos rfl, Hx2.out]; rfl
  · refine JnAt.keepK Hj2.out (K := [80]) ((Fr.one (w.heap.size + 1) w2 0 _).toK ?_) (by decide)
    rintro k o rfl ho
    rw [Hx2.out] at ho; cases ho; simp [kindOf]
  · have := Hdl.out
    exact Hd2.out.frame (Fr.one (w.heap.size + 1) w2 0 _) (by rintro k rfl; exact ⟨by omega, by omega, _, Hx2.out, by simp [kindOf]⟩)
  · refine map_keepK Hm2.out (K := [80]) ((Fr.one (w.heap.size + 1) w2 0 _).toK ?_) (by decide)
    rintro k o rfl ho
    rw [Hx2.out] at ho; cases ho; simp [kindOf]
  · exact HF2.out.trans' (Fr.one (w.heap.size + 1) w2 0 _) (by rintro i hi e; omega)

set_option maxRecDepth 100000 in
set_option maxHeartbeats 4000000 in
/-- plain.Open, of an empty journal. -/
theorem pOpen0_calls {w : World} {db bb pb : Nat} {d : DiskM} {p : PartM} (h : DiskAt w db bb d) (hp : PAt w pb p) (hlo : p.lo ≤ db ∧ p.lo ≤ bb) (hq : d.quiet) (r0 r1 : RecM) (ok1 : Bool) (h0 : parseM (d.look 0) = some (r0, true)) (hk : r0.kind = 1) (h1 : parseM (d.look 1) = some (r1, ok1))
    (hat : atOk ⟨r0.epoch, 1, true⟩ 1 r1 ok1 = false) (hl : d.fits = true) (pause : Int) (hpz : 1 ≤ pause ∧ pause ≤ 64) :
    Calls Tryz.prog 30 #[.pointer (some ⟨db, 0, none⟩), .int .i64 pause, .pointer (some ⟨pb, 0, none⟩)] w fun e w' => ∃ xb jb mb, e = .returned (.tuple #[.pointer (some ⟨xb, 0, none⟩), .nilIface]) ∧ w.heap.size ≤ xb ∧
      StAt w' ⟨xb, jb, mb, db, bb, pb⟩ [] ⟨pause, 0, [], ⟨r0.epoch, 1, true⟩, d.count.count, p⟩ ∧ Fr (· = db) w w' := by
  have hmf : ∀ (fn : Fn) (first cap : Array Value) (w : World), (Instr.makeFunc fn first cap).run Tryz.prog w = .ok (.func fn first cap) w := fun _ _ _ _ => rfl
  have HO := Lib.hid (sOpen0_calls h hq r0 r1 ok1 h0 hk h1 hat hl pause hpz (.func 58) #[.pointer (some ⟨pb, 0, none⟩)] #[])
  have Hd := Lib.hid h
  have Hp := Lib.hid hp
  have Hlo := Lib.hid hlo
  clear h hp hq h0 hk h1 hat hl hpz hlo
  go_enter Tryz.func30, Tryz.ntmps30
  go_wp2_with (first
    | (go_at_call 57; refine Calls.mono HO.out ?_; rintro e w2 ⟨xb, jb, mb, rfl, hxs, hx, hj, hd, hm, hf⟩)
    | fail)
  go_ret2
  refine ⟨xb, jb, mb, rfl, hxs.1, ⟨hx, hj, hd, ?_, hm, rfl, fun i g b hg => by simp at hg, by simp, ?_⟩, hf⟩
  · refine Hp.out.keepK (hf.toK (K := [103]) ?_) (by decide) (by decide) (by decide) (by decide)
    rintro k o rfl ho
    obtain ⟨_, _, _, _, e1, _⟩ := Hd.out
    rw [e1] at ho; cases ho; simp [kindOf]
  · have hb : p.lo ≤ w.heap.size := by
      obtain ⟨⟨_, _, _, _, h1, _, _, _, hb, _⟩⟩ := Hp.out
      have := lt_of_hp h1; omega
    have := Hlo.out
    exact ⟨Nat.le_trans hb hxs.1, Nat.le_trans hb hxs.2.1, Nat.le_trans hb hxs.2.2, Hlo.out.1, Hlo.out.2, fun b hb => by simp at hb⟩
theorem sfmt_ret {w w2 : World} {db bb ep : Nat} {d : DiskM} {e : Ending} (he : sFmtPost w db bb d ep e w2) : ∃ v, e = .returned v := by
  unfold sFmtPost at he
  split at he
  · exact ⟨_, he.1⟩
  · obtain ⟨v, h, _⟩ := he; exact ⟨v, h⟩
set_option maxHeartbeats 1000000 in
theorem pFormat_calls {w : World} {db bb : Nat} {d : DiskM} (h : DiskAt w db bb d) (hq : d.quiet) (hp : d.pend = none) (r : RecM) (ok : Bool) (hpm : parseM (d.look 0) = some (r, ok)) :
    Calls Tryz.prog 39 #[.pointer (some ⟨db, 0, none⟩)] w (sFmtPost w db bb d (nextEpoch r ok)) := by
  have HF := Lib.hid (sFormat_calls h hq hp r ok hpm)
  clear h hq hp hpm
  go_enter Tryz.func39, Tryz.ntmps39
  go_wp2_with (first
    | (go_at_call 61; refine Calls.mono HF.out ?_; rintro e w2 he; obtain ⟨v, rfl⟩ := sfmt_ret he)
    | fail)
  go_ret
  exact he
end Go.Proofs.YtkafmfdipmhleaaGreatDoor
