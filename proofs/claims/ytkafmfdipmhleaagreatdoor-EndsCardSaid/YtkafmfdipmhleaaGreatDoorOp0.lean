/-
  What is proved: the contract of journal.Open, of an empty journal, on a disk that tells no errors.
-/
import Derived.Test.YtkafmfdipmhleaaGreatDoorAt
import Derived.WalkMore
namespace Go.Proofs.YtkafmfdipmhleaaGreatDoor
open Go.RowKit Go.Maps

def jOpenPost (w : World) (db bb : Nat) (d : DiskM) (j : JnM) (e : Ending) (w' : World) : Prop :=
  ∃ jb, e = .returned (.tuple #[.pointer (some ⟨jb, 0, none⟩), .nilIface]) ∧ w.heap.size ≤ jb ∧ JnAt w' jb db j ∧ DiskAt w' db bb d ∧ Fr (· = db) w w'
set_option maxRecDepth 100000 in
set_option maxHeartbeats 4000000 in
theorem jOpen0_calls {w : World} {db bb : Nat} {d : DiskM} (h : DiskAt w db bb d) (hq : d.quiet) (r0 r1 : RecM) (ok1 : Bool) (h0 : parseM (d.look 0) = some (r0, true)) (hk : r0.kind = 1) (h1 : parseM (d.look 1) = some (r1, ok1))
    (hat : atOk ⟨r0.epoch, 1, true⟩ 1 r1 ok1 = false) (hl : 1 < d.blocks.length) (tv mv : Value) :
    Calls Tryz.prog 80 #[.iface 27 (.pointer (some ⟨db, 0, none⟩)), tv, mv] w (jOpenPost w db bb d.count.count ⟨r0.epoch, 1, true⟩) := by
  have hmf : ∀ (fn : Fn) (first cap : Array Value) (w : World), (Instr.makeFunc fn first cap).run Tryz.prog w = .ok (.func fn first cap) w := fun _ _ _ _ => rfl
  have hlk := DiskM.look_length h.wf (show 0 < d.blocks.length by omega)
  have hdl := disk_lt h
  have Hq := Lib.hid hq
  have H0 := Lib.hid h0
  have Hk := Lib.hid hk
  have H1 := Lib.hid h1
  have Hat := Lib.hid hat
  have Hl := Lib.hid hl
  have Hlk := Lib.hid hlk
  have Hd := Lib.hid h
  have Hdl := Lib.hid hdl
  clear h hq h0 hk h1 hat hl hlk hdl
  go_enter_defers Tryz.func80, Tryz.ntmps80
  go_upto_region 1 with fail
  apply wp_scope_straight
  go_upto_region 3 with fail
  have hN1 : New w ((w.alloc (.cells #[.nilIface] 32)).alloc (.cells #[.iface 27 (.pointer (some ⟨db, 0, none⟩)), .int .u32 0, .int .i64 1, .bool true] 132)) := ((Fr.refl _ w).alloc _).alloc _
  have he1 := heap_alloc_keep (.cells #[.iface 27 (.pointer (some ⟨db, 0, none⟩)), .int .u32 0, .int .i64 1, .bool true] 132) (heap_alloc_new w (.cells #[.nilIface] 32))
  have hj1 := heap_alloc_new (w.alloc (.cells #[.nilIface] 32)) (.cells #[.iface 27 (.pointer (some ⟨db, 0, none⟩)), .int .u32 0, .int .i64 1, .bool true] 132)
  rw [sz_alloc] at hj1
  have hsz1 : ((w.alloc (.cells #[.nilIface] 32)).alloc (.cells #[.iface 27 (.pointer (some ⟨db, 0, none⟩)), .int .u32 0, .int .i64 1, .bool true] 132)).heap.size = w.heap.size + 1 + 1 := by rw [sz_alloc, sz_alloc]
  have HN1 := Lib.hid hN1
  have HE1 := Lib.hid he1
  have HJ1 := Lib.hid hj1
  have Hsz1 := Lib.hid hsz1
  clear hN1 he1 hsz1
  generalize ((w.alloc (.cells #[.nilIface] 32)).alloc (.cells #[.iface 27 (.pointer (some ⟨db, 0, none⟩)), .int .u32 0, .int .i64 1, .bool true] 132)) = W1 at HN1 HE1 HJ1 Hsz1 hj1 ⊢
  have Hd1 := Lib.hid (Hd.out.new HN1.out)
  have hcv := cellv W1
  go_upto_region 4 with (first
    | (go_at_call 105; refine Calls.mono (read_quiet Hd1.out Hq.out 0 (by have := Hl.out; omega)) ?_; rintro e w2 ⟨g, hg, rfl, hgc, hd2, hf2⟩)
    | (go_at_call 104; refine Calls.mono (parse_calls w2 g _ 5 (d.look 0) r0 true Hlk.out hgc (by intro j hj; simp [Hlk.out, hj]) H0.out) ?_; rintro e w3 ⟨sv, rfl, hsv, hf3⟩; obtain ⟨sa, sm, sc, rfl⟩ := own_slice hsv; simp only [rcells])
    | fail)
  have hlt := Hdl.out
  have hs1 := HN1.out.size
  have hf23 : Fr (· = db) W1 w3 := hf2.trans (hf3.mono (fun _ _ f => f.elim))
  have hf24 : Fr (· = db) W1 (w3.alloc (.cells #[.int .u8 r0.kind, .int .u32 r0.epoch, .int .i64 r0.index, .int .i64 r0.saga, .int .i64 r0.reply, .slice sa sm sc] 91)) := hf23.alloc _
  have hj4 := hf24.get HJ1.out (by omega)
  have he4 := hf24.get HE1.out (by omega)
  have hr4 := heap_alloc_new w3 (.cells #[.int .u8 r0.kind, .int .u32 r0.epoch, .int .i64 r0.index, .int .i64 r0.saga, .int .i64 r0.reply, .slice sa sm sc] 91)
  have hd4 := hd2.new (hf3.alloc (.cells #[.int .u8 r0.kind, .int .u32 r0.epoch, .int .i64 r0.index, .int .i64 r0.saga, .int .i64 r0.reply, .slice sa sm sc] 91))
  have hne4 : w3.heap.size ≠ w.heap.size + 1 ∧ w3.heap.size ≠ w.heap.size := by have := hf23.size; have := Hsz1.out; omega
  have Hne4 := Lib.hid hne4
  have Hf4 := Lib.hid hf24
  have Hj4 := Lib.hid hj4
  have He4 := Lib.hid he4
  have Hd4 := Lib.hid hd4
  clear hlt hs1 hf23 hf24 he4 hd4 hne4 hcv hj1 hsv hf2 hf3 hd2 hg hgc
  generalize w3.alloc (.cells #[.int .u8 r0.kind, .int .u32 r0.epoch, .int .i64 r0.index, .int .i64 r0.saga, .int .i64 r0.reply, .slice sa sm sc] 91) = W4 at Hf4 Hj4 He4 Hd4 hj4 hr4 ⊢
  generalize hB : w3.heap.size = B at Hne4 hr4 ⊢
  clear hB
  have hk1 : r0.kind = 1 := Hk.out
  rw [hk1] at hr4
  have hcv := cellv W4
  have hfv := frozv W4
  go_upto_region 7 with fail
  have hj6 : JnAt (W4.setCell ⟨w.heap.size + 1, 1, none⟩ (.int .u32 r0.epoch)) (w.heap.size + 1) db ⟨r0.epoch, 1, true⟩ := by
    unfold JnAt
    rw [hp_setCell, if_pos rfl, hj4]; rfl
  have he6 : (W4.setCell ⟨w.heap.size + 1, 1, none⟩ (.int .u32 r0.epoch)).heap[w.heap.size]? = some (.cells #[.nilIface] 32 (0, 0)) := by
    rw [hp_setCell, if_neg (by omega), He4.out]
  have hd6 := Hd4.out.frame (Fr.one (w.heap.size + 1) W4 1 (.int .u32 r0.epoch)) (by
    rintro k rfl
    have := Hdl.out
    exact ⟨by omega, by omega, _, Hj4.out, by simp [kindOf]⟩)
  have hF6 : Fr (· = db) w (W4.setCell ⟨w.heap.size + 1, 1, none⟩ (.int .u32 r0.epoch)) :=
    ((HN1.out.mono (fun _ _ f => f.elim)).trans Hf4.out).trans' (Fr.one (w.heap.size + 1) W4 1 _) (by rintro i hi e; omega)
  have Hj6 := Lib.hid hj6
  have He6 := Lib.hid he6
  have Hd6 := Lib.hid hd6
  have HF6 := Lib.hid hF6
  have hjj := hj6
  unfold JnAt jnCells at hjj
  simp only at hjj
  clear hj6 he6 hd6 hF6 hcv hfv hj4 hr4
  generalize W4.setCell ⟨w.heap.size + 1, 1, none⟩ (.int .u32 r0.epoch) = W6 at Hj6 He6 Hd6 HF6 hjj ⊢
  apply wp_label
  go_wp2_with fail
  refine wp_loop_rounds 1 ?_
  rw [rounds_succ]
  have HA := Lib.hid (at_calls Hj6.out Hd6.out Hq.out.count 1 r1 ok1 H1.out Hl.out)
  rw [Hat.out] at HA
  have hcv := cellv W6
  go_upto_region 8 with (first
    | (go_at_call 106; refine Calls.mono HA.out ?_; rintro e w7 ⟨sv, rfl, hsv, hd7, hf7⟩; obtain ⟨ta, tm, tc, rfl⟩ := own_slice hsv; simp only [rcells])
    | fail)
  have hlt := Hdl.out
  have hj8 : JnAt (w7.alloc (.cells #[.int .u8 r1.kind, .int .u32 r1.epoch, .int .i64 r1.index, .int .i64 r1.saga, .int .i64 r1.reply, .slice ta tm tc] 91)) (w.heap.size + 1) db ⟨r0.epoch, 1, true⟩ := (hf7.alloc (.cells #[.int .u8 r1.kind, .int .u32 r1.epoch, .int .i64 r1.index, .int .i64 r1.saga, .int .i64 r1.reply, .slice ta tm tc] 91)).get Hj6.out (by omega)
  have he8 := (hf7.alloc (.cells #[.int .u8 r1.kind, .int .u32 r1.epoch, .int .i64 r1.index, .int .i64 r1.saga, .int .i64 r1.reply, .slice ta tm tc] 91)).get He6.out (by omega)
  have hd8 := hd7.new ((Fr.refl _ w7).alloc (.cells #[.int .u8 r1.kind, .int .u32 r1.epoch, .int .i64 r1.index, .int .i64 r1.saga, .int .i64 r1.reply, .slice ta tm tc] 91))
  have hF8 := HF6.out.trans (hf7.alloc (.cells #[.int .u8 r1.kind, .int .u32 r1.epoch, .int .i64 r1.index, .int .i64 r1.saga, .int .i64 r1.reply, .slice ta tm tc] 91))
  have Hj8 := Lib.hid hj8
  have He8 := Lib.hid he8
  have Hd8 := Lib.hid hd8
  have HF8 := Lib.hid hF8
  clear hlt hj8 he8 hd8 hF8 hsv hd7 hf7 hcv hjj
  generalize w7.alloc (.cells #[.int .u8 r1.kind, .int .u32 r1.epoch, .int .i64 r1.index, .int .i64 r1.saga, .int .i64 r1.reply, .slice ta tm tc] 91) = W8 at Hj8 He8 Hd8 HF8 ⊢
  have hec := He8.out
  have hcv := cellv W8
  have hfv := frozv W8
  go_wp2_with fail
  rw [Exit.noGoto_ret]
  refine leaves_cons (f := 103) (args := #[.pointer (some ⟨w.heap.size, 0, none⟩)]) (by simp) (by simp [go_sem]) ?_
  refine (idle103 _ _).mono ?_
  rintro e u' w'' ⟨rfl, rfl, rfl⟩
  have hsome : (W8.setCell ⟨w.heap.size, 0, none⟩ Value.nilIface).cell? ⟨w.heap.size, 0, none⟩ = some .nilIface := by rw [cellv, hp_setCell, if_pos rfl, hec]; rfl
  refine ⟨.tuple #[.pointer (some ⟨w.heap.size + 1, 0, none⟩), .nilIface], ?_, w.heap.size + 1, rfl, by omega, ?_, ?_, ?_⟩
  · simp [results, Tryz.results80, go_sem, hsome]
  · unfold JnAt
    rw [hp_setCell, if_neg (by omega)]; exact Hj8.out
  · have := Hdl.out
    exact Hd8.out.frame (Fr.one w.heap.size W8 0 .nilIface) (by rintro k rfl; exact ⟨by omega, by omega, _, hec, by simp [kindOf]⟩)
  · exact HF8.out.trans' (Fr.one w.heap.size W8 0 .nilIface) (by rintro i hi e; omega)
end Go.Proofs.YtkafmfdipmhleaaGreatDoor
