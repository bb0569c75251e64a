/-
  What is proved: the contract of the disk's Flush.
-/
import Derived.Test.YtkafmfdipmhleaaGreatDoorWr
namespace Go.Proofs.YtkafmfdipmhleaaGreatDoor
open Go.RowKit

/-! ### Cells that are stored one behind the other -/
theorem hp_setCells_other (b : Nat) : ∀ (vs : List Value) (o : Nat) (w : World) (k : Nat), k ≠ b → (w.setCells b o vs).heap[k]? = w.heap[k]?
  | [], _, _, _, _ => rfl
  | v :: vs, o, w, k, h => by
    show ((w.setCell ⟨b, o, none⟩ v).setCells b (o + 1) vs).heap[k]? = _
    rw [hp_setCells_other b vs (o + 1) _ k h, hp_setCell, if_neg h]
theorem hp_setCells (b : Nat) (t : TypeId) (f : Nat × Nat) : ∀ (vs : List Value) (o : Nat) (w : World) (c : Array Value), w.heap[b]? = some (.cells c t f) → o + vs.length ≤ c.size →
    (w.setCells b o vs).heap[b]? = some (.cells (c.toList.take o ++ vs ++ c.toList.drop (o + vs.length)).toArray t f)
  | [], o, w, c, h, _ => by
    show w.heap[b]? = _
    rw [h]; simp [List.take_append_drop]
  | v :: vs, o, w, c, h, hl => by
    show ((w.setCell ⟨b, o, none⟩ v).setCells b (o + 1) vs).heap[b]? = _
    have hl' : o + 1 + vs.length ≤ c.size := by simp at hl; omega
    rw [hp_setCells b t f vs (o + 1) _ (c.setIfInBounds o v) (by rw [hp_setCell, if_pos rfl, h]; rfl) (by simpa using hl')]
    congr 2
    have ho : o < c.toList.length := by simp; omega
    simp only [Array.toList_setIfInBounds, List.length_cons]
    rw [List.take_succ_eq_append_getElem (by simpa using ho), List.getElem_set_self, List.take_set_of_le (Nat.le_refl _), List.drop_set_of_lt (by omega), show o + 1 + vs.length = o + (vs.length + 1) by omega]
    simp
theorem Fr.setCells {S : Nat → Prop} {a : World} {b : Nat} (hb : b < a.heap.size → S b) : ∀ (vs : List Value) (o : Nat) {w : World}, Fr S a w → Fr S a (w.setCells b o vs)
  | [], _, _, h => h
  | v :: vs, o, _, h => Fr.setCells hb vs (o + 1) (h.setCell hb o v)

/-! ### Loads and stores of aggregates as rules -/
def rowOf (P : Program) (ty : TypeId) (w : World) : Value → Array Value
  | .pointer (some a) => match P.info? ty with
    | some i => ((List.range i.size).map fun j => (w.cell? ⟨a.block, a.off + j, none⟩).getD undef).toArray
    | none => #[]
  | _ => #[]
def okRow (P : Program) (ty : TypeId) (w : World) (v : Value) : Prop :=
  ∃ b o cs d, v = .pointer (some ⟨b, o, none⟩) ∧ w.rangeAt b o cs ∧ P.underlying ty = some d ∧ d.isRow = true ∧ (P.info? ty).map (·.size) = some cs.length
theorem rowOf_eq {P : Program} {ty : TypeId} {w : World} {b o : Nat} {cs : List Value} (h : w.rangeAt b o cs) (hi : (P.info? ty).map (·.size) = some cs.length) : rowOf P ty w (.pointer (some ⟨b, o, none⟩)) = cs.toArray := by
  cases hq : P.info? ty with
  | none => simp [hq] at hi
  | some i =>
    have hs : i.size = cs.length := by simpa [hq] using hi
    simp only [rowOf, hq]
    congr 1
    apply List.ext_getElem?
    intro j
    rw [List.getElem?_map]
    by_cases hj : j < cs.length
    · have := h j cs[j] (by simp [hj])
      simp [hj, hs, this]
    · simp [hj, hs]
section
variable {P : Program} {w : World} {a : Act} {K : Act → World → Prop} {Q : Exit → Act → World → Prop}
theorem wp_load_row' {dst : Option Tmp} {ty : TypeId} {x : Operand} {type : TypeId} {pos : String} {after : Array Edge} {guard : Option (Nat × Bool)} (h : okRow P ty w (a.eval x)) :
    (Oper.wp P ⟨dst, .load ty x, type, pos, after, guard⟩ a w K Q) = K (a.put dst (.agg (rowOf P ty w (a.eval x)))) w := by
  obtain ⟨b, o, cs, d, hv, hr, hu, hd, hi⟩ := h
  rw [hv, rowOf_eq hr hi]
  unfold Oper.wp execOp
  simp only [hv, Instr.loadAt, Instr.sureAddr, Sem.run_bind, Sem.run_pure, Result.andThen_ok, run_loadVar_mid w b o ty cs d hr hu hd hi]
  simp [Oper.upon]
/-- An aggregate may be stored there. -/
def okPut (P : Program) (ty : TypeId) (w : World) (v y : Value) : Prop :=
  ∃ b o cells, v = .pointer (some ⟨b, o, none⟩) ∧ y = .agg cells ∧ w.there b o cells.size ∧ (P.info? ty).map (·.size) = some cells.size ∧ cells.all (·.oneCell') = true
def putAt (w : World) (v y : Value) : World :=
  match v with
  | .pointer (some a) => w.setCells a.block a.off y.cells.toList
  | _ => w
theorem wp_store_row' {dst : Option Tmp} {ty : TypeId} {x y : Operand} {type : TypeId} {pos : String} {after : Array Edge} {guard : Option (Nat × Bool)} (h : okPut P ty w (a.eval x) (a.eval y)) :
    (Oper.wp P ⟨dst, .store ty x y, type, pos, after, guard⟩ a w K Q) = K (a.put dst undef) (putAt w (a.eval x) (a.eval y)) := by
  obtain ⟨b, o, cells, hx, hy, ht, hi, h1⟩ := h
  rw [hx, hy]
  unfold Oper.wp execOp
  simp only [hx, hy, Instr.storeAt, Instr.sureAddr, Sem.run_bind, Sem.run_pure, Result.andThen_ok, run_storeVar_mid w b o ty cells ht hi h1]
  simp [Oper.upon, putAt, Value.cells]
theorem there_of_cells {w : World} {b o n : Nat} {c : Array Value} {t : TypeId} (h : w.heap[b]? = some (.cells c t (0, 0))) (hn : o + n ≤ c.size) : w.there b o n := by
  intro j hj
  rw [cellv, frozv, h]
  simp
  omega
theorem rangeAt_of_cells {w : World} {b o : Nat} {c : Array Value} {t : TypeId} {f : Nat × Nat} {cs : List Value} (h : w.heap[b]? = some (.cells c t f)) (hc : ∀ j v, cs[j]? = some v → c[o + j]? = some v) : w.rangeAt b o cs := by
  intro j v hj
  rw [cellv, h, cellOf_cells]
  exact hc j v hj
end
attribute [local go_sem ↓] wp_load_row' wp_store_row'

/-- What Flush makes of a disk. -/
def DiskM.flush (d : DiskM) : DiskM := { d.count with blocks := (match d.pend with | some (i, b) => d.blocks.set i b | none => d.blocks), pend := none }
def FlushPost (w : World) (db bb : Nat) (d : DiskM) (e : Ending) (w' : World) : Prop :=
  Fr (fun k => k = db ∨ k = bb) w w' ∧ (d.bad = true ∧ e = .returned (.iface 55 (.int .i64 5)) ∧ DiskAt w' db bb d.count ∨ d.bad = false ∧ e = .returned .nilIface ∧ DiskAt w' db bb d.flush)
theorem blk_set (bl : List (List UInt8)) (h : ∀ b ∈ bl, b.length = 128) (rest : List Value) (i : Nat) (hi : i < bl.length) (b : List UInt8) (hb : b.length = 128) :
    ((blkCells bl rest).toList.take (i * 128) ++ b.map bv ++ (blkCells bl rest).toList.drop (i * 128 + (b.map bv).length)).toArray = blkCells (bl.set i b) rest := by
  unfold blkCells
  congr 1
  simp only [List.length_map, hb]
  induction bl generalizing i with
  | nil => simp at hi
  | cons c bl ih =>
    have hc := h c (by simp)
    cases i with
    | zero => simp [hc]
    | succ i =>
      have := ih (fun x hx => h x (by simp [hx])) i (by simpa using hi)
      have hcl : (c.map bv).length = 128 := by simp [hc]
      simp only [List.flatten_cons, List.map_append, List.set_cons_succ]
      rw [List.append_assoc (c.map bv) ((bl.set i b).flatten.map bv), ← this]
      rw [List.append_assoc (c.map bv)]
      generalize bl.flatten.map bv ++ rest = X
      rw [show (i + 1) * 128 = (c.map bv).length + i * 128 by omega, List.take_length_add_append, show (c.map bv).length + i * 128 + 128 = (c.map bv).length + (i * 128 + 128) by omega, List.drop_length_add_append]
      simp
theorem blk_size (bl : List (List UInt8)) (h : ∀ b ∈ bl, b.length = 128) (rest : List Value) : (blkCells bl rest).size = bl.length * 128 + rest.length := by
  induction bl with
  | nil => simp [blkCells]
  | cons c bl ih =>
    have := ih (fun x hx => h x (by simp [hx]))
    simp [blkCells] at this ⊢
    have hc := h c (by simp)
    omega
theorem isRow_of {ty : TypeId} (hx : (Tryz.prog.underlying ty).map (·.isRow) = some true) : ∃ d, Tryz.prog.underlying ty = some d ∧ d.isRow = true := by
  cases hu : Tryz.prog.underlying ty with
  | none => rw [hu] at hx; cases hx
  | some x => rw [hu] at hx; exact ⟨x, rfl, Option.some.inj hx⟩

set_option maxRecDepth 100000 in
set_option maxHeartbeats 2000000 in
theorem Flush_calls {w : World} {db bb : Nat} {d : DiskM} (h : DiskAt w db bb d) : Calls Tryz.prog 178 #[.pointer (some ⟨db, 0, none⟩)] w (FlushPost w db bb d) := by
  have hfl := fails_calls h
  go_enter Tryz.func178, Tryz.ntmps178
  go_wp2_with fail
  refine hfl.mono ?_
  rintro e w1 ⟨rfl, hd1, hf1⟩
  have hf1' : Fr (fun k => k = db ∨ k = bb) w w1 := hf1.mono (fun _ _ e => .inl e)
  clear hfl h hf1
  by_cases hbad : d.bad = true
  · rw [hbad]
    go_wp2_with fail
    go_ret
    exact ⟨hf1', .inl ⟨hbad, rfl, hd1⟩⟩
  · have hbad' : d.bad = false := by simpa using hbad
    rw [hbad']
    have Hd1 := Lib.hid hd1
    have Hf1 := Lib.hid hf1'
    obtain ⟨hwf, cap, rest, cv, h1, h2, h3⟩ := hd1
    simp only [dkCells] at h1
    have hbd : bb ≠ db := ne_of_kind h2 h1 (by simp [kindOf])
    have hwf' : d.wf := hwf
    have h3' : PendAt w1 cv d.pend := h3
    have h2' : w1.heap[bb]? = some (.cells (blkCells d.blocks rest) 103 (0, 0)) := h2
    have Hw := Lib.hid hwf'
    have H2 := Lib.hid h2'
    clear hwf h3 h2 hf1' hwf' h2'
    have hcv := cellv w1
    have hfv := frozv w1
    cases hp : d.pend with
    | none =>
      rw [hp] at h3'
      obtain rfl : cv = .slice none 0 0 := h3'
      have Hp := Lib.hid hp
      clear hp
      go_wp2_with fail
      refine wp_loop_rounds 1 ?_
      rw [rounds_succ]
      go_wp2_with fail
      go_ret
      refine ⟨Hf1.out.setCell (fun _ => .inl rfl) _ _, .inr ⟨hbad', rfl, ?_, ?_⟩⟩
      · refine ⟨?_, fun p hp => by cases hp⟩
        show ∀ b ∈ (match d.pend with | some (i, b) => d.blocks.set i b | none => d.blocks), b.length = 128
        rw [Hp.out]; exact Hw.out.1
      · refine ⟨cap, rest, .slice none 0 0, ?_, ?_, rfl⟩
        · rw [hp_setCell, if_pos rfl, h1]
          simp [dkCells, DiskM.flush, Hp.out, DiskM.count]
        · rw [hp_setCell, if_neg hbd, H2.out]
          simp [DiskM.flush, Hp.out]
    | some p =>
      obtain ⟨i, b⟩ := p
      rw [hp] at h3'
      obtain ⟨cb, ccap, rest', rfl, hcb⟩ := h3'
      obtain ⟨hpi, hpb⟩ := Hw.out.2 _ hp
      have hpb' : b.length = 128 := hpb
      have hpi' : i < d.blocks.length := hpi
      have hw1 : ∀ q v, (Value.int .i64 (i : Int) :: b.map bv)[q]? = some v → cellOf w1.heap[cb]? (0 + q) = some v := by
        intro q v hq
        rw [hcb, cellOf_cells, Nat.zero_add, wrCells, List.getElem?_toArray, List.getElem?_append_left (List.getElem?_eq_some_iff.1 hq).1]
        exact hq
      have hw2 : (Value.int .i64 (i : Int) :: b.map bv).length = 129 := by simp [hpb']
      have hw3 : (Value.int .i64 (i : Int) :: b.map bv).toArray.all (·.oneCell') = true := all_oneCell_toArray (by
        intro v hv
        rcases List.mem_cons.1 hv with rfl | hv
        · rfl
        · exact bv_one b v hv)
      have hw4 : (Value.int .i64 (i : Int) :: b.map bv).toArray[0]? = some (.int .i64 (i : Int)) := rfl
      have hw5 : ∀ q v, (b.map bv)[q]? = some v → (Value.int .i64 (i : Int) :: b.map bv).toArray[1 + q]? = some v := by
        intro q v hq
        rw [Nat.add_comm]; simpa using hq
      have Hbm := Lib.hid (show (b.map bv).length = 128 by rw [List.length_map]; exact hpb')
      have Hone2 := Lib.hid (bv_one b)
      generalize hCW : (Value.int .i64 (i : Int) :: b.map bv) = CW at hw1 hw2 hw3 hw4 hw5
      have Hw1 := Lib.hid hw1
      have Hw3 := Lib.hid hw3
      have Hw5 := Lib.hid hw5
      have Hi1 := Lib.hid (show (Tryz.prog.info? 107).map (·.size) = some CW.length by rw [hw2]; exact Tryz.info107s)
      have Hi2 := Lib.hid (show (Tryz.prog.info? 107).map (·.size) = some CW.toArray.size by rw [List.size_toArray, hw2]; exact Tryz.info107s)
      have Hi3 := Lib.hid (Tryz.zc107.trans (show 129 = CW.toArray.size by rw [List.size_toArray, hw2]))
      have Hp := Lib.hid hp
      have Hcb := Lib.hid hcb
      have Hpb := Lib.hid hpb'
      have Hpi := Lib.hid hpi'
      have hcbd : cb ≠ db := ne_of_kind hcb h1 (by simp [kindOf])
      clear hw1 hw2 hw3 hw5 hCW hp hpb hpb' hcb hpi hpi'
      go_wp2_with fail
      refine wp_loop_rounds 2 ?_
      rw [rounds_succ]
      go_upto_region 6 with (first
        | (refine wpl_load rfl 107 (.tmp 15) rfl cb 0 rfl CW _ Hw1.out Tryz.underlying107 rfl Hi1.out ?_)
        | (refine wpl_store_new rfl 107 (.tmp 4) (.tmp 16) rfl w1.heap.size CW.toArray Tryz.zeroCells107 107 rfl rfl rfl Hi2.out Hi3.out Hw3.out ?_)
        | fail)
      have hn4 := heap_alloc_new w1 (.cells CW.toArray 107)
      have hF4 := Hf1.out.alloc (.cells CW.toArray 107)
      have h14 := heap_alloc_keep (.cells CW.toArray 107) h1
      have h24 := heap_alloc_keep (.cells CW.toArray 107) H2.out
      have hgn : bb ≠ w1.heap.size := ne_size_of_hp H2.out
      have hgd : db ≠ w1.heap.size := ne_size_of_hp h1
      have hnl : w.heap.size ≤ w1.heap.size := Hf1.out.size
      generalize w1.alloc (.cells CW.toArray 107) = W4 at hn4 hF4 h14 h24 ⊢
      generalize w1.heap.size = n at hn4 hgn hgd hnl ⊢
      obtain ⟨d3, hu3, hr3⟩ := isRow_of (ty := 103) (by kernel_rfl)
      have hi3 : (Tryz.prog.info? 103).map (·.size) = some 128 := by kernel_rfl
      have hrow : W4.drew.rangeAt n 1 (b.map bv) := rangeAt_of_cells (w := W4.drew) hn4 Hw5.out
      have hOR : okRow Tryz.prog 103 W4.drew (.pointer (some ⟨n, 1, none⟩)) := ⟨n, 1, b.map bv, d3, rfl, hrow, hu3, hr3, by rw [Hbm.out]; exact hi3⟩
      have hRO : rowOf Tryz.prog 103 W4.drew (.pointer (some ⟨n, 1, none⟩)) = (b.map bv).toArray := rowOf_eq hrow (by rw [Hbm.out]; exact hi3)
      have hfit : i * 128 + (b.map bv).length ≤ (blkCells d.blocks rest).size := by
        rw [Hbm.out, blk_size _ Hw.out.1]
        have := Hpi.out
        omega
      have hOP : okPut Tryz.prog 103 W4.drew (.pointer (some ⟨bb, i * 128, none⟩)) (.agg (b.map bv).toArray) := ⟨bb, i * 128, (b.map bv).toArray, rfl, rfl, there_of_cells (w := W4.drew) h24 (by simpa using hfit), by rw [List.size_toArray, Hbm.out]; exact hi3, all_oneCell_toArray (Hone2.out)⟩
      have hc0 : W4.drew.cell? ⟨db, 0, none⟩ = some (.slice (some ⟨bb, 0, none⟩) d.count.blocks.length cap) := by rw [cellv, hp_drew, h14]; rfl
      have hc1 : W4.drew.cell? ⟨n, 0, none⟩ = some (.int .i64 (i : Int)) := by rw [cellv, hp_drew, hn4]; exact hw4
      have hil : (i : Int) < d.count.blocks.length := by have := Hpi.out; show (i : Int) < d.blocks.length; omega
      have hi0 : 0 ≤ (i : Int) := by omega
      clear hcv hfv
      have Hrow := Lib.hid hrow
      have Hfit := Lib.hid hfit
      clear hrow hfit
      have h15 : (putAt W4.drew (.pointer (some ⟨bb, i * 128, none⟩)) (.agg (b.map bv).toArray)).heap[db]? = W4.heap[db]? := hp_setCells_other bb _ _ W4.drew db (Ne.symm hbd)
      rw [h14] at h15
      have h25 : (putAt W4.drew (.pointer (some ⟨bb, i * 128, none⟩)) (.agg (b.map bv).toArray)).heap[bb]? = some (.cells (blkCells (d.blocks.set i b) rest) 103 (0, 0)) := by
        rw [← blk_set d.blocks Hw.out.1 rest i Hpi.out b Hpb.out]
        exact hp_setCells bb 103 (0, 0) (b.map bv) (i * 128) W4.drew _ h24 Hfit.out
      have hF5 : Fr (fun k => k = db ∨ k = bb) w (putAt W4.drew (.pointer (some ⟨bb, i * 128, none⟩)) (.agg (b.map bv).toArray)) := Fr.setCells (b := bb) (fun _ => .inr rfl) _ _ hF4.drew
      go_region_law fail
      all_goals
        generalize putAt W4.drew (.pointer (some ⟨bb, i * 128, none⟩)) (.agg (b.map bv).toArray) = W5 at h15 h25 hF5 ⊢
        clear hc0 hc1 hOP hRO hOR h14 h24 hn4 hF4 h1
        have hcv5 := cellv W5
        have hfv5 := frozv W5
        go_wp2_with fail
        rw [rounds_succ]
        go_wp2_with fail
        go_ret
        refine ⟨hF5.setCell (fun _ => .inl rfl) _ _, .inr ⟨hbad', rfl, ?_, ?_⟩⟩
        · refine ⟨?_, fun p hp => by cases hp⟩
          show ∀ b ∈ (match d.pend with | some (i, b) => d.blocks.set i b | none => d.blocks), b.length = 128
          rw [Hp.out]
          intro x hx
          rcases List.mem_or_eq_of_mem_set hx with hx | rfl
          · exact Hw.out.1 x hx
          · exact Hpb.out
        · refine ⟨cap, rest, .slice none 0 0, ?_, ?_, rfl⟩
          · rw [hp_setCell, if_pos rfl, h15]
            simp [dkCells, DiskM.flush, Hp.out, DiskM.count]
          · rw [hp_setCell, if_neg hbd, h25]
            simp [DiskM.flush, Hp.out]
end Go.Proofs.YtkafmfdipmhleaaGreatDoor
