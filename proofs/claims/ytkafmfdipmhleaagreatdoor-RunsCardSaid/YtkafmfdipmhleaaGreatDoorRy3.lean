/-
  What is proved: the contract of the disk's Write. the contract of the disk's Flush. contracts of NewDisk, Off, Bad, Pending, Writes, Told of the disk in memory. contracts of a device that throws its errors: check, read, sure; failed and the deferred closures where nothing was thrown. the contract of journal.Format, on a disk that tells no errors. contracts of the journal's Room and Settle, on a disk that tells no errors. the contract of the journal's Append's parts, on a disk that tells no errors. the contract of the journal's Append, on a disk that tells no errors.
-/
import Derived.Test.YtkafmfdipmhleaaGreatDoorRy2
import Derived.Deep.AppendLies
import Derived.Deep.RegionLaw
import Derived.Great.BuildSlice
import Derived.Handy
import Derived.Defers
import Derived.Recover
import Derived.Deep.DeepCutAuto
import Derived.Deep.QuietTactic
import Derived.BigQuiet
import Derived.Deep.RegionHeld3

namespace Go.Proofs.YtkafmfdipmhleaaGreatDoor
open Go.RowKit
section
variable {P : Program} {w : World} {a : Act} {K : Act → World → Prop} {Q : Exit → Act → World → Prop}
/-- The cells of the block that a pointer points to. -/
def blkOf (w : World) : Value → Array Value
  | .pointer (some a) => match w.heap[a.block]? with | some (.cells c _ _) => c | _ => #[]
  | _ => #[]
/-- It points to a block that is just one aggregate of type ty. -/
def okLoad (P : Program) (ty : TypeId) (w : World) (v : Value) : Prop :=
  ∃ b c t f d, v = .pointer (some ⟨b, 0, none⟩) ∧ w.heap[b]? = some (.cells c t f) ∧ P.underlying ty = some d ∧ d.isRow = true ∧ (P.info? ty).map (·.size) = some c.size
theorem wp_load_whole {dst : Option Tmp} {ty : TypeId} {x : Operand} {type : TypeId} {pos : String} {after : Array Edge} {guard : Option (Nat × Bool)} (h : okLoad P ty w (a.eval x)) :
    (Oper.wp P ⟨dst, .load ty x, type, pos, after, guard⟩ a w K Q) = K (a.put dst (.agg (blkOf w (a.eval x)))) w := by
  obtain ⟨b, c, t, f, d, hv, hw, hu, hd, hi⟩ := h
  have hl : (loadVar ty ⟨b, 0, none⟩).run P w = .ok (.agg c) w := run_loadVar_row w b t ty c f d hw hu (by cases d <;> first | rfl | cases hd) hi
  unfold Oper.wp execOp
  simp only [hv, Instr.loadAt, Instr.sureAddr, Sem.run_bind, Sem.run_pure, Result.andThen_ok, hl]
  simp [blkOf, hw, Oper.upon]
/-- A part that fills a slice of one element. -/
def okBuild (P : Program) (t : TypeId) (v : Value) : Prop :=
  ∃ e i z, P.underlying t = some (.slice e) ∧ P.elem t = e ∧ P.info? e = some i ∧ i.zero = some z ∧ i.size = v.cells.size ∧ 0 < v.cells.size ∧ v.cells.size ≤ 1000
theorem wp_build_one {dst : Option Tmp} {t : TypeId} {x : Operand} {type : TypeId} {pos : String} {after : Array Edge} {guard : Option (Nat × Bool)} (h : okBuild P t (a.eval x)) :
    (Oper.wp P ⟨dst, .buildSlice t 1 #[(0, x)], type, pos, after, guard⟩ a w K Q) = K (a.put dst (.slice (some ⟨w.heap.size, 0, none⟩) 1 1)) (w.alloc (.cells (a.eval x).cells (P.elem t))) := by
  obtain ⟨e, i, z, hu, he, hi, hz, hs, h0, h1⟩ := h
  have hf := Great.fill_whole (s := i.size) (by omega) [a.eval x] ((Array.range (1 * i.size)).map (z.cells[· % z.cells.size]!)) (by simp [hs]) (by simp)
  have hr := run_buildSlice (P := P) w t e 1 #[(0, a.eval x)] _ i z hu hi hz (by rw [hs]; omega) (by rw [hs]; omega) hf
  unfold Oper.wp execOp
  simp only [Sem.run_bind, List.map_toArray, List.map_cons, List.map_nil, hr, Result.andThen_ok]
  simp [he, Oper.upon]
end
attribute [local go_sem ↓] wp_load_whole wp_build_one
def padB (l : List UInt8) : List UInt8 := l ++ List.replicate (128 - l.length) 0
def DiskM.put (d : DiskM) (i : Nat) (l : List UInt8) : DiskM := { d.count with pend := some (i, padB l), writes := wrap64 (d.writes + 1) }
theorem padB_length (l : List UInt8) (h : l.length ≤ 128) : (padB l).length = 128 := by simp [padB]; omega
/-- What Write does. -/
def WritePost (w : World) (db bb : Nat) (d : DiskM) (i : Nat) (l : List UInt8) (e : Ending) (w' : World) : Prop :=
  Fr (· = db) w w' ∧ (d.bad = true ∧ e = .returned (.iface 55 (.int .i64 5)) ∧ DiskAt w' db bb d.count ∨ d.bad = false ∧ e = .returned .nilIface ∧ DiskAt w' db bb (d.put i l))
theorem zc107_list : Tryz.zeroCells107.toList = .int .i64 0 :: List.replicate 128 (.int .u8 0) := by kernel_rfl
theorem Tryz.info107 : (Tryz.prog.info? 107).map (fun i => (i.zero, i.size, i.bytes)) = some (some (.agg Tryz.zeroCells107), 129, 136) := by kernel_rfl
/-- A write that is being made: where, and noughts. -/
theorem zc_set (i : Nat) : Tryz.zeroCells107.setIfInBounds 0 (.int .i64 i) = (Value.int .i64 (i : Int) :: List.replicate 128 (.int .u8 0)).toArray := by
  have h : Tryz.zeroCells107 = (Value.int .i64 0 :: List.replicate 128 (.int .u8 0)).toArray := by
    rw [← zc107_list]
  rw [h, List.setIfInBounds_toArray, List.set_cons_zero]
theorem bv_zero : (Value.int .u8 0) = bv 0 := rfl
theorem w_splice (i : Nat) (l : List UInt8) : ((Value.int .i64 (i : Int) :: List.replicate 128 (.int .u8 0)).take 1 ++ l.map bv ++ (Value.int .i64 (i : Int) :: List.replicate 128 (.int .u8 0)).drop (1 + (l.map bv).length)) = Value.int .i64 (i : Int) :: (padB l).map bv := by
  rw [List.take_succ_cons, List.take_zero, Nat.add_comm, List.drop_succ_cons, List.drop_replicate, List.length_map]
  simp [padB, bv_zero]
set_option maxRecDepth 100000 in
set_option maxHeartbeats 2000000 in
theorem Write_calls {w : World} {db bb : Nat} {d : DiskM} (h : DiskAt w db bb d) (i : Nat) (hi : i < d.blocks.length) (hp : d.pend = none) (sb so n scap : Nat) (l : List UInt8) (hn : n = l.length) (hl : l.length ≤ 128) (sc : Array Value) (st : TypeId)
    (hs : w.heap[sb]? = some (.cells sc st (0, 0))) (hst : st ≠ 102) (hsc : ∀ j, j < l.length → sc[so + j]? = some (bv (l.getD j 0))) :
    Calls Tryz.prog 180 #[.pointer (some ⟨db, 0, none⟩), .int .i64 i, .slice (some ⟨sb, so, none⟩) n scap] w (WritePost w db bb d i l) := by
  have hfl := fails_calls h
  have hsdb : sb ≠ db := by
    obtain ⟨_, cap, rest, cv, h1, _⟩ := h
    exact ne_of_kind hs h1 (by simp [kindOf]; exact hst)
  go_enter Tryz.func180, Tryz.ntmps180
  go_wp2_with fail
  refine hfl.mono ?_
  rintro e w1 ⟨rfl, hd1, hf1⟩
  have hs1 := hf1.get hs hsdb
  clear hfl hs h
  by_cases hbad : d.bad = true
  · rw [hbad]
    go_wp2_with fail
    go_ret
    exact ⟨hf1, .inl ⟨hbad, rfl, hd1⟩⟩
  · have hbad' : d.bad = false := by simpa using hbad
    rw [hbad']
    go_wp2_with fail
    refine (none_calls hd1 i).mono ?_
    rintro e w2 ⟨rfl, rfl⟩
    have hlt : decide (d.count.blocks.length ≤ i) = false := by rw [decide_eq_false_iff_not]; show ¬ d.blocks.length ≤ i; omega
    rw [hlt]
    have Hz1 : Hid ((Tryz.prog.info? 107).map (·.size) = some (Value.int .i64 (i : Int) :: List.replicate 128 (.int .u8 0)).toArray.size) := by
      show _ = _
      rw [Tryz.info107s]; simp
    have Hz2 : Hid (Tryz.zeroCells107.size = (Value.int .i64 (i : Int) :: List.replicate 128 (.int .u8 0)).toArray.size) := Tryz.zc107.trans (by simp)
    have Hz3 : Hid ((Value.int .i64 (i : Int) :: List.replicate 128 (.int .u8 0)).toArray.all (·.oneCell') = true) := all_oneCell_toArray (by
      intro v hv
      rcases List.mem_cons.1 hv with rfl | hv
      · rfl
      · obtain rfl := List.eq_of_mem_replicate hv; rfl)
    have Hz4 := Lib.hid (zc_set i)
    have Hz5 := Lib.hid (w_splice i l)
    have Hz6 : Hid (1 + (l.map bv).length ≤ (Value.int .i64 (i : Int) :: List.replicate 128 (.int .u8 0)).toArray.size) := by
      show _ ≤ _
      simp; omega
    have Hz7 : Hid ((l.map bv).length = Nat.min l.length 128) := by
      show _ = _
      rw [List.length_map]; exact (Nat.min_eq_left hl).symm
    generalize (Value.int .i64 (i : Int) :: List.replicate 128 (.int .u8 0)) = ZL at Hz1 Hz2 Hz3 Hz4 Hz5 Hz6
    go_upto_region 4 with (first
      | (refine wpl_store_new rfl 107 (.tmp 7) (.tmp 17) rfl w1.heap.size ZL.toArray Tryz.zeroCells107 107 rfl rfl (congrArg Value.agg Hz4.out) Hz1.out Hz2.out Hz3.out ?_)
      | fail)
    have hd2 := hd1.new ((Fr.refl _ w1).alloc (.cells ZL.toArray 107))
    have hn2 := heap_alloc_new w1 (.cells ZL.toArray 107)
    have hf2 := hf1.alloc (.cells ZL.toArray 107)
    have hs2 := heap_alloc_keep (.cells ZL.toArray 107) hs1
    have hsn : sb ≠ w1.heap.size := ne_size_of_hp hs1
    have hnl : w.heap.size ≤ w1.heap.size := hf1.size
    generalize w1.alloc (.cells ZL.toArray 107) = W2 at hd2 hn2 hf2 hs2 ⊢
    generalize w1.heap.size = g at hn2 hsn hnl ⊢
    have Hsrc : Hid (∀ j v, (l.map bv)[j]? = some v → cellOf W2.heap[sb]? (so + j) = some v) := by
      intro j v hj
      have hj' : j < l.length := by simpa using (List.getElem?_eq_some_iff.1 hj).1
      rw [hs2, cellOf_cells, hsc j hj', ← hj]
      simp [hj']
    have Hone := Lib.hid (bv_one l)
    have Hl := Lib.hid hl
    have Hn := Lib.hid hn
    generalize hln : l.length = ln at Hz7
    have Hd2 := Lib.hid hd2
    clear hd1 hf1 hs1 hsc hd2 hlt hl hn
    go_upto_region 5 with (first
      | (refine wpl_copy rfl (.tmp 19) (.tmp 20) 92 92 rfl 5 Tryz.underlying92 Tryz.info5sz g 1 128 128 rfl sb so ln scap rfl ZL.toArray 107 hn2 (l.map bv) Hz7.out Hsrc.out Hz6.out Hone.out ?_; intro W3 Y hY hn3 hf3)
      | fail)
    obtain ⟨hwf, cap, rest, cv, h1, h2, h3⟩ := Hd2.out
    have hpc : d.count.pend = none := hp
    rw [hpc] at h3
    obtain rfl : cv = .slice none 0 0 := h3
    have hgd : db ≠ g := by
      intro e
      rw [e, hn2] at h1
      exact absurd h1 (by simp)
    have hgb : bb ≠ g := by
      intro e
      rw [e, hn2] at h2
      exact absurd h2 (by simp)
    have hbd : bb ≠ db := ne_of_kind h2 h1 (by simp [kindOf])
    have hY' : Y = (Value.int .i64 (i : Int) :: (padB l).map bv).toArray := by rw [hY.out, ← Hz5.out]
    have h1' := hf3.get h1 hgd
    have h2' := hf3.get h2 hgb
    have Hf := Lib.hid (hf2.trans' hf3 (fun k hk e => absurd hk (by rw [e]; omega)))
    have hYs : Y.size = 129 := by rw [hY']; simp [padB_length l Hl.out]
    have Hw := Lib.hid hwf
    have HY := Lib.hid hY'
    have hOL : okLoad Tryz.prog 107 W3.drew (.pointer (some ⟨g, 0, none⟩)) := by
      obtain ⟨d7, u1, u2⟩ : ∃ d, Tryz.prog.underlying 107 = some d ∧ d.isRow = true := by
        have hx : (Tryz.prog.underlying 107).map (·.isRow) = some true := by kernel_rfl
        cases hu : Tryz.prog.underlying 107 with
        | none => rw [hu] at hx; cases hx
        | some x => rw [hu] at hx; exact ⟨x, rfl, Option.some.inj hx⟩
      exact ⟨g, Y, 107, (0, 0), d7, rfl, hn3, u1, u2, by rw [Tryz.info107s, hYs]⟩
    have hBL : blkOf W3.drew (.pointer (some ⟨g, 0, none⟩)) = Y := by
      simp only [blkOf, hp_drew, hn3]
    have hOB : okBuild Tryz.prog 100 (.agg Y) := by
      cases hi : Tryz.prog.info? 107 with
      | none => have := Tryz.info107; rw [hi] at this; simp at this
      | some i' =>
        have := Tryz.info107
        rw [hi] at this
        simp at this
        exact ⟨107, i', _, Tryz.underlying100, by kernel_rfl, hi, this.1, by rw [this.2.1]; exact hYs.symm, by show 0 < Y.size; omega, by show Y.size ≤ 1000; omega⟩
    clear hn2 hs2 hsn hY hf2 h2 hwf hY' hYs hf3 h1
    have hE : Tryz.prog.elem 100 = 107 := by kernel_rfl
    simp only [dkCells] at h1'
    have hdc : W3.drew.cell? ⟨db, 1, none⟩ = some (.slice none 0 0) := by rw [cellv, hp_drew, h1']; rfl
    have hdcA : (W3.alloc (.cells Y 107)).cell? ⟨db, 1, none⟩ = some (.slice none 0 0) := by rw [cellv, heap_alloc_keep _ h1']; rfl
    have h1A := heap_alloc_keep (w := W3.drew) (.cells Y 107) h1'
    have hnew := heap_alloc_new W3.drew (.cells Y 107)
    have HYs : Hid (Y.toList.length = 1 * 129) := by
      show _ = _
      rw [HY.out]; simp [padB_length l Hl.out]
    have HY1 : Hid (∀ u ∈ Y.toList, u.oneCell' = true) := by
      intro u hu
      rw [HY.out] at hu
      simp at hu
      rcases hu with rfl | ⟨x, _, rfl⟩ <;> rfl
    obtain ⟨i7, hi7, hz7, hs7, hb7⟩ : ∃ i, Tryz.prog.info? 107 = some i ∧ i.zero = some (.agg Tryz.zeroCells107) ∧ i.size = 129 ∧ i.bytes = 136 := by
      cases hi : Tryz.prog.info? 107 with
      | none => have := Tryz.info107; rw [hi] at this; simp at this
      | some i' =>
        have := Tryz.info107
        rw [hi] at this
        simp at this
        exact ⟨i', rfl, this.1, this.2.1, this.2.2⟩
    have Hzs : Hid ((Value.agg Tryz.zeroCells107).cells.size = 129) := by
      show Tryz.zeroCells107.size = 129
      exact Tryz.zc107
    go_region_law (first
      | (refine step_append_lies _ (by rfl) (.tmp 26) (.tmp 28) 100 (by rfl) W3.heap.size 107 i7 (.agg Tryz.zeroCells107) 129 136 Tryz.underlying100 hi7 hz7 hs7 hb7 Hzs.out (by decide) (.slice none 0 0) 0 [] (by rfl) (World.ownsRow_nil _ _ _ _) ⟨W3.drew.heap.size, 0, none⟩ 1 1 Y.toList (by rfl) HYs.out (World.news_of_block hnew) HY1.out (by decide) (by decide) (by decide) (by simp) _ rfl ?_; intro gq capq w6 hown6 hgrow6 hat6 hlt6; have h16 := (Fr.ofGrown hgrow6).get h1A (by simp [Value.ownBlock]); have hcv6 := cellv w6; have hfv6 := frozv w6)
      | fail)
    all_goals
      have hF6 : Fr (fun _ => False) W3 w6 := ((((Fr.refl _ W3).drew).alloc (.cells Y 107)).trans' (Fr.ofGrown hgrow6) (fun k _ e => by simp [Value.ownBlock] at e))
      have HF7 := Lib.hid ((Hf.out.trans' hF6 (fun _ _ f => f.elim)).setCell (b := db) (fun _ => rfl) 1 (.slice (some ⟨gq, 0, none⟩) 1 capq))
      have hb6 := hF6.get h2' (fun f => f)
      obtain ⟨cur, hbase, hg6, htk⟩ : ∃ cur, W3.heap.size ≤ gq ∧ w6.heap[gq]? = some (.cells cur 107 (0, 0)) ∧ cur.toList.take 129 = Y.toList := by
        rcases hown6.2 with ⟨e, _⟩ | ⟨g', cap', cur, hv, hb, hg', _, _, _, htk⟩
        · cases e
        · obtain ⟨rfl, rfl⟩ : gq = g' ∧ capq = cap' := by simpa using hv
          exact ⟨cur, hb, hg', by simpa using htk⟩
      have hgqd : gq ≠ db := by have := lt_of_hp h1'; omega
      have hgqb : gq ≠ bb := by have := lt_of_hp h2'; omega
      have hW7 : Hid (∀ k x, k ≠ db → w6.heap[k]? = some x → (w6.setCell ⟨db, 1, none⟩ (.slice (some ⟨gq, 0, none⟩) 1 capq)).heap[k]? = some x) := by
        intro k x hk hx
        rw [hp_setCell, if_neg hk]; exact hx
      have h17 : (w6.setCell ⟨db, 1, none⟩ (.slice (some ⟨gq, 0, none⟩) 1 capq)).heap[db]? = some (.cells #[.slice (some ⟨bb, 0, none⟩) d.count.blocks.length cap, .slice (some ⟨gq, 0, none⟩) 1 capq, .int .i64 d.count.calls, .int .i64 d.count.writes, .int .i64 d.count.told, .int .i64 d.count.off, .int .i64 d.count.fr, .int .i64 d.count.to] 102 (0, 0)) := by
        rw [hp_setCell, if_pos rfl, h16]; rfl
      have Hcur : Hid (cur = wrCells i (padB l) (cur.toList.drop 129)) := by
        have e1 : cur.toList = Y.toList ++ cur.toList.drop 129 := by rw [← htk, List.take_append_drop]
        show _ = _
        rw [wrCells, ← Array.toArray_toList (xs := cur), e1, HY.out]
        simp [padB_length l Hl.out]
      have Hb7 := Lib.hid (hW7.out _ _ hbd hb6)
      have Hg7 := Lib.hid (hW7.out _ _ hgqd hg6)
      clear hcv6 hfv6 hnew h1A hdc hdcA hOL hBL hOB hE hown6 hgrow6 hat6 hlt6 h16 hF6 hb6 hg6 htk hW7 hbase
      generalize w6.setCell ⟨db, 1, none⟩ (.slice (some ⟨gq, 0, none⟩) 1 capq) = W7 at HF7 h17 Hb7 Hg7 ⊢
      have hcv7 := cellv W7
      have hfv7 := frozv W7
      go_wp2_with fail
      go_ret
      refine ⟨HF7.out.setCell (fun _ => rfl) _ _, .inr ⟨hbad', rfl, ⟨?_, ?_⟩⟩⟩
      · exact ⟨Hw.out.1, fun p hp => by
          obtain rfl : (i, padB l) = p := Option.some.inj hp
          exact ⟨hi, padB_length l Hl.out⟩⟩
      · refine ⟨cap, rest, .slice (some ⟨gq, 0, none⟩) 1 capq, ?_, ?_, gq, capq, cur.toList.drop 129, rfl, ?_⟩
        · rw [hp_setCell, if_pos rfl, h17]; rfl
        · rw [hp_setCell, if_neg hbd]; exact Hb7.out
        · rw [hp_setCell, if_neg hgqd, Hg7.out, ← Hcur.out]
end Go.Proofs.YtkafmfdipmhleaaGreatDoor

namespace Go.Proofs.YtkafmfdipmhleaaGreatDoor
open Go.RowKit
/-! ### Cells that are stored one behind the other -/
theorem hp_setCells_other (b : Nat) : ∀ (vs : List Value) (o : Nat) (w : World) (k : Nat), k ≠ b → (w.setCells b o vs).heap[k]? = w.heap[k]?
  | [], _, _, _, _ => rfl
  | v :: vs, o, w, k, h => by
    show ((w.setCell ⟨b, o, none⟩ v).setCells b (o + 1) vs).heap[k]? = _
    rw [hp_setCells_other b vs (o + 1) _ k h, hp_setCell, if_neg h]
theorem hp_setCells (b : Nat) (t : TypeId) (f : Nat × Nat) : ∀ (vs : List Value) (o : Nat) (w : World) (c : Array Value), w.heap[b]? = some (.cells c t f) → o + vs.length ≤ c.size →
    (w.setCells b o vs).heap[b]? = some (.cells (c.toList.take o ++ vs ++ c.toList.drop (o + vs.length)).toArray t f)
  | [], o, w, c, h, _ => by
    show w.heap[b]? = _
    rw [h]; simp [List.take_append_drop]
  | v :: vs, o, w, c, h, hl => by
    show ((w.setCell ⟨b, o, none⟩ v).setCells b (o + 1) vs).heap[b]? = _
    have hl' : o + 1 + vs.length ≤ c.size := by simp at hl; omega
    rw [hp_setCells b t f vs (o + 1) _ (c.setIfInBounds o v) (by rw [hp_setCell, if_pos rfl, h]; rfl) (by simpa using hl')]
    congr 2
    have ho : o < c.toList.length := by simp; omega
    simp only [Array.toList_setIfInBounds, List.length_cons]
    rw [List.take_succ_eq_append_getElem (by simpa using ho), List.getElem_set_self, List.take_set_of_le (Nat.le_refl _), List.drop_set_of_lt (by omega), show o + 1 + vs.length = o + (vs.length + 1) by omega]
    simp
theorem Fr.setCells {S : Nat → Prop} {a : World} {b : Nat} (hb : b < a.heap.size → S b) : ∀ (vs : List Value) (o : Nat) {w : World}, Fr S a w → Fr S a (w.setCells b o vs)
  | [], _, _, h => h
  | v :: vs, o, _, h => Fr.setCells hb vs (o + 1) (h.setCell hb o v)
/-! ### Loads and stores of aggregates as rules -/
def rowOf (P : Program) (ty : TypeId) (w : World) : Value → Array Value
  | .pointer (some a) => match P.info? ty with
    | some i => ((List.range i.size).map fun j => (w.cell? ⟨a.block, a.off + j, none⟩).getD undef).toArray
    | none => #[]
  | _ => #[]
def okRow (P : Program) (ty : TypeId) (w : World) (v : Value) : Prop :=
  ∃ b o cs d, v = .pointer (some ⟨b, o, none⟩) ∧ w.rangeAt b o cs ∧ P.underlying ty = some d ∧ d.isRow = true ∧ (P.info? ty).map (·.size) = some cs.length
theorem rowOf_eq {P : Program} {ty : TypeId} {w : World} {b o : Nat} {cs : List Value} (h : w.rangeAt b o cs) (hi : (P.info? ty).map (·.size) = some cs.length) : rowOf P ty w (.pointer (some ⟨b, o, none⟩)) = cs.toArray := by
  cases hq : P.info? ty with
  | none => simp [hq] at hi
  | some i =>
    have hs : i.size = cs.length := by simpa [hq] using hi
    simp only [rowOf, hq]
    congr 1
    apply List.ext_getElem?
    intro j
    rw [List.getElem?_map]
    by_cases hj : j < cs.length
    · have := h j cs[j] (by simp [hj])
      simp [hj, hs, this]
    · simp [hj, hs]
section
variable {P : Program} {w : World} {a : Act} {K : Act → World → Prop} {Q : Exit → Act → World → Prop}
theorem wp_load_row' {dst : Option Tmp} {ty : TypeId} {x : Operand} {type : TypeId} {pos : String} {after : Array Edge} {guard : Option (Nat × Bool)} (h : okRow P ty w (a.eval x)) :
    (Oper.wp P ⟨dst, .load ty x, type, pos, after, guard⟩ a w K Q) = K (a.put dst (.agg (rowOf P ty w (a.eval x)))) w := by
  obtain ⟨b, o, cs, d, hv, hr, hu, hd, hi⟩ := h
  rw [hv, rowOf_eq hr hi]
  unfold Oper.wp execOp
  simp only [hv, Instr.loadAt, Instr.sureAddr, Sem.run_bind, Sem.run_pure, Result.andThen_ok, run_loadVar_mid w b o ty cs d hr hu hd hi]
  simp [Oper.upon]
/-- An aggregate may be stored there. -/
def okPut (P : Program) (ty : TypeId) (w : World) (v y : Value) : Prop :=
  ∃ b o cells, v = .pointer (some ⟨b, o, none⟩) ∧ y = .agg cells ∧ w.there b o cells.size ∧ (P.info? ty).map (·.size) = some cells.size ∧ cells.all (·.oneCell') = true
def putAt (w : World) (v y : Value) : World :=
  match v with
  | .pointer (some a) => w.setCells a.block a.off y.cells.toList
  | _ => w
theorem wp_store_row' {dst : Option Tmp} {ty : TypeId} {x y : Operand} {type : TypeId} {pos : String} {after : Array Edge} {guard : Option (Nat × Bool)} (h : okPut P ty w (a.eval x) (a.eval y)) :
    (Oper.wp P ⟨dst, .store ty x y, type, pos, after, guard⟩ a w K Q) = K (a.put dst undef) (putAt w (a.eval x) (a.eval y)) := by
  obtain ⟨b, o, cells, hx, hy, ht, hi, h1⟩ := h
  rw [hx, hy]
  unfold Oper.wp execOp
  simp only [hx, hy, Instr.storeAt, Instr.sureAddr, Sem.run_bind, Sem.run_pure, Result.andThen_ok, run_storeVar_mid w b o ty cells ht hi h1]
  simp [Oper.upon, putAt, Value.cells]
theorem there_of_cells {w : World} {b o n : Nat} {c : Array Value} {t : TypeId} (h : w.heap[b]? = some (.cells c t (0, 0))) (hn : o + n ≤ c.size) : w.there b o n := by
  intro j hj
  rw [cellv, frozv, h]
  simp
  omega
theorem rangeAt_of_cells {w : World} {b o : Nat} {c : Array Value} {t : TypeId} {f : Nat × Nat} {cs : List Value} (h : w.heap[b]? = some (.cells c t f)) (hc : ∀ j v, cs[j]? = some v → c[o + j]? = some v) : w.rangeAt b o cs := by
  intro j v hj
  rw [cellv, h, cellOf_cells]
  exact hc j v hj
end
attribute [local go_sem ↓] wp_load_row' wp_store_row'
/-- What Flush makes of a disk. -/
def DiskM.flush (d : DiskM) : DiskM := { d.count with blocks := (match d.pend with | some (i, b) => d.blocks.set i b | none => d.blocks), pend := none }
def FlushPost (w : World) (db bb : Nat) (d : DiskM) (e : Ending) (w' : World) : Prop :=
  Fr (fun k => k = db ∨ k = bb) w w' ∧ (d.bad = true ∧ e = .returned (.iface 55 (.int .i64 5)) ∧ DiskAt w' db bb d.count ∨ d.bad = false ∧ e = .returned .nilIface ∧ DiskAt w' db bb d.flush)
theorem blk_set (bl : List (List UInt8)) (h : ∀ b ∈ bl, b.length = 128) (rest : List Value) (i : Nat) (hi : i < bl.length) (b : List UInt8) (hb : b.length = 128) :
    ((blkCells bl rest).toList.take (i * 128) ++ b.map bv ++ (blkCells bl rest).toList.drop (i * 128 + (b.map bv).length)).toArray = blkCells (bl.set i b) rest := by
  unfold blkCells
  congr 1
  simp only [List.length_map, hb]
  induction bl generalizing i with
  | nil => simp at hi
  | cons c bl ih =>
    have hc := h c (by simp)
    cases i with
    | zero => simp [hc]
    | succ i =>
      have := ih (fun x hx => h x (by simp [hx])) i (by simpa using hi)
      have hcl : (c.map bv).length = 128 := by simp [hc]
      simp only [List.flatten_cons, List.map_append, List.set_cons_succ]
      rw [List.append_assoc (c.map bv) ((bl.set i b).flatten.map bv), ← this]
      rw [List.append_assoc (c.map bv)]
      generalize bl.flatten.map bv ++ rest = X
      rw [show (i + 1) * 128 = (c.map bv).length + i * 128 by omega, List.take_length_add_append, show (c.map bv).length + i * 128 + 128 = (c.map bv).length + (i * 128 + 128) by omega, List.drop_length_add_append]
      simp
theorem blk_size (bl : List (List UInt8)) (h : ∀ b ∈ bl, b.length = 128) (rest : List Value) : (blkCells bl rest).size = bl.length * 128 + rest.length := by
  induction bl with
  | nil => simp [blkCells]
  | cons c bl ih =>
    have := ih (fun x hx => h x (by simp [hx]))
    simp [blkCells] at this ⊢
    have hc := h c (by simp)
    omega
theorem isRow_of {ty : TypeId} (hx : (Tryz.prog.underlying ty).map (·.isRow) = some true) : ∃ d, Tryz.prog.underlying ty = some d ∧ d.isRow = true := by
  cases hu : Tryz.prog.underlying ty with
  | none => rw [hu] at hx; cases hx
  | some x => rw [hu] at hx; exact ⟨x, rfl, Option.some.inj hx⟩
set_option maxRecDepth 100000 in
set_option maxHeartbeats 2000000 in
theorem Flush_calls {w : World} {db bb : Nat} {d : DiskM} (h : DiskAt w db bb d) : Calls Tryz.prog 178 #[.pointer (some ⟨db, 0, none⟩)] w (FlushPost w db bb d) := by
  have hfl := fails_calls h
  go_enter Tryz.func178, Tryz.ntmps178
  go_wp2_with fail
  refine hfl.mono ?_
  rintro e w1 ⟨rfl, hd1, hf1⟩
  have hf1' : Fr (fun k => k = db ∨ k = bb) w w1 := hf1.mono (fun _ _ e => .inl e)
  clear hfl h hf1
  by_cases hbad : d.bad = true
  · rw [hbad]
    go_wp2_with fail
    go_ret
    exact ⟨hf1', .inl ⟨hbad, rfl, hd1⟩⟩
  · have hbad' : d.bad = false := by simpa using hbad
    rw [hbad']
    have Hd1 := Lib.hid hd1
    have Hf1 := Lib.hid hf1'
    obtain ⟨hwf, cap, rest, cv, h1, h2, h3⟩ := hd1
    simp only [dkCells] at h1
    have hbd : bb ≠ db := ne_of_kind h2 h1 (by simp [kindOf])
    have hwf' : d.wf := hwf
    have h3' : PendAt w1 cv d.pend := h3
    have h2' : w1.heap[bb]? = some (.cells (blkCells d.blocks rest) 103 (0, 0)) := h2
    have Hw := Lib.hid hwf'
    have H2 := Lib.hid h2'
    clear hwf h3 h2 hf1' hwf' h2'
    have hcv := cellv w1
    have hfv := frozv w1
    cases hp : d.pend with
    | none =>
      rw [hp] at h3'
      obtain rfl : cv = .slice none 0 0 := h3'
      have Hp := Lib.hid hp
      clear hp
      go_wp2_with fail
      refine wp_loop_rounds 1 ?_
      rw [rounds_succ]
      go_wp2_with fail
      go_ret
      refine ⟨Hf1.out.setCell (fun _ => .inl rfl) _ _, .inr ⟨hbad', rfl, ?_, ?_⟩⟩
      · refine ⟨?_, fun p hp => by cases hp⟩
        show ∀ b ∈ (match d.pend with | some (i, b) => d.blocks.set i b | none => d.blocks), b.length = 128
        rw [Hp.out]; exact Hw.out.1
      · refine ⟨cap, rest, .slice none 0 0, ?_, ?_, rfl⟩
        · rw [hp_setCell, if_pos rfl, h1]
          simp [dkCells, DiskM.flush, Hp.out, DiskM.count]
        · rw [hp_setCell, if_neg hbd, H2.out]
          simp [DiskM.flush, Hp.out]
    | some p =>
      obtain ⟨i, b⟩ := p
      rw [hp] at h3'
      obtain ⟨cb, ccap, rest', rfl, hcb⟩ := h3'
      obtain ⟨hpi, hpb⟩ := Hw.out.2 _ hp
      have hpb' : b.length = 128 := hpb
      have hpi' : i < d.blocks.length := hpi
      have hw1 : ∀ q v, (Value.int .i64 (i : Int) :: b.map bv)[q]? = some v → cellOf w1.heap[cb]? (0 + q) = some v := by
        intro q v hq
        rw [hcb, cellOf_cells, Nat.zero_add, wrCells, List.getElem?_toArray, List.getElem?_append_left (List.getElem?_eq_some_iff.1 hq).1]
        exact hq
      have hw2 : (Value.int .i64 (i : Int) :: b.map bv).length = 129 := by simp [hpb']
      have hw3 : (Value.int .i64 (i : Int) :: b.map bv).toArray.all (·.oneCell') = true := all_oneCell_toArray (by
        intro v hv
        rcases List.mem_cons.1 hv with rfl | hv
        · rfl
        · exact bv_one b v hv)
      have hw4 : (Value.int .i64 (i : Int) :: b.map bv).toArray[0]? = some (.int .i64 (i : Int)) := rfl
      have hw5 : ∀ q v, (b.map bv)[q]? = some v → (Value.int .i64 (i : Int) :: b.map bv).toArray[1 + q]? = some v := by
        intro q v hq
        rw [Nat.add_comm]; simpa using hq
      have Hbm := Lib.hid (show (b.map bv).length = 128 by rw [List.length_map]; exact hpb')
      have Hone2 := Lib.hid (bv_one b)
      generalize hCW : (Value.int .i64 (i : Int) :: b.map bv) = CW at hw1 hw2 hw3 hw4 hw5
      have Hw1 := Lib.hid hw1
      have Hw3 := Lib.hid hw3
      have Hw5 := Lib.hid hw5
      have Hi1 := Lib.hid (show (Tryz.prog.info? 107).map (·.size) = some CW.length by rw [hw2]; exact Tryz.info107s)
      have Hi2 := Lib.hid (show (Tryz.prog.info? 107).map (·.size) = some CW.toArray.size by rw [List.size_toArray, hw2]; exact Tryz.info107s)
      have Hi3 := Lib.hid (Tryz.zc107.trans (show 129 = CW.toArray.size by rw [List.size_toArray, hw2]))
      have Hp := Lib.hid hp
      have Hcb := Lib.hid hcb
      have Hpb := Lib.hid hpb'
      have Hpi := Lib.hid hpi'
      have hcbd : cb ≠ db := ne_of_kind hcb h1 (by simp [kindOf])
      clear hw1 hw2 hw3 hw5 hCW hp hpb hpb' hcb hpi hpi'
      go_wp2_with fail
      refine wp_loop_rounds 2 ?_
      rw [rounds_succ]
      go_upto_region 6 with (first
        | (refine wpl_load rfl 107 (.tmp 15) rfl cb 0 rfl CW _ Hw1.out Tryz.underlying107 rfl Hi1.out ?_)
        | (refine wpl_store_new rfl 107 (.tmp 4) (.tmp 16) rfl w1.heap.size CW.toArray Tryz.zeroCells107 107 rfl rfl rfl Hi2.out Hi3.out Hw3.out ?_)
        | fail)
      have hn4 := heap_alloc_new w1 (.cells CW.toArray 107)
      have hF4 := Hf1.out.alloc (.cells CW.toArray 107)
      have h14 := heap_alloc_keep (.cells CW.toArray 107) h1
      have h24 := heap_alloc_keep (.cells CW.toArray 107) H2.out
      have hgn : bb ≠ w1.heap.size := ne_size_of_hp H2.out
      have hgd : db ≠ w1.heap.size := ne_size_of_hp h1
      have hnl : w.heap.size ≤ w1.heap.size := Hf1.out.size
      generalize w1.alloc (.cells CW.toArray 107) = W4 at hn4 hF4 h14 h24 ⊢
      generalize w1.heap.size = n at hn4 hgn hgd hnl ⊢
      obtain ⟨d3, hu3, hr3⟩ := isRow_of (ty := 103) (by kernel_rfl)
      have hi3 : (Tryz.prog.info? 103).map (·.size) = some 128 := by kernel_rfl
      have hrow : W4.drew.rangeAt n 1 (b.map bv) := rangeAt_of_cells (w := W4.drew) hn4 Hw5.out
      have hOR : okRow Tryz.prog 103 W4.drew (.pointer (some ⟨n, 1, none⟩)) := ⟨n, 1, b.map bv, d3, rfl, hrow, hu3, hr3, by rw [Hbm.out]; exact hi3⟩
      have hRO : rowOf Tryz.prog 103 W4.drew (.pointer (some ⟨n, 1, none⟩)) = (b.map bv).toArray := rowOf_eq hrow (by rw [Hbm.out]; exact hi3)
      have hfit : i * 128 + (b.map bv).length ≤ (blkCells d.blocks rest).size := by
        rw [Hbm.out, blk_size _ Hw.out.1]
        have := Hpi.out
        omega
      have hOP : okPut Tryz.prog 103 W4.drew (.pointer (some ⟨bb, i * 128, none⟩)) (.agg (b.map bv).toArray) := ⟨bb, i * 128, (b.map bv).toArray, rfl, rfl, there_of_cells (w := W4.drew) h24 (by simpa using hfit), by rw [List.size_toArray, Hbm.out]; exact hi3, all_oneCell_toArray (Hone2.out)⟩
      have hc0 : W4.drew.cell? ⟨db, 0, none⟩ = some (.slice (some ⟨bb, 0, none⟩) d.count.blocks.length cap) := by rw [cellv, hp_drew, h14]; rfl
      have hc1 : W4.drew.cell? ⟨n, 0, none⟩ = some (.int .i64 (i : Int)) := by rw [cellv, hp_drew, hn4]; exact hw4
      have hil : (i : Int) < d.count.blocks.length := by have := Hpi.out; show (i : Int) < d.blocks.length; omega
      have hi0 : 0 ≤ (i : Int) := by omega
      clear hcv hfv
      have Hrow := Lib.hid hrow
      have Hfit := Lib.hid hfit
      clear hrow hfit
      have h15 : (putAt W4.drew (.pointer (some ⟨bb, i * 128, none⟩)) (.agg (b.map bv).toArray)).heap[db]? = W4.heap[db]? := hp_setCells_other bb _ _ W4.drew db (Ne.symm hbd)
      rw [h14] at h15
      have h25 : (putAt W4.drew (.pointer (some ⟨bb, i * 128, none⟩)) (.agg (b.map bv).toArray)).heap[bb]? = some (.cells (blkCells (d.blocks.set i b) rest) 103 (0, 0)) := by
        rw [← blk_set d.blocks Hw.out.1 rest i Hpi.out b Hpb.out]
        exact hp_setCells bb 103 (0, 0) (b.map bv) (i * 128) W4.drew _ h24 Hfit.out
      have hF5 : Fr (fun k => k = db ∨ k = bb) w (putAt W4.drew (.pointer (some ⟨bb, i * 128, none⟩)) (.agg (b.map bv).toArray)) := Fr.setCells (b := bb) (fun _ => .inr rfl) _ _ hF4.drew
      go_region_law fail
      all_goals
        generalize putAt W4.drew (.pointer (some ⟨bb, i * 128, none⟩)) (.agg (b.map bv).toArray) = W5 at h15 h25 hF5 ⊢
        clear hc0 hc1 hOP hRO hOR h14 h24 hn4 hF4 h1
        have hcv5 := cellv W5
        have hfv5 := frozv W5
        go_wp2_with fail
        rw [rounds_succ]
        go_wp2_with fail
        go_ret
        refine ⟨hF5.setCell (fun _ => .inl rfl) _ _, .inr ⟨hbad', rfl, ?_, ?_⟩⟩
        · refine ⟨?_, fun p hp => by cases hp⟩
          show ∀ b ∈ (match d.pend with | some (i, b) => d.blocks.set i b | none => d.blocks), b.length = 128
          rw [Hp.out]
          intro x hx
          rcases List.mem_or_eq_of_mem_set hx with hx | rfl
          · exact Hw.out.1 x hx
          · exact Hpb.out
        · refine ⟨cap, rest, .slice none 0 0, ?_, ?_, rfl⟩
          · rw [hp_setCell, if_pos rfl, h15]
            simp [dkCells, DiskM.flush, Hp.out, DiskM.count]
          · rw [hp_setCell, if_neg hbd, h25]
            simp [DiskM.flush, Hp.out]
end Go.Proofs.YtkafmfdipmhleaaGreatDoor

namespace Go.Proofs.YtkafmfdipmhleaaGreatDoor
open Go.RowKit
/-- A disk of noughts. -/
def DiskM.new (n : Nat) : DiskM := ⟨List.replicate n (List.replicate 128 0), none, 0, 0, 0, -1, 0, 0⟩
theorem made_zero (n : Nat) (z : Value) (hz : z.cells = Array.replicate 128 (.int .u8 0)) : madeCells z.cells (n * 128) = blkCells (List.replicate n (List.replicate 128 0)) [] := by
  rw [hz]
  apply Array.ext
  · rw [size_madeCells, blk_size _ (by intro b hb; obtain rfl := List.eq_of_mem_replicate hb; simp)]; simp
  · intro i h1 h2
    have e0 : blkCells (List.replicate n (List.replicate 128 0)) [] = (List.replicate (n * 128) (.int .u8 0)).toArray := by
      simp only [blkCells, List.append_nil]
      rw [List.flatten_replicate_replicate, List.map_replicate]
      rfl
    have e1 : (blkCells (List.replicate n (List.replicate 128 0)) [])[i] = .int .u8 0 := by
      simp only [e0, List.getElem_toArray, List.getElem_replicate]
    rw [e1]
    have h3 : i % 128 < (Array.replicate 128 (Value.int .u8 0)).size := by rw [Array.size_replicate]; omega
    have e2 : (Array.replicate 128 (Value.int .u8 0))[i % 128]! = .int .u8 0 := by rw [getElem!_pos (Array.replicate 128 (Value.int .u8 0)) (i % 128) h3, Array.getElem_replicate]
    simp only [madeCells, Array.getElem_map, Array.getElem_range, Array.size_replicate]
    exact e2
def DiskM.cut (d : DiskM) (n : Int) : DiskM := { d with off := wrap64 (d.calls + n) }
def DiskM.pending (d : DiskM) : Int := match d.pend with | some _ => 1 | none => 0
set_option maxHeartbeats 1000000 in
theorem Pending_calls {w : World} {db bb : Nat} {d : DiskM} (h : DiskAt w db bb d) :
    Calls Tryz.prog 31 #[.pointer (some ⟨db, 0, none⟩)] w fun e w' => e = .returned (.int .i64 d.pending) ∧ w = w' := by
  obtain ⟨hwf, cap, rest, cv, h1, h2, h3⟩ := h
  simp only [dkCells] at h1
  have hcv := cellv w
  cases hp : d.pend with
  | none =>
    rw [hp] at h3
    obtain rfl : cv = .slice none 0 0 := h3
    clear hwf h2
    go_enter Tryz.func31, Tryz.ntmps31
    go_wp2
    go_ret
    exact ⟨by simp [DiskM.pending, hp], rfl⟩
  | some p =>
    rw [hp] at h3
    obtain ⟨cb, ccap, rest', rfl, hcb⟩ := h3
    clear hwf h2 hcb
    go_enter Tryz.func31, Tryz.ntmps31
    go_wp2
    go_ret
    exact ⟨by simp [DiskM.pending, hp], rfl⟩
set_option maxHeartbeats 1000000 in
theorem Told_calls {w : World} {db bb : Nat} {d : DiskM} (h : DiskAt w db bb d) :
    Calls Tryz.prog 33 #[.pointer (some ⟨db, 0, none⟩)] w fun e w' => e = .returned (.int .i64 d.told) ∧ w = w' := by
  obtain ⟨hwf, cap, rest, cv, h1, h2, h3⟩ := h
  simp only [dkCells] at h1
  clear hwf h2 h3
  have hcv := cellv w
  go_enter Tryz.func33, Tryz.ntmps33
  go_wp2
  go_ret
  exact ⟨rfl, rfl⟩
set_option maxHeartbeats 1000000 in
theorem Writes_calls {w : World} {db bb : Nat} {d : DiskM} (h : DiskAt w db bb d) :
    Calls Tryz.prog 34 #[.pointer (some ⟨db, 0, none⟩)] w fun e w' => e = .returned (.int .i64 d.writes) ∧ w = w' := by
  obtain ⟨hwf, cap, rest, cv, h1, h2, h3⟩ := h
  simp only [dkCells] at h1
  clear hwf h2 h3
  have hcv := cellv w
  go_enter Tryz.func34, Tryz.ntmps34
  go_wp2
  go_ret
  exact ⟨rfl, rfl⟩
end Go.Proofs.YtkafmfdipmhleaaGreatDoor

namespace Go.Proofs.YtkafmfdipmhleaaGreatDoor
open Go.RowKit
def devStr : ByteArray := ⟨#[100, 101, 118, 105, 99, 101]⟩
def faultCells (op : ByteArray) (e : Int) : Array Value := #[.string op, .iface 55 (.int .i64 e)]
def vol (db : Nat) : Value := .agg #[.iface 27 (.pointer (some ⟨db, 0, none⟩))]
theorem check_ok (w : World) : Calls Tryz.prog 71 #[.nilIface] w fun e w' => e = .returned (.tuple #[]) ∧ w' = w := by
  go_enter Tryz.func71, Tryz.ntmps71
  go_wp2
  go_end0
  exact ⟨rfl, rfl⟩
theorem check_bad (w : World) (n : Int) : Calls Tryz.prog 71 #[.iface 55 (.int .i64 n)] w fun e w' => e = .panicked [{ v := .iface 121 (.pointer (some ⟨w.heap.size, 0, none⟩)), recovered := false }] ∧ w' = w.alloc (.cells (faultCells devStr n) 123) := by
  go_enter Tryz.func71, Tryz.ntmps71
  go_wp2
  refine ⟨rfl, ?_⟩
  exact ⟨rfl, rfl⟩
/-- A device's error, thrown. -/
def Thrown (w : World) (e : Ending) (w' : World) : Prop := ∃ fb, w.heap.size ≤ fb ∧ e = .panicked [{ v := .iface 121 (.pointer (some ⟨fb, 0, none⟩)), recovered := false }] ∧ w'.heap[fb]? = some (.cells (faultCells devStr 5) 123 (0, 0))
def VReadPost (w : World) (db bb : Nat) (d : DiskM) (i : Nat) (e : Ending) (w' : World) : Prop :=
  DiskAt w' db bb d.count ∧ Fr (· = db) w w' ∧
    (d.bad = true ∧ Thrown w e w' ∨
     d.bad = false ∧ ∃ g, w.heap.size ≤ g ∧ e = .returned (.slice (some ⟨g, 0, none⟩) 128 128) ∧ w'.heap[g]? = some (.cells ((d.look i).map bv).toArray 5 (0, 0)))
set_option maxHeartbeats 1000000 in
theorem read_calls {w : World} {db bb : Nat} {d : DiskM} (h : DiskAt w db bb d) (i : Nat) (hi : i < d.blocks.length) :
    Calls Tryz.prog 105 #[vol db, .int .i64 i] w (VReadPost w db bb d i) := by
  unfold vol
  have h1 := h.new ((Fr.refl _ w).alloc (.cells #[.iface 27 (.pointer (some ⟨db, 0, none⟩))] 130))
  go_enter Tryz.func105, Tryz.ntmps105
  go_wp2_with (go_at_call 179; refine Calls.mono (Read_calls h1 i hi) ?_; rintro e w1 ⟨hd1, hf1, ⟨hb, rfl⟩ | ⟨hb, g, hg, rfl, hc⟩⟩)
  · refine Calls.mono (check_bad w1 5) ?_
    rintro e w2 ⟨rfl, rfl⟩
    refine ⟨rfl, ?_⟩
    exact ⟨hd1.new ((Fr.refl _ _).alloc _), (((Fr.refl _ w).alloc _).trans' hf1 (fun _ _ e => e)).alloc _, .inl ⟨hb, w1.heap.size, Nat.le_trans (by simp) hf1.size, rfl, heap_alloc_new w1 _⟩⟩
  · refine Calls.mono (check_ok w1) ?_
    rintro e w2 ⟨rfl, rfl⟩
    go_wp2
    go_ret
    exact ⟨hd1, (((Fr.refl _ w).alloc _).trans' hf1 (fun _ _ e => e)), .inr ⟨hb, g, Nat.le_trans (by simp) hg, rfl, hc⟩⟩
/-- What sure does: written and flushed; or thrown in between. -/
def SurePost (w : World) (db bb : Nat) (d : DiskM) (i : Nat) (l : List UInt8) (e : Ending) (w' : World) : Prop :=
  Fr (fun k => k = db ∨ k = bb) w w' ∧
    (d.bad = true ∧ Thrown w e w' ∧ DiskAt w' db bb d.count ∨
     d.bad = false ∧ (d.put i l).bad = true ∧ Thrown w e w' ∧ DiskAt w' db bb (d.put i l).count ∨
     d.bad = false ∧ (d.put i l).bad = false ∧ e = .returned (.tuple #[]) ∧ DiskAt w' db bb (d.put i l).flush)
set_option maxRecDepth 100000 in
set_option maxHeartbeats 1000000 in
theorem sure_calls {w : World} {db bb : Nat} {d : DiskM} (h : DiskAt w db bb d) (i : Nat) (hi : i < d.blocks.length) (hp : d.pend = none) (sb so n scap : Nat) (l : List UInt8) (hn : n = l.length) (hl : l.length ≤ 128) (sc : Array Value) (st : TypeId)
    (hs : w.heap[sb]? = some (.cells sc st (0, 0))) (hst : st ≠ 102) (hsc : ∀ j, j < l.length → sc[so + j]? = some (bv (l.getD j 0))) :
    Calls Tryz.prog 95 #[vol db, .int .i64 i, .slice (some ⟨sb, so, none⟩) n scap] w (SurePost w db bb d i l) := by
  unfold vol
  have h1 := h.new ((Fr.refl _ w).alloc (.cells #[.iface 27 (.pointer (some ⟨db, 0, none⟩))] 130))
  have hs1 := heap_alloc_keep (.cells #[.iface 27 (.pointer (some ⟨db, 0, none⟩))] 130) hs
  have hv := heap_alloc_new w (.cells #[.iface 27 (.pointer (some ⟨db, 0, none⟩))] 130)
  have hF1 : Fr (fun k => k = db ∨ k = bb) w (w.alloc (.cells #[.iface 27 (.pointer (some ⟨db, 0, none⟩))] 130)) := (Fr.refl _ w).alloc _
  have hvd : w.heap.size ≠ db := by
    obtain ⟨_, cap, rest, cv, h1, _⟩ := h
    have := lt_of_hp h1
    omega
  have HW := Lib.hid (Write_calls h1 i hi hp sb so n scap l hn hl sc st hs1 hst hsc)
  clear h1 hs1 hsc hn hl hst hs h hi hp
  go_enter Tryz.func95, Tryz.ntmps95
  go_wp2_with (first
    | (go_at_call 180; refine Calls.mono HW.out ?_; rintro e w1 ⟨hf1, ⟨hb, rfl, hd1⟩ | ⟨hb, rfl, hd1⟩⟩)
    | fail)
  · refine Calls.mono (check_bad w1 5) ?_
    rintro e w2 ⟨rfl, rfl⟩
    refine ⟨rfl, ?_⟩
    exact ⟨(hF1.trans' hf1 (fun _ _ e => .inl e)).alloc _, .inl ⟨hb, ⟨w1.heap.size, Nat.le_trans (by simp) hf1.size, rfl, heap_alloc_new w1 _⟩, hd1.new ((Fr.refl _ _).alloc _)⟩⟩
  · refine Calls.mono (check_ok w1) ?_
    rintro e w2 ⟨rfl, rfl⟩
    have hv1 := hf1.get hv hvd
    have hcv1 := cellv w2
    go_wp2_with (first
      | (go_at_call 178; refine Calls.mono (Flush_calls hd1) ?_; rintro e w3 ⟨hf3, ⟨hb3, rfl, hd3⟩ | ⟨hb3, rfl, hd3⟩⟩)
      | fail)
    · refine Calls.mono (check_bad w3 5) ?_
      rintro e w4 ⟨rfl, rfl⟩
      refine ⟨rfl, ?_⟩
      exact ⟨((hF1.trans' hf1 (fun _ _ e => .inl e)).trans hf3).alloc _, .inr (.inl ⟨hb, hb3, ⟨w3.heap.size, Nat.le_trans (by simp) (Nat.le_trans hf1.size hf3.size), rfl, heap_alloc_new w3 _⟩, hd3.new ((Fr.refl _ _).alloc _)⟩)⟩
    · refine Calls.mono (check_ok w3) ?_
      rintro e w4 ⟨rfl, rfl⟩
      go_wp2
      go_end0
      exact ⟨(hF1.trans' hf1 (fun _ _ e => .inl e)).trans hf3, .inr (.inr ⟨hb, hb3, rfl, hd3⟩)⟩
/-! ### Where nothing was thrown -/
theorem failed_nil (w : World) (op : ByteArray) (p : Value) : Calls Tryz.prog 70 #[.nilIface, .string op, p] w fun e w' => e = .returned (.tuple #[]) ∧ w' = w := by
  go_enter Tryz.func70, Tryz.ntmps70
  go_wp2
  go_end0
  exact ⟨rfl, rfl⟩
theorem idle69 (p : Value) (w : World) : CallsD Tryz.prog 69 #[p] .returning w fun e u' w' => e = .returned (.tuple #[]) ∧ u' = .returning ∧ w' = w := by
  refine callsD_of_wpS Tryz.func69 rfl fun c₀ cs hu => ?_
  apply wpS_region
  simp [wpOpsS, go_sem, recoverD, hu, Tryz.ntmps69]
  refine Calls.mono (failed_nil w _ p) ?_
  rintro e w' ⟨rfl, rfl⟩
  cases c₀
  simp_all [bodyPostS, results, Tryz.results69]
theorem idle94 (p : Value) (w : World) : CallsD Tryz.prog 94 #[p] .returning w fun e u' w' => e = .returned (.tuple #[]) ∧ u' = .returning ∧ w' = w := by
  refine callsD_of_wpS Tryz.func94 rfl fun c₀ cs hu => ?_
  apply wpS_region
  simp [wpOpsS, go_sem, recoverD, hu, Tryz.ntmps94]
  refine Calls.mono (failed_nil w _ p) ?_
  rintro e w' ⟨rfl, rfl⟩
  cases c₀
  simp_all [bodyPostS, results, Tryz.results94]
theorem idle103 (p : Value) (w : World) : CallsD Tryz.prog 103 #[p] .returning w fun e u' w' => e = .returned (.tuple #[]) ∧ u' = .returning ∧ w' = w := by
  refine callsD_of_wpS Tryz.func103 rfl fun c₀ cs hu => ?_
  apply wpS_region
  simp [wpOpsS, go_sem, recoverD, hu, Tryz.ntmps103]
  refine Calls.mono (failed_nil w _ p) ?_
  rintro e w' ⟨rfl, rfl⟩
  cases c₀
  simp_all [bodyPostS, results, Tryz.results103]
theorem idle116 (p : Value) (w : World) : CallsD Tryz.prog 116 #[p] .returning w fun e u' w' => e = .returned (.tuple #[]) ∧ u' = .returning ∧ w' = w := by
  refine callsD_of_wpS Tryz.func116 rfl fun c₀ cs hu => ?_
  apply wpS_region
  simp [wpOpsS, go_sem, recoverD, hu, Tryz.ntmps116]
  refine Calls.mono (failed_nil w _ p) ?_
  rintro e w' ⟨rfl, rfl⟩
  cases c₀
  simp_all [bodyPostS, results, Tryz.results116]
end Go.Proofs.YtkafmfdipmhleaaGreatDoor

namespace Go.Proofs.YtkafmfdipmhleaaGreatDoor
open Go.RowKit
theorem cellvd (w : World) (b o : Nat) : w.drew.cell? ⟨b, o, none⟩ = cellOf w.heap[b]? o := cellv w b o
/-- A disk that tells no errors. -/
def DiskM.quiet (d : DiskM) : Prop := d.off < 0 ∧ d.to ≤ d.fr
theorem DiskM.quiet.bad {d : DiskM} (h : d.quiet) : d.bad = false := by
  obtain ⟨h1, h2⟩ := h
  unfold DiskM.bad
  simp
  omega
theorem DiskM.quiet.count {d : DiskM} (h : d.quiet) : d.count.quiet := h
theorem DiskM.quiet.put {d : DiskM} (h : d.quiet) (i : Nat) (l : List UInt8) : (d.put i l).quiet := h
theorem DiskM.quiet.flush {d : DiskM} (h : d.quiet) : d.flush.quiet := h
def recBytes (r : RecM) : List UInt8 := (recB r).take (endOf r)
def DiskM.sure (d : DiskM) (i : Nat) (l : List UInt8) : DiskM := (d.put i l).flush
/-- Read and sure, on a disk that tells no errors. -/
def QReadPost (w : World) (db bb : Nat) (d : DiskM) (i : Nat) (e : Ending) (w' : World) : Prop :=
  ∃ g, w.heap.size ≤ g ∧ e = .returned (.slice (some ⟨g, 0, none⟩) 128 128) ∧ w'.heap[g]? = some (.cells ((d.look i).map bv).toArray 5 (0, 0)) ∧ DiskAt w' db bb d.count ∧ Fr (· = db) w w'
theorem read_quiet {w : World} {db bb : Nat} {d : DiskM} (h : DiskAt w db bb d) (hq : d.quiet) (i : Nat) (hi : i < d.blocks.length) :
    Calls Tryz.prog 105 #[vol db, .int .i64 i] w (QReadPost w db bb d i) := by
  refine Calls.mono (read_calls h i hi) ?_
  rintro e w2 ⟨hd2, hf2, ⟨hb, _⟩ | ⟨hb, g, hg, rfl, hgc⟩⟩
  · rw [hq.bad] at hb; cases hb
  · exact ⟨g, hg, rfl, hgc, hd2, hf2⟩
theorem wrAt_len (l : List UInt8) (p : Nat) (x : List UInt8) (h : p + x.length ≤ l.length) : (wrAt l p x).length = l.length := by
  simp [wrAt]; omega
theorem sure_quiet {w : World} {db bb : Nat} {d : DiskM} (h : DiskAt w db bb d) (hq : d.quiet) (i : Nat) (hi : i < d.blocks.length) (hp : d.pend = none) (nb : Nat) (r : RecM) (hr : (recB r).length = 128)
    (hs : w.heap[nb]? = some (.cells (wayCells (recB r) 4) 201 (0, 0))) :
    Calls Tryz.prog 95 #[vol db, .int .i64 i, .slice (some ⟨nb, 0, none⟩) (endOf r) (endOf r)] w fun e w' => e = .returned (.tuple #[]) ∧ Fr (fun k => k = db ∨ k = bb) w w' ∧ DiskAt w' db bb (d.sure i (recBytes r)) := by
  have hl : (recBytes r).length = endOf r := by
    unfold recBytes endOf; simp [hr]; split <;> omega
  have he : endOf r ≤ 128 := by unfold endOf; split <;> omega
  refine Calls.mono (sure_calls h i hi hp nb 0 (endOf r) (endOf r) (recBytes r) hl.symm (by omega) _ 201 hs (by decide) ?_) ?_
  · intro j hj
    rw [Nat.zero_add, way_byte _ _ _ (by omega)]
    simp only [recBytes, List.getD_eq_getElem?_getD]
    rw [List.getElem?_take_of_lt (by omega)]
  · rintro e w' ⟨hf, ⟨hb, _⟩ | ⟨_, hb, _⟩ | ⟨_, _, rfl, hd⟩⟩
    · rw [hq.bad] at hb; cases hb
    · rw [(hq.put i _).bad] at hb; cases hb
    · exact ⟨rfl, hf, hd⟩
theorem recB_len (r : RecM) (h : 4 + (bodyB r).length ≤ 128) : (recB r).length = 128 := by
  have h1 : (baseB r).length = 128 := by
    unfold baseB
    rw [wrAt_len _ _ _ (by simpa [zeros] using h)]
    simp [zeros]
  unfold recB
  rw [wrAt_len _ _ _ (by simp [leN_length, h1]), h1]
theorem recB_len1 (r : RecM) (h : r.kind ≠ 2) : (recB r).length = 128 := by
  refine recB_len r ?_
  simp [bodyB, headB, h, leN_length]
def nextEpoch (r : RecM) (ok : Bool) : Nat := if ok && r.kind == 1 then (r.epoch + 1) % 2 ^ 32 else 1
def DiskM.format (d : DiskM) (ep : Nat) : DiskM := d.count.flush.sure 0 (recBytes ⟨1, ep, 0, 0, 0, []⟩)
def FmtPost (w : World) (db bb : Nat) (d : DiskM) (ep : Nat) (e : Ending) (w' : World) : Prop :=
  e = .returned .nilIface ∧ Fr (fun k => k = db ∨ k = bb) w w' ∧ DiskAt w' db bb (d.format ep)
set_option maxRecDepth 100000 in
set_option maxHeartbeats 2000000 in
theorem jFormat_calls {w : World} {db bb : Nat} {d : DiskM} (h : DiskAt w db bb d) (hq : d.quiet) (hp : d.pend = none) (h0 : 0 < d.blocks.length) (r : RecM) (ok : Bool) (hpm : parseM (d.look 0) = some (r, ok)) :
    Calls Tryz.prog 92 #[.iface 27 (.pointer (some ⟨db, 0, none⟩))] w (FmtPost w db bb d (nextEpoch r ok)) := by
  have hmf : ∀ (fn : Fn) (first cap : Array Value) (w : World), (Instr.makeFunc fn first cap).run Tryz.prog w = .ok (.func fn first cap) w := fun _ _ _ _ => rfl
  have hlk := DiskM.look_length h.wf h0
  have Hq := Lib.hid hq
  have Hp := Lib.hid hp
  have H0 := Lib.hid h0
  have Hpm := Lib.hid hpm
  have Hlk := Lib.hid hlk
  have Hd := Lib.hid h
  clear h hq hp h0 hpm hlk
  go_enter_defers Tryz.func92, Tryz.ntmps92
  go_upto_region 4 with fail
  have hd1 : DiskAt (((w.alloc (.cells #[.nilIface] 32)).alloc (.cells #[.iface 27 (.pointer (some ⟨db, 0, none⟩))] 130)).alloc (.cells #[.int .u8 1, .int .u32 1, .int .i64 0, .int .i64 0, .int .i64 0, .slice none 0 0] 91)) db bb d := Hd.out.new ((((Fr.refl _ w).alloc _).alloc _).alloc _)
  have hF1 : New w (((w.alloc (.cells #[.nilIface] 32)).alloc (.cells #[.iface 27 (.pointer (some ⟨db, 0, none⟩))] 130)).alloc (.cells #[.int .u8 1, .int .u32 1, .int .i64 0, .int .i64 0, .int .i64 0, .slice none 0 0] 91)) := (((Fr.refl _ w).alloc _).alloc _).alloc _
  have he := heap_alloc_keep (.cells #[.int .u8 1, .int .u32 1, .int .i64 0, .int .i64 0, .int .i64 0, .slice none 0 0] 91) (heap_alloc_keep (.cells #[.iface 27 (.pointer (some ⟨db, 0, none⟩))] 130) (heap_alloc_new w (.cells #[.nilIface] 32)))
  have hv := heap_alloc_keep (.cells #[.int .u8 1, .int .u32 1, .int .i64 0, .int .i64 0, .int .i64 0, .slice none 0 0] 91) (heap_alloc_new (w.alloc (.cells #[.nilIface] 32)) (.cells #[.iface 27 (.pointer (some ⟨db, 0, none⟩))] 130))
  have hh := heap_alloc_new ((w.alloc (.cells #[.nilIface] 32)).alloc (.cells #[.iface 27 (.pointer (some ⟨db, 0, none⟩))] 130)) (.cells #[.int .u8 1, .int .u32 1, .int .i64 0, .int .i64 0, .int .i64 0, .slice none 0 0] 91)
  rw [sz_alloc] at hv hh
  rw [sz_alloc] at hh
  have hdl : db < w.heap.size ∧ bb < w.heap.size := by
    obtain ⟨_, _, _, _, h1, h2, _⟩ := Hd.out
    exact ⟨lt_of_hp h1, lt_of_hp h2⟩
  generalize (((w.alloc (.cells #[.nilIface] 32)).alloc (.cells #[.iface 27 (.pointer (some ⟨db, 0, none⟩))] 130)).alloc (.cells #[.int .u8 1, .int .u32 1, .int .i64 0, .int .i64 0, .int .i64 0, .slice none 0 0] 91)) = W1 at hd1 hF1 he hv hh ⊢
  have hS : ∀ k, w.heap.size ≤ k → ¬ (k = db ∨ k = bb) := by intro k hk; omega
  have HS := Lib.hid hS
  have Hsz := Lib.hid (rfl : w.heap.size = w.heap.size)
  generalize hE : w.heap.size = E at he hv hh ⊢
  have HE := Lib.hid hE
  have HF1 := Lib.hid hF1
  have Hd1 := Lib.hid hd1
  clear hS hdl Hsz hE hF1 hd1
  have hcv := cellv W1
  go_upto_region 5 with (first
    | (go_at_call 105; refine Calls.mono (read_quiet Hd1.out Hq.out 0 H0.out) ?_; rintro e w2 ⟨g, hg, rfl, hgc, hd2, hf2⟩)
    | (go_at_call 104; refine Calls.mono (parse_calls w2 g _ 5 (d.look 0) r ok Hlk.out hgc (by intro j hj; simp [Hlk.out, hj]) Hpm.out) ?_; rintro e w3 ⟨sv, rfl, hsv, hf3⟩; obtain ⟨sa, sm, sc, rfl⟩ := own_slice hsv; simp only [rcells])
    | fail)
  have hEd : E ≠ db ∧ E + 1 ≠ db ∧ E + 1 + 1 ≠ db := by
    have h1 := HS.out E (by rw [HE.out]; exact Nat.le_refl _)
    have h2 := HS.out (E + 1) (by rw [HE.out]; omega)
    have h3 := HS.out (E + 1 + 1) (by rw [HE.out]; omega)
    exact ⟨fun e => h1 (.inl e), fun e => h2 (.inl e), fun e => h3 (.inl e)⟩
  have hEb : E ≠ bb ∧ E + 1 ≠ bb ∧ E + 1 + 1 ≠ bb := by
    have h1 := HS.out E (by rw [HE.out]; exact Nat.le_refl _)
    have h2 := HS.out (E + 1) (by rw [HE.out]; omega)
    have h3 := HS.out (E + 1 + 1) (by rw [HE.out]; omega)
    exact ⟨fun e => h1 (.inr e), fun e => h2 (.inr e), fun e => h3 (.inr e)⟩
  have HEd := Lib.hid hEd
  have HEb := Lib.hid hEb
  clear hEd hEb
  have he4 := heap_alloc_keep (.cells #[.int .u8 r.kind, .int .u32 r.epoch, .int .i64 r.index, .int .i64 r.saga, .int .i64 r.reply, .slice sa sm sc] 91) (hf3.get (hf2.get he HEd.out.1) (fun f => f))
  have hv4 := heap_alloc_keep (.cells #[.int .u8 r.kind, .int .u32 r.epoch, .int .i64 r.index, .int .i64 r.saga, .int .i64 r.reply, .slice sa sm sc] 91) (hf3.get (hf2.get hv HEd.out.2.1) (fun f => f))
  have hh4 := heap_alloc_keep (.cells #[.int .u8 r.kind, .int .u32 r.epoch, .int .i64 r.index, .int .i64 r.saga, .int .i64 r.reply, .slice sa sm sc] 91) (hf3.get (hf2.get hh HEd.out.2.2) (fun f => f))
  have hr4 := heap_alloc_new w3 (.cells #[.int .u8 r.kind, .int .u32 r.epoch, .int .i64 r.index, .int .i64 r.saga, .int .i64 r.reply, .slice sa sm sc] 91)
  have hd4 := hd2.new (hf3.alloc (.cells #[.int .u8 r.kind, .int .u32 r.epoch, .int .i64 r.index, .int .i64 r.saga, .int .i64 r.reply, .slice sa sm sc] 91))
  have hF4 : Fr (fun k => k = db ∨ k = bb) w (w3.alloc (.cells #[.int .u8 r.kind, .int .u32 r.epoch, .int .i64 r.index, .int .i64 r.saga, .int .i64 r.reply, .slice sa sm sc] 91)) :=
    ((HF1.out.mono (fun _ _ f => f.elim)).trans (hf2.mono (fun _ _ e => .inl e))).trans ((hf3.alloc _).mono (fun _ _ f => f.elim))
  clear hg hgc hf2 hsv hf3 hcv he hv hh hd2
  generalize w3.alloc (.cells #[.int .u8 r.kind, .int .u32 r.epoch, .int .i64 r.index, .int .i64 r.saga, .int .i64 r.reply, .slice sa sm sc] 91) = W4 at he4 hv4 hh4 hr4 hd4 hF4 ⊢
  generalize w3.heap.size = R at hr4 ⊢
  have Hd4 := Lib.hid hd4
  have HF4 := Lib.hid hF4
  clear hd4 hF4
  have hcv := cellv W4
  have hfv := frozv W4
  have Hep : Hid (nextEpoch r ok = if ok && r.kind == 1 then (r.epoch + 1) % 2 ^ 32 else 1) := rfl
  generalize hee : nextEpoch r ok = ep at Hep
  have Hee := Lib.hid hee
  clear hee
  have hep : Hid (ep < 2 ^ 32) := by
    show _ < _
    rw [Hep.out]
    split
    · exact Nat.mod_lt _ (by omega)
    · omega
  have hcase : (ok = false ∧ ep = 1) ∨ (ok = true ∧ ((r.kind : Int) == 1) = false ∧ ep = 1) ∨ (ok = true ∧ ((r.kind : Int) == 1) = true ∧ ep = (r.epoch + 1) % 2 ^ 32) := by
    have := Hep.out
    cases ok
    · exact .inl ⟨rfl, this⟩
    · by_cases hk : r.kind = 1
      · exact .inr (.inr ⟨rfl, by rw [hk]; rfl, by rw [this]; simp [hk]⟩)
      · exact .inr (.inl ⟨rfl, by rw [beq_eq_false_iff_ne]; omega, by rw [this]; simp [hk]⟩)
  rcases hcase with ⟨rfl, rfl⟩ | ⟨rfl, hkB, rfl⟩ | ⟨rfl, hkB, hepe⟩
  rotate_left 2
  have h5 : (W4.setCell ⟨E + 1 + 1, 1, none⟩ (.int .u32 (((r.epoch : Int) + 1) % 4294967296))).heap[E + 1 + 1]? = some (.cells #[.int .u8 1, .int .u32 ep, .int .i64 0, .int .i64 0, .int .i64 0, .slice none 0 0] 91 (0, 0)) := by
    rw [hp_setCell, if_pos rfl, hh4, hepe]; simp
  have h5e : (W4.setCell ⟨E + 1 + 1, 1, none⟩ (.int .u32 (((r.epoch : Int) + 1) % 4294967296))).heap[E]? = some (.cells #[.nilIface] 32 (0, 0)) := by
    rw [hp_setCell, if_neg (by omega)]; exact he4
  have h5v : (W4.setCell ⟨E + 1 + 1, 1, none⟩ (.int .u32 (((r.epoch : Int) + 1) % 4294967296))).heap[E + 1]? = some (.cells #[.iface 27 (.pointer (some ⟨db, 0, none⟩))] 130 (0, 0)) := by
    rw [hp_setCell, if_neg (by omega)]; exact hv4
  have Hd5 := Lib.hid (Hd4.out.frame (Fr.one (E + 1 + 1) W4 1 (.int .u32 (((r.epoch : Int) + 1) % 4294967296))) (by rintro k rfl; exact ⟨HEd.out.2.2, HEb.out.2.2, _, hh4, by simp [kindOf]⟩))
  have HF5 := Lib.hid (HF4.out.setCell (b := E + 1 + 1) (fun h => absurd h (by rw [HE.out]; omega)) 1 (.int .u32 (((r.epoch : Int) + 1) % 4294967296)))
  clear Hd4 HF4 hepe
  rotate_left 1
  all_goals go_upto_region 7 with fail
  rotate_left 2
  generalize W4.setCell ⟨E + 1 + 1, 1, none⟩ (.int .u32 (((r.epoch : Int) + 1) % 4294967296)) = W5 at h5 h5e h5v Hd5 HF5 ⊢
  clear he4 hv4 hh4 hr4 hcv hfv
  have hh4 := h5
  have he4 := h5e
  have hv4 := h5v
  have Hd4 := Hd5
  have HF4 := HF5
  have hcv := cellv W5
  have hfv := frozv W5
  clear h5 h5e h5v Hd5 HF5
  all_goals
    have hd0 : Hid (d.count.pend = none) := Hp
    go_upto_region 8 with (first
      | (go_at_call 178; refine Calls.mono (Flush_calls Hd4.out) ?_; rintro e w6 ⟨hf6, ⟨hb6, _⟩ | ⟨hb6, rfl, hd6⟩⟩; (rw [Hq.out.count.bad] at hb6; cases hb6))
      | (go_at_call 71; refine Calls.mono (check_ok w6) ?_; rintro e w7 ⟨rfl, rfl⟩)
      | fail)
    have he6 := hf6.get he4 (HS.out E (by rw [HE.out]; exact Nat.le_refl _))
    have hv6 := hf6.get hv4 (HS.out (E + 1) (by rw [HE.out]; omega))
    have hh6 := hf6.get hh4 (HS.out (E + 1 + 1) (by rw [HE.out]; omega))
    have HF6 := Lib.hid (HF4.out.trans hf6)
    have Hd6 := Lib.hid hd6
    have H06 : Hid (0 < d.count.flush.blocks.length) := by
      have h0 := H0.out
      show 0 < (match d.pend with | some (i, b) => d.blocks.set i b | none => d.blocks).length
      rw [Hp.out]
      exact h0
    clear hcv hfv he4 hv4 hh4 Hd4 HF4 hf6 hd6
    have hcv := cellvd w7
    go_region_law (first
      | (go_simp; go_at_call 96; refine Calls.mono (bytes_head w7.drew 1 _ 0 0 0 (by decide) hep.out (by decide) (by decide) (by decide) (.slice none 0 0) (by rfl)) ?_; rintro e w8 ⟨nb, rfl, hnb, hwc, hf8⟩; have hcv8 := cellv w8; have hv8 := hf8.get (w := w7.drew) hv6 (fun f => f))
      | (go_simp; go_at_call 95; refine Calls.mono (sure_quiet (Hd6.out.new ((Fr.refl _ _).drew.trans hf8)) Hq.out.count.flush 0 H06.out rfl nb _ (recB_len1 _ (show (1:Nat) ≠ 2 by decide)) hwc) ?_; rintro e w9 ⟨rfl, hf9, hd9⟩)
      | fail)
    all_goals
      have he9 := hf9.get (hf8.get (w := w7.drew) he6 (fun f => f)) (HS.out E (by rw [HE.out]; exact Nat.le_refl _))
      have HF9 := Lib.hid ((HF6.out.drew.trans (hf8.mono (fun _ _ f => f.elim))).trans hf9)
      have Hd9 := Lib.hid hd9
      clear hcv hf9 hf8 hwc hv6 hh6 he6 hd9 hcv8 hv8
      have hcv := cellv w9
      have hfv := frozv w9
      go_wp2_with fail
      refine leaves_cons (f := 116) (args := #[.pointer (some ⟨E, 0, none⟩)]) (by simp) (by simp [go_sem]) ?_
      refine (idle116 _ _).mono ?_
      rintro e u' w'' ⟨rfl, rfl, rfl⟩
      have hsome : (w9.setCell ⟨E, 0, none⟩ Value.nilIface).cell? ⟨E, 0, none⟩ = some .nilIface := by rw [cellv, hp_setCell, if_pos rfl, he9]; rfl
      refine ⟨.nilIface, ?_, rfl, HF9.out.setCell (b := E) (fun h => absurd h (by rw [HE.out]; omega)) 0 .nilIface, ?_⟩
      · simp [results, Tryz.results92, go_sem, hsome]
      · rw [Hee.out]
        exact Hd9.out.frame (Fr.one E w9 0 .nilIface) (by rintro k rfl; exact ⟨HEd.out.1, HEb.out.1, _, he9, by simp [kindOf]⟩)
end Go.Proofs.YtkafmfdipmhleaaGreatDoor

namespace Go.Proofs.YtkafmfdipmhleaaGreatDoor
open Go.RowKit
structure JnM where
  epoch : Nat
  en : Nat
  fresh : Bool
def jnCells (db : Nat) (j : JnM) : Array Value := #[.iface 27 (.pointer (some ⟨db, 0, none⟩)), .int .u32 j.epoch, .int .i64 j.en, .bool j.fresh]
def JnAt (w : World) (jb db : Nat) (j : JnM) : Prop := w.heap[jb]? = some (.cells (jnCells db j) 132 (0, 0))
set_option maxHeartbeats 1000000 in
theorem Room_calls {w : World} {jb db bb : Nat} {j : JnM} {d : DiskM} (hj : JnAt w jb db j) (h : DiskAt w db bb d) :
    Calls Tryz.prog 45 #[.pointer (some ⟨jb, 0, none⟩)] w fun e w' => e = .returned (.int .i64 (wrap64 ((d.blocks.length : Int) - j.en))) ∧ w' = w.drew := by
  have hB : Calls Tryz.prog 177 #[.pointer (some ⟨db, 0, none⟩)] w.drew fun e w' => e = .returned (.int .i64 d.blocks.length) ∧ w.drew = w' := Blocks_calls (h.new ((Fr.refl _ w).drew))
  unfold JnAt jnCells at hj
  have HB := Lib.hid hB
  clear hB h
  have hcv := cellvd w
  go_enter Tryz.func45, Tryz.ntmps45
  go_wp2_with fail
  go_region_law (first
    | (go_simp; go_invoke; go_simp; go_at_call 177; refine Calls.mono HB.out ?_; rintro e w2 ⟨rfl, rfl⟩)
    | fail)
  all_goals
    go_wp2_with fail
    go_ret
    refine ⟨by simp [go_sem, wrap64, IntKind.wrap_i64], rfl⟩
def settleD (j : JnM) (d : DiskM) : DiskM := if j.fresh then d.flush else d
def SettlePost (w : World) (jb db bb : Nat) (j : JnM) (d : DiskM) (e : Ending) (w' : World) : Prop :=
  e = .returned .nilIface ∧ Fr (fun k => k = db ∨ k = bb ∨ k = jb) w w' ∧ DiskAt w' db bb (settleD j d) ∧ JnAt w' jb db { j with fresh := false }
theorem jn_ne {w : World} {jb db bb : Nat} {j : JnM} {d : DiskM} (hj : JnAt w jb db j) (h : DiskAt w db bb d) : jb ≠ db ∧ jb ≠ bb := by
  obtain ⟨_, _, _, _, h1, h2, _⟩ := h
  exact ⟨ne_of_kind hj h1 (by simp [kindOf]), ne_of_kind hj h2 (by simp [kindOf])⟩
theorem disk_lt {w : World} {db bb : Nat} {d : DiskM} (h : DiskAt w db bb d) : db < w.heap.size ∧ bb < w.heap.size := by
  obtain ⟨_, _, _, _, h1, h2, _⟩ := h
  exact ⟨lt_of_hp h1, lt_of_hp h2⟩
set_option maxRecDepth 100000 in
set_option maxHeartbeats 2000000 in
theorem Settle_calls {w : World} {jb db bb : Nat} {j : JnM} {d : DiskM} (hj : JnAt w jb db j) (h : DiskAt w db bb d) (hq : d.quiet) :
    Calls Tryz.prog 50 #[.pointer (some ⟨jb, 0, none⟩)] w (SettlePost w jb db bb j d) := by
  have hmf : ∀ (fn : Fn) (first cap : Array Value) (w : World), (Instr.makeFunc fn first cap).run Tryz.prog w = .ok (.func fn first cap) w := fun _ _ _ _ => rfl
  have hne := jn_ne hj h
  have hlt := disk_lt h
  have hjl := lt_of_hp hj
  have hd1 := h.new ((Fr.refl _ w).alloc (.cells #[.nilIface] 32))
  have hj1 := heap_alloc_keep (.cells #[.nilIface] 32) hj
  have he1 := heap_alloc_new w (.cells #[.nilIface] 32)
  have hF1 : Fr (fun k => k = db ∨ k = bb ∨ k = jb) w (w.alloc (.cells #[.nilIface] 32)) := (Fr.refl _ w).alloc _
  have Hq := Lib.hid hq
  have Hs : Hid (settleD j d = if j.fresh then d.flush else d) := rfl
  obtain ⟨ep, en, fresh⟩ := j
  go_enter_defers Tryz.func50, Tryz.ntmps50
  go_upto_region 2 with fail
  have HE : Hid (w.heap.size ≠ db ∧ w.heap.size ≠ bb ∧ w.heap.size ≠ jb ∧ ¬ w.heap.size < w.heap.size) := ⟨by omega, by omega, by omega, by omega⟩
  have Hne := Lib.hid hne
  have HF1 := Lib.hid hF1
  have Hd1 := Lib.hid hd1
  clear h hj hne hlt hjl hd1 hF1 hq
  generalize w.alloc (.cells #[.nilIface] 32) = W1 at hj1 he1 HF1 Hd1 ⊢
  have HEl := Lib.hid (rfl : w.heap.size = w.heap.size)
  generalize hE : w.heap.size = E at he1 HE ⊢
  have HEe := Lib.hid hE
  clear hE HEl
  unfold jnCells at hj1
  simp only at hj1
  have hcv := cellv W1
  have hfv := frozv W1
  cases fresh
  · go_wp2_with fail
    refine leaves_cons (f := 69) (args := #[.pointer (some ⟨E, 0, none⟩)]) (by simp) (by simp [go_sem]) ?_
    refine (idle69 _ _).mono ?_
    rintro e u' w'' ⟨rfl, rfl, rfl⟩
    have hsome : (W1.setCell ⟨E, 0, none⟩ Value.nilIface).cell? ⟨E, 0, none⟩ = some .nilIface := by rw [cellv, hp_setCell, if_pos rfl, he1]; rfl
    refine ⟨.nilIface, ?_, rfl, HF1.out.setCell (b := E) (fun h => absurd h (by rw [HEe.out]; omega)) 0 .nilIface, ?_, ?_⟩
    · simp [results, Tryz.results50, go_sem, hsome]
    · exact Hd1.out.frame (Fr.one E W1 0 .nilIface) (by rintro k rfl; exact ⟨HE.out.1, HE.out.2.1, _, he1, by simp [kindOf]⟩)
    · unfold JnAt
      rw [hp_setCell, if_neg (Ne.symm HE.out.2.2.1)]; exact hj1
  · go_upto_region 4 with (first
      | (go_at_call 178; refine Calls.mono (Flush_calls Hd1.out) ?_; rintro e w6 ⟨hf6, ⟨hb6, _⟩ | ⟨hb6, rfl, hd6⟩⟩; (rw [Hq.out.bad] at hb6; cases hb6))
      | (go_at_call 71; refine Calls.mono (check_ok w6) ?_; rintro e w7 ⟨rfl, rfl⟩)
      | fail)
    have hj7 := hf6.get hj1 (by rintro (e | e); exact Hne.out.1 e; exact Hne.out.2 e)
    have he7 := hf6.get he1 (by rintro (e | e); exact HE.out.1 e; exact HE.out.2.1 e)
    have HF7 := Lib.hid (HF1.out.trans (hf6.mono (fun k _ e => e.elim .inl (fun e => .inr (.inl e)))))
    have Hd7 := Lib.hid hd6
    clear hf6 hd6 hb6 hcv hfv
    have hcv := cellv w7
    have hfv := frozv w7
    go_upto_region 5 with fail
    have hj8 : (w7.setCell ⟨jb, 3, none⟩ (.bool false)).heap[jb]? = some (.cells #[.iface 27 (.pointer (some ⟨db, 0, none⟩)), .int .u32 ep, .int .i64 en, .bool false] 132 (0, 0)) := by
      rw [hp_setCell, if_pos rfl, hj7]; rfl
    have he8 : (w7.setCell ⟨jb, 3, none⟩ (.bool false)).heap[E]? = some (.cells #[.nilIface] 32 (0, 0)) := by
      rw [hp_setCell, if_neg HE.out.2.2.1]; exact he7
    have Hd8 := Lib.hid (Hd7.out.frame (Fr.one jb w7 3 (.bool false)) (by rintro k rfl; exact ⟨Hne.out.1, Hne.out.2, _, hj7, by simp [kindOf]⟩))
    have HF8 := Lib.hid (HF7.out.setCell (b := jb) (fun _ => .inr (.inr rfl)) 3 (.bool false))
    clear hcv hfv hj7 he7
    generalize w7.setCell ⟨jb, 3, none⟩ (.bool false) = W8 at hj8 he8 Hd8 HF8 ⊢
    have hcv := cellv W8
    have hfv := frozv W8
    go_wp2_with fail
    refine leaves_cons (f := 69) (args := #[.pointer (some ⟨E, 0, none⟩)]) (by simp) (by simp [go_sem]) ?_
    refine (idle69 _ _).mono ?_
    rintro e u' w'' ⟨rfl, rfl, rfl⟩
    have hsome : (W8.setCell ⟨E, 0, none⟩ Value.nilIface).cell? ⟨E, 0, none⟩ = some .nilIface := by rw [cellv, hp_setCell, if_pos rfl, he8]; rfl
    refine ⟨.nilIface, ?_, rfl, HF8.out.setCell (b := E) (fun h => absurd h (by rw [HEe.out]; omega)) 0 .nilIface, ?_, ?_⟩
    · simp [results, Tryz.results50, go_sem, hsome]
    · exact Hd8.out.frame (Fr.one E W8 0 .nilIface) (by rintro k rfl; exact ⟨HE.out.1, HE.out.2.1, _, he8, by simp [kindOf]⟩)
    · unfold JnAt
      rw [hp_setCell, if_neg (Ne.symm HE.out.2.2.1)]; exact hj8
end Go.Proofs.YtkafmfdipmhleaaGreatDoor

namespace Go.Proofs.YtkafmfdipmhleaaGreatDoor
open Go.RowKit
/-- A record that can be written. -/
structure RecM.ok (r : RecM) : Prop where
  kind : r.kind < 256
  epoch : r.epoch < 2 ^ 32
  index : r.index < 65536
  saga : r.saga < 65536
  reply : r.reply < 256
  none : r.kind ≠ 2 → r.steps = []
  small : r.kind = 2 → smallSteps r.steps
theorem bytes_rec (w : World) (r : RecM) (sv : Value) (h : r.ok) (hsv : r.kind = 2 → StepsAt w sv r.steps) :
    Calls Tryz.prog 96 #[.agg (rcells r.kind r.epoch r.index r.saga r.reply sv)] w (BytesPost w r) := by
  by_cases hk : r.kind = 2
  · obtain ⟨k, ep, ix, sg, rp, l⟩ := r
    obtain rfl : k = 2 := hk
    exact bytes_body w ep ix sg rp h.epoch h.index h.saga h.reply sv l (hsv rfl) (h.small rfl)
  · have hst := h.none hk
    obtain ⟨k, ep, ix, sg, rp, l⟩ := r
    obtain rfl : l = [] := hst
    have hk' : k ≠ 2 := hk
    exact bytes_head w k ep ix sg rp h.kind h.epoch h.index h.saga h.reply sv (by simpa using hk')
theorem recB_len_ok (r : RecM) (h : r.ok) : (recB r).length = 128 := by
  by_cases hk : r.kind = 2
  · refine recB_len r ?_
    obtain ⟨h1, h2, h3⟩ := h.small hk
    have := stepsB_le r.steps h3
    simp [bodyB, headB, hk, leN_length]
    omega
  · exact recB_len1 r hk
def placed (r : RecM) (ep ix : Nat) : RecM := { r with epoch := ep, index := ix }
def DiskM.append (d : DiskM) (ep ix : Nat) : List RecM → DiskM
  | [] => d
  | r :: rs => (d.sure ix (recBytes (placed r ep ix))).append ep (ix + 1) rs
theorem append_snoc (d : DiskM) (ep ix : Nat) (l : List RecM) (r : RecM) : d.append ep ix (l ++ [r]) = (d.append ep ix l).sure (ix + l.length) (recBytes (placed r ep (ix + l.length))) := by
  induction l generalizing d ix with
  | nil => rfl
  | cons a l ih =>
    have := ih (d.sure ix (recBytes (placed a ep ix))) (ix + 1)
    simp only [List.cons_append, DiskM.append, List.length_cons]
    rw [this, show ix + 1 + l.length = ix + (l.length + 1) by omega]
theorem DiskM.quiet.append {d : DiskM} (h : d.quiet) (ep ix : Nat) (l : List RecM) : (d.append ep ix l).quiet := by
  induction l generalizing d ix with
  | nil => exact h
  | cons a l ih => exact ih (d := d.sure ix _) ((h.put _ _).flush) _
theorem sure_len (d : DiskM) (i : Nat) (l : List UInt8) : (d.sure i l).blocks.length = d.blocks.length := by
  simp [DiskM.sure, DiskM.flush, DiskM.put, DiskM.count]
theorem append_len (d : DiskM) (ep ix : Nat) (l : List RecM) : (d.append ep ix l).blocks.length = d.blocks.length := by
  induction l generalizing d ix with
  | nil => rfl
  | cons a l ih => rw [DiskM.append, ih, sure_len]
theorem append_pend (d : DiskM) (ep ix : Nat) (l : List RecM) (h : d.pend = none) : (d.append ep ix l).pend = none := by
  induction l generalizing d ix with
  | nil => exact h
  | cons a l ih => exact ih _ _ rfl
/-- A list of records as it lies in memory. -/
structure RecsAt (w : World) (lb : Nat) (rs : List RecM) : Prop where
  ok : ∀ r ∈ rs, ∀ ep ix, ep < 2 ^ 32 → ix < 65536 → (placed r ep ix).ok
  ex : ∃ lc, w.heap[lb]? = some (.cells lc 91 (0, 0)) ∧ ∀ k r, rs[k]? = some r → ∃ sv, (∃ a m c, sv = .slice a m c) ∧ (r.kind = 2 → StepsAt w sv r.steps) ∧ ∀ i, i < 6 → lc[k * 6 + i]? = (rcells r.kind r.epoch r.index r.saga r.reply sv)[i]?
theorem RecsAt.frame {w w' : World} {lb : Nat} {rs : List RecM} {S : Nat → Prop} (h : RecsAt w lb rs) (hf : Fr S w w') (hS : ∀ k, S k → ∃ o, w.heap[k]? = some o ∧ kindOf o ≠ 55 ∧ kindOf o ≠ 92) : RecsAt w' lb rs := by
  obtain ⟨hok, lc, h1, h2⟩ := h
  refine ⟨hok, lc, hf.get h1 (fun hs => ?_), fun k r hr => ?_⟩
  · obtain ⟨o, ho, _, hk⟩ := hS lb hs
    rw [h1] at ho
    exact hk (by rw [← Option.some.inj ho]; rfl)
  · obtain ⟨sv, e1, e2, e3⟩ := h2 k r hr
    exact ⟨sv, e1, fun hk => (e2 hk).frame hf (fun k hs => by obtain ⟨o, ho, h5, _⟩ := hS k hs; exact ⟨o, ho, h5⟩), e3⟩
def AppPost (w : World) (jb db bb : Nat) (j : JnM) (d : DiskM) (rs : List RecM) (e : Ending) (w' : World) : Prop :=
  e = .returned .nilIface ∧ Fr (fun k => k = db ∨ k = bb ∨ k = jb) w w' ∧ DiskAt w' db bb ((settleD j d).append j.epoch j.en rs) ∧ JnAt w' jb db ⟨j.epoch, j.en + rs.length, false⟩
theorem settle_pend (j : JnM) (d : DiskM) (h : d.pend = none) : (settleD j d).pend = none := by
  unfold settleD; split
  · rfl
  · exact h
theorem settle_len (j : JnM) (d : DiskM) (h : d.pend = none) : (settleD j d).blocks.length = d.blocks.length := by
  unfold settleD; split
  · simp [DiskM.flush, h, DiskM.count]
  · rfl
theorem settle_quiet (j : JnM) (d : DiskM) (h : d.quiet) : (settleD j d).quiet := by
  unfold settleD; split
  · exact h.flush
  · exact h
/-- The region of a number, out of a body. -/
def regOf (n : Nat) : Code → Option Code
  | .region m l b => if m = n then some (.region m l b) else none
  | .loop c => regOf n c
  | .seq a b => match regOf n a with
    | some c => some c
    | none => regOf n b
  | .block _ c => regOf n c
  | .scope c => regOf n c
  | .cond _ a b => match regOf n a with
    | some c => some c
    | none => regOf n b
  | _ => none
noncomputable def appR9 : Code := ((Tryz.f65.body).bind (regOf 9)).getD .skip
noncomputable def appR8 : Code := ((Tryz.f65.body).bind (regOf 8)).getD .skip
set_option maxRecDepth 100000 in
set_option maxHeartbeats 4000000 in
/-- j.v.sure(r.Index, r.bytes()). -/
theorem app_r9 (jb db bb R ix : Nat) (j : JnM) (d : DiskM) (r : RecM) (sa : Option Addr) (sm sc : Nat) (W : World) (hne : jb ≠ db ∧ jb ≠ bb) (hRd : R ≠ db ∧ R ≠ bb)
    (hj : W.heap[jb]? = some (.cells (jnCells db j) 132 (0, 0))) (hr : W.heap[R]? = some (.cells #[.int .u8 r.kind, .int .u32 r.epoch, .int .i64 r.index, .int .i64 r.saga, .int .i64 r.reply, .slice sa sm sc] 91 (0, 0)))
    (hst : r.kind = 2 → StepsAt W (.slice sa sm sc) r.steps) (hok : r.ok) (hd : DiskAt W db bb d) (hq : d.quiet) (hp : d.pend = none) (hix : ix = r.index) (hil : ix < d.blocks.length)
    {ds : List Deferred} {x1 x2 x3 x4 x5 x6 x8 x9 x10 x11 x12 x13 x14 x15 x16 x17 x18 x19 x20 x21 x22 x23 x24 x25 x26 x27 x28 x29 x30 x31 x32 x33 x34 x35 x36 x37 x38 x39 x40 x41 x42 x43 x44 x45 x46 x47 x48 x49 x50 x51 : Value} {Q : Exit → Act → World → Prop}
    (hQ : ∀ (y33 y34 y35 y36 y37 y38 y39 y40 y41 : Value) (w' : World), Fr (fun k => k = db ∨ k = bb) W w' → DiskAt w' db bb (d.sure ix (recBytes r)) → Q .normal ⟨#[.pointer (some ⟨jb, 0, none⟩), x1,x2,x3,x4,x5,x6, .pointer (some ⟨R, 0, none⟩), x8,x9,x10,x11,x12,x13,x14,x15,x16,x17,x18,x19,x20,x21,x22,x23,x24,x25,x26,x27,x28,x29,x30,x31,x32,y33,y34,y35,y36,y37,y38,y39,y40,y41,x42,x43,x44,x45,x46,x47,x48,x49,x50,x51], ds⟩ w') :
    Code.wp Tryz.prog appR9 Q ⟨#[.pointer (some ⟨jb, 0, none⟩), x1,x2,x3,x4,x5,x6, .pointer (some ⟨R, 0, none⟩), x8,x9,x10,x11,x12,x13,x14,x15,x16,x17,x18,x19,x20,x21,x22,x23,x24,x25,x26,x27,x28,x29,x30,x31,x32,x33,x34,x35,x36,x37,x38,x39,x40,x41,x42,x43,x44,x45,x46,x47,x48,x49,x50,x51], ds⟩ W := by
  subst hix
  have a0 : W.cell? ⟨jb, 0, none⟩ = some (.iface 27 (.pointer (some ⟨db, 0, none⟩))) := by rw [cellv, hj]; rfl
  have r0 : W.cell? ⟨R, 0, none⟩ = some (.int .u8 r.kind) := by rw [cellv, hr]; rfl
  have r1 : W.cell? ⟨R, 1, none⟩ = some (.int .u32 r.epoch) := by rw [cellv, hr]; rfl
  have r2 : W.cell? ⟨R, 2, none⟩ = some (.int .i64 r.index) := by rw [cellv, hr]; rfl
  have r3 : W.cell? ⟨R, 3, none⟩ = some (.int .i64 r.saga) := by rw [cellv, hr]; rfl
  have r4 : W.cell? ⟨R, 4, none⟩ = some (.int .i64 r.reply) := by rw [cellv, hr]; rfl
  have r5 : W.cell? ⟨R, 5, none⟩ = some (.slice sa sm sc) := by rw [cellv, hr]; rfl
  have HK := Lib.hid (show ∀ (w' : World), Fr (fun k => k = db ∨ k = bb) W.drew w' → w'.cell? ⟨jb, 0, none⟩ = some (.iface 27 (.pointer (some ⟨db, 0, none⟩))) ∧ w'.cell? ⟨R, 0, none⟩ = some (.int .u8 r.kind) ∧ w'.cell? ⟨R, 1, none⟩ = some (.int .u32 r.epoch) ∧ w'.cell? ⟨R, 2, none⟩ = some (.int .i64 r.index) ∧ w'.cell? ⟨R, 3, none⟩ = some (.int .i64 r.saga) ∧ w'.cell? ⟨R, 4, none⟩ = some (.int .i64 r.reply) ∧ w'.cell? ⟨R, 5, none⟩ = some (.slice sa sm sc) from by
    intro w' hf
    have e1 := hf.get (w := W.drew) hj (by omega)
    have e2 := hf.get (w := W.drew) hr (by omega)
    refine ⟨?_, ?_, ?_, ?_, ?_, ?_, ?_⟩ <;> rw [cellv] <;> first | (rw [e1]; rfl) | (rw [e2]; rfl))
  have HB := Lib.hid (show Calls Tryz.prog 96 #[.agg #[.int .u8 r.kind, .int .u32 r.epoch, .int .i64 r.index, .int .i64 r.saga, .int .i64 r.reply, .slice sa sm sc]] W.drew (BytesPost W.drew r) from bytes_rec W.drew r (.slice sa sm sc) hok (fun h => hst h))
  have HS := Lib.hid (fun (w10 : World) (nb : Nat) (hf10 : New W.drew w10) (hwc : w10.heap[nb]? = some (.cells (wayCells (recB r) 4) 201 (0, 0))) => show Calls Tryz.prog 95 #[.agg #[.iface 27 (.pointer (some ⟨db, 0, none⟩))], .int .i64 r.index, .slice (some ⟨nb, 0, none⟩) (endOf r) (endOf r)] w10 (fun e w' => e = .returned (.tuple #[]) ∧ Fr (fun k => k = db ∨ k = bb) w10 w' ∧ DiskAt w' db bb (d.sure r.index (recBytes r))) from sure_quiet ((hd.new ((Fr.refl _ W).drew)).new hf10) hq r.index hil hp nb _ (recB_len_ok _ hok) hwc)
  have HQ := Lib.hid hQ
  clear hj hr hst hd hq hp hil hok hQ hne hRd
  conv => arg 2; whnf
  go_region_held3 (fun w' => w'.cell? ⟨jb, 0, none⟩ = some (.iface 27 (.pointer (some ⟨db, 0, none⟩))) ∧ w'.cell? ⟨R, 0, none⟩ = some (.int .u8 r.kind) ∧ w'.cell? ⟨R, 1, none⟩ = some (.int .u32 r.epoch) ∧ w'.cell? ⟨R, 2, none⟩ = some (.int .i64 r.index) ∧ w'.cell? ⟨R, 3, none⟩ = some (.int .i64 r.saga) ∧ w'.cell? ⟨R, 4, none⟩ = some (.int .i64 r.reply) ∧ w'.cell? ⟨R, 5, none⟩ = some (.slice sa sm sc))
    (first | exact HK.out _ (Fr.refl _ _) | exact HK.out _ (hf10.mono (fun _ _ f => f.elim)) | exact HK.out _ ((hf10.mono (fun _ _ f => f.elim)).trans hf11))
    ((first
      | (go_at_call 96; refine Calls.mono HB.out ?_; rintro e w10 ⟨nb, rfl, hnb, hwc, hf10⟩)
      | (go_at_call 95; refine Calls.mono (HS.out _ _ hf10 hwc) ?_; rintro e w11 ⟨rfl, hf11, hd11⟩)
      | fail))
  exact HQ.out _ _ _ _ _ _ _ _ _ _ (((Fr.refl _ W).drew.trans (hf10.mono (fun _ _ f => f.elim))).trans hf11) hd11
set_option maxRecDepth 100000 in
set_option maxHeartbeats 4000000 in
/-- r.Epoch, r.Index = j.epoch, j.end+i. -/
theorem app_r8 (jb db R : Nat) (j : JnM) (kd ep ix sg rp k : Nat) (sv : Value) (W : World)
    (hj : W.heap[jb]? = some (.cells (jnCells db j) 132 (0, 0))) (hr : W.heap[R]? = some (.cells #[.int .u8 kd, .int .u32 ep, .int .i64 ix, .int .i64 sg, .int .i64 rp, sv] 91 (0, 0)))
    (hb : j.en ≤ 1000 ∧ k ≤ 1000)
    {ds : List Deferred} {x1 x2 x3 x4 x5 x8 x9 x10 x11 x12 x13 x14 x15 x16 x17 x18 x19 x20 x21 x22 x23 x24 x25 x26 x27 x28 x29 x30 x31 x32 x33 x34 x35 x36 x37 x38 x39 x40 x41 x42 x43 x44 x45 x46 x47 x48 x49 x50 x51 : Value} {Q : Exit → Act → World → Prop}
    (hQ : ∀ (y21 y22 y23 y24 y25 y26 y27 y28 y29 y30 y31 y32 : Value) (w' : World), Fr (· = R) W w' → w'.heap[R]? = some (.cells #[.int .u8 kd, .int .u32 j.epoch, .int .i64 ((j.en + k : Nat) : Int), .int .i64 sg, .int .i64 rp, sv] 91 (0, 0)) → Q .normal ⟨#[.pointer (some ⟨jb, 0, none⟩), x1,x2,x3,x4,x5, .int .i64 k, .pointer (some ⟨R, 0, none⟩), x8,x9,x10,x11,x12,x13,x14,x15,x16,x17,x18,x19,x20,y21,y22,y23,y24,y25,y26,y27,y28,y29,y30,y31,y32,x33,x34,x35,x36,x37,x38,x39,x40,x41,x42,x43,x44,x45,x46,x47,x48,x49,x50,x51], ds⟩ w') :
    Code.wp Tryz.prog appR8 Q ⟨#[.pointer (some ⟨jb, 0, none⟩), x1,x2,x3,x4,x5, .int .i64 k, .pointer (some ⟨R, 0, none⟩), x8,x9,x10,x11,x12,x13,x14,x15,x16,x17,x18,x19,x20,x21,x22,x23,x24,x25,x26,x27,x28,x29,x30,x31,x32,x33,x34,x35,x36,x37,x38,x39,x40,x41,x42,x43,x44,x45,x46,x47,x48,x49,x50,x51], ds⟩ W := by
  have hRj : jb ≠ R := ne_of_kind hj hr (by simp [kindOf])
  have hRj' : R ≠ jb := fun e => hRj e.symm
  simp only [jnCells] at hj
  have a1 : W.cell? ⟨jb, 1, none⟩ = some (.int .u32 j.epoch) := by rw [cellv, hj]; rfl
  have a2 : W.cell? ⟨jb, 2, none⟩ = some (.int .i64 j.en) := by rw [cellv, hj]; rfl
  have r1 : W.cell? ⟨R, 1, none⟩ = some (.int .u32 ep) := by rw [cellv, hr]; rfl
  have r2 : W.cell? ⟨R, 2, none⟩ = some (.int .i64 ix) := by rw [cellv, hr]; rfl
  have f1 : W.frozen? ⟨R, 1, none⟩ = false := by rw [frozv, hr]; rfl
  have f2 : W.frozen? ⟨R, 2, none⟩ = false := by rw [frozv, hr]; rfl
  have hw : wrap64 ((j.en : Int) + (k : Int)) = ((j.en + k : Nat) : Int) := by
    rw [wrap_in _ (by omega)]; omega
  have hw' : IntKind.i64.wrap ((j.en : Int) + (k : Int)) = ((j.en + k : Nat) : Int) := by
    rw [IntWalk.i64_in _ (by omega)]; omega
  have HQ := Lib.hid hQ
  have Hr := Lib.hid hr
  generalize j.en + k = s at hw hw' HQ
  clear hj hr hQ hb
  conv => arg 2; whnf
  go_region_held3 (fun w' => w'.cell? ⟨jb, 1, none⟩ = some (.int .u32 j.epoch) ∧ w'.cell? ⟨jb, 2, none⟩ = some (.int .i64 j.en) ∧ w'.frozen? ⟨R, 1, none⟩ = false ∧ w'.frozen? ⟨R, 2, none⟩ = false)
    (go_keep)
    ((fail))
  refine HQ.out _ _ _ _ _ _ _ _ _ _ _ _ _ ((Fr.one R W 1 (.int .u32 j.epoch)).trans (Fr.one R _ 2 (.int .i64 s))).drew ?_
  rw [hp_drew, hp_setCell, if_pos rfl, hp_setCell, if_pos rfl, Hr.out]; rfl
end Go.Proofs.YtkafmfdipmhleaaGreatDoor

namespace Go.Proofs.YtkafmfdipmhleaaGreatDoor
open Go.RowKit
set_option maxRecDepth 100000 in
set_option maxHeartbeats 4000000 in
theorem Append_calls {w : World} {jb db bb lb n cap : Nat} {j : JnM} {d : DiskM} {rs : List RecM} (hj : JnAt w jb db j) (h : DiskAt w db bb d) (hq : d.quiet) (hp : d.pend = none) (hl : RecsAt w lb rs) (hn : n = rs.length)
    (hep : j.epoch < 2 ^ 32) (hroom : j.en + rs.length ≤ d.blocks.length) (hb : d.blocks.length ≤ 1000) :
    Calls Tryz.prog 65 #[.pointer (some ⟨jb, 0, none⟩), .slice (some ⟨lb, 0, none⟩) n cap] w (AppPost w jb db bb j d rs) := by
  have hmf : ∀ (fn : Fn) (first cap : Array Value) (w : World), (Instr.makeFunc fn first cap).run Tryz.prog w = .ok (.func fn first cap) w := fun _ _ _ _ => rfl
  have hne := jn_ne hj h
  have hlt := disk_lt h
  have hjl := lt_of_hp hj
  have hd1 := h.new ((Fr.refl _ w).alloc (.cells #[.nilIface] 32))
  have hj1 := heap_alloc_keep (.cells #[.nilIface] 32) hj
  have he1 := heap_alloc_new w (.cells #[.nilIface] 32)
  have hl1 := hl.frame (S := fun _ => False) ((Fr.refl _ w).alloc (.cells #[.nilIface] 32)) (fun _ f => f.elim)
  have hF1 : Fr (fun k => k = db ∨ k = bb ∨ k = jb) w (w.alloc (.cells #[.nilIface] 32)) := (Fr.refl _ w).alloc _
  have Hq := Lib.hid hq
  have Hp := Lib.hid hp
  have Hep := Lib.hid hep
  have Hroom := Lib.hid hroom
  have Hb := Lib.hid hb
  have Hn := Lib.hid hn
  go_enter_defers Tryz.func65, Tryz.ntmps65
  go_upto_region 2 with fail
  have HE : Hid (w.heap.size ≠ db ∧ w.heap.size ≠ bb ∧ w.heap.size ≠ jb ∧ ¬ w.heap.size < w.heap.size) := ⟨by omega, by omega, by omega, by omega⟩
  have Hne := Lib.hid hne
  have HF1 := Lib.hid hF1
  have Hd1 := Lib.hid hd1
  have Hl1 := Lib.hid hl1
  have Hj1 := Lib.hid (show JnAt (w.alloc (.cells #[.nilIface] 32)) jb db j from hj1)
  clear h hj hne hlt hjl hd1 hF1 hq hj1 hl1 hp hep hroom hb hn hl
  generalize w.alloc (.cells #[.nilIface] 32) = W1 at Hj1 he1 HF1 Hd1 Hl1 ⊢
  generalize hE : w.heap.size = E at he1 HE ⊢
  have HEe := Lib.hid hE
  clear hE
  go_upto_region 5 with (first
    | (go_at_call 50; refine Calls.mono (Settle_calls Hj1.out Hd1.out Hq.out) ?_; rintro e w2 ⟨rfl, hf2, hd2, hj2⟩)
    | fail)
  have hS2 : ∀ k, (k = db ∨ k = bb ∨ k = jb) → ∃ o, W1.heap[k]? = some o ∧ kindOf o ≠ 55 ∧ kindOf o ≠ 92 := by
    obtain ⟨_, _, _, _, h1, h2, _⟩ := Hd1.out
    rintro k (rfl | rfl | rfl)
    · exact ⟨_, h1, by simp [kindOf], by simp [kindOf]⟩
    · exact ⟨_, h2, by simp [kindOf], by simp [kindOf]⟩
    · exact ⟨_, Hj1.out, by simp [kindOf], by simp [kindOf]⟩
  have hl2 := Hl1.out.frame hf2 hS2
  have he2 := hf2.get he1 (by have := HE.out; omega)
  have HF2 := Lib.hid (HF1.out.trans hf2)
  have HE2 := Lib.hid he2
  have Hl2 := Lib.hid hl2
  have Hd2 := Lib.hid hd2
  have Hj2 := Lib.hid hj2
  have hnl : Hid (rs.length < 2 ^ 40) := by
    have := Hroom.out; have := Hb.out; show _ < _; omega
  clear hf2 hd2 hj2 hS2 hl2 he2 he1
  go_wp2_with fail
  go_loopw [16] (fun i wr => ∃ k, k ≤ rs.length ∧ i = .int .i64 (k : Nat) ∧ DiskAt wr db bb ((settleD j d).append j.epoch j.en (rs.take k)) ∧ Fr (fun k => k = db ∨ k = bb) w2 wr) (fun i _ => rs.length - (intOf i).toNat)
  case atStart => exact ⟨0, Nat.zero_le _, rfl, by simpa [DiskM.append] using Hd2.out, Fr.refl _ _⟩
  case round =>
    obtain ⟨k, hk, rfl, hdk, hfk⟩ := hrel
    have Hdk := Lib.hid hdk
    have Hfk := Lib.hid hfk
    have hjk := hfk.get Hj2.out (by have := Hne.out; omega)
    have hek := hfk.get HE2.out (by have := HE.out; omega)
    have hlk := Hl2.out.frame hfk (by
      obtain ⟨_, _, _, _, h1, h2, _⟩ := Hd2.out
      rintro k (rfl | rfl)
      · exact ⟨_, h1, by simp [kindOf], by simp [kindOf]⟩
      · exact ⟨_, h2, by simp [kindOf], by simp [kindOf]⟩)
    clear hdk hfk
    by_cases hkn : k < rs.length
    · obtain ⟨hok, lc, hlb, hrec⟩ := hlk
      obtain ⟨sv, ⟨sa, sm, sc, rfl⟩, hst, hcells⟩ := hrec k rs[k] (by simp [hkn])
      have hokr := hok rs[k] (List.getElem_mem hkn)
      have htk : rs.take (k + 1) = rs.take k ++ [rs[k]] := List.take_succ_eq_append_getElem hkn
      generalize rs[k] = r at hst hcells hokr htk
      have Hok := Lib.hid hokr
      have Htk := Lib.hid htk
      have hrow : ∀ q v, ([.int .u8 r.kind, .int .u32 r.epoch, .int .i64 r.index, .int .i64 r.saga, .int .i64 r.reply, .slice sa sm sc] : List Value)[q]? = some v → cellOf wr.heap[lb]? (k * 6 + q) = some v := by
        intro q v hq
        have hq6 : q < 6 := by simpa using (List.getElem?_eq_some_iff.1 hq).1
        rw [hlb, cellOf_cells, hcells q hq6]
        simpa [rcells] using hq
      obtain ⟨d9, hu9, hr9⟩ := isRow_of (ty := 91) (by kernel_rfl)
      have Hrow := Lib.hid hrow
      have Hst := Lib.hid hst
      have Hkn := Lib.hid hkn
      clear hrow hcells hlb hrec hok hokr htk hst
      have hkl : (k : Int) < rs.length := by omega
      have hcv := cellv wr
      clear hkn
      go_upto_region 8 with (first
        | (refine wpl_load rfl 91 (.tmp 19) rfl lb (k * 6) rfl _ d9 Hrow.out hu9 hr9 Tryz.info91s ?_)
        | fail)
      have hr8 := heap_alloc_new wr (.cells #[.int .u8 r.kind, .int .u32 r.epoch, .int .i64 r.index, .int .i64 r.saga, .int .i64 r.reply, .slice sa sm sc] 91)
      have hj8 := heap_alloc_keep (.cells #[.int .u8 r.kind, .int .u32 r.epoch, .int .i64 r.index, .int .i64 r.saga, .int .i64 r.reply, .slice sa sm sc] 91) hjk
      have HF8 := Lib.hid ((Fr.refl (fun _ => False) wr).alloc (.cells #[.int .u8 r.kind, .int .u32 r.epoch, .int .i64 r.index, .int .i64 r.saga, .int .i64 r.reply, .slice sa sm sc] 91))
      clear hcv hek
      have HW8 := Lib.hid (rfl : wr.heap.size = wr.heap.size)
      have HRd : wr.heap.size ≠ db ∧ wr.heap.size ≠ bb := by
        have := disk_lt Hdk.out
        omega
      have HRb : ∀ k, k < wr.heap.size → ¬ k = wr.heap.size := fun k h e => by omega
      generalize wr.alloc (.cells #[.int .u8 r.kind, .int .u32 r.epoch, .int .i64 r.index, .int .i64 r.saga, .int .i64 r.reply, .slice sa sm sc] 91) = W8 at hr8 hj8 HF8 ⊢
      generalize hR : wr.heap.size = R at hr8 HRd HRb HW8 ⊢
      have HR := Lib.hid hR
      have HRd := Lib.hid HRd
      have HRb := Lib.hid HRb
      clear hR
      refine app_r8 jb db R ⟨j.epoch, j.en, false⟩ r.kind r.epoch r.index r.saga r.reply k (.slice sa sm sc) W8 hj8 hr8 ?_ ?_
      · have := Hroom.out; have := Hb.out; have := Hkn.out
        exact ⟨by show j.en ≤ 1000; omega, by omega⟩
      intro y21 y22 y23 y24 y25 y26 y27 y28 y29 y30 y31 y32 W9 hf9 hr9'
      have HF9 := Lib.hid (HF8.out.trans' hf9 (by rintro i hi e; rw [e] at hi; exact HRb.out R (by rw [HR.out] at hi; exact hi) rfl))
      have hj9 := hf9.get hj8 (by rintro rfl; rw [hj8] at hr8; simp at hr8)
      clear hr8 hj8 HF8 hf9
      go_upto_region 9 with fail
      have hix : j.en + k < 65536 := by have := Hroom.out; have := Hb.out; have := Hkn.out; omega
      refine app_r9 jb db bb R (j.en + k) ⟨j.epoch, j.en, false⟩ ((settleD j d).append j.epoch j.en (rs.take k)) (placed r j.epoch (j.en + k)) sa sm sc W9 Hne.out HRd.out hj9 hr9'
        (fun h2 => (Hst.out h2).frame HF9.out (fun _ f => f.elim)) (Hok.out j.epoch (j.en + k) Hep.out hix) (Hdk.out.new HF9.out) ((settle_quiet j d Hq.out).append _ _ _) (append_pend _ _ _ _ (settle_pend j d Hp.out)) rfl ?_ ?_
      · rw [append_len, settle_len j d Hp.out]
        have := Hroom.out; have := Hkn.out
        omega
      intro y33 y34 y35 y36 y37 y38 y39 y40 y41 w11 hf11 hd11
      clear hr9' hj9
      go_wp2_with fail
      go_roundw
      case rel =>
        refine ⟨k + 1, Hkn.out, by go_num, ?_, (Hfk.out.trans (HF9.out.mono (fun _ _ f => f.elim))).trans hf11⟩
        have hlk : (rs.take k).length = k := by rw [List.length_take]; have := Hkn.out; omega
        rw [Htk.out, append_snoc, hlk]
        exact hd11
      case measure => have := Hkn.out; simp [intOf]; omega
    · have hkl : Hid (k = rs.length) := by show _ = _; omega
      have Hjk := Lib.hid hjk
      have Hek := Lib.hid hek
      clear hlk hjk hek
      have hnk : ¬ (k : Int) < rs.length := by omega
      go_upto_region 11 with fail
      have hjc := Hjk.out
      have hec := Hek.out
      simp only [jnCells] at hjc
      have hcv := cellv wr
      have hfv := frozv wr
      have hsum : wrap64 ((j.en : Int) + (rs.length : Int)) = (j.en : Int) + (rs.length : Int) := by
        have := Hroom.out; have := Hb.out
        exact wrap_in _ (by omega)
      go_upto_region 12 with fail
      have hj9 : (wr.setCell ⟨jb, 2, none⟩ (.int .i64 ((j.en : Int) + (rs.length : Int)))).heap[jb]? = some (.cells (jnCells db ⟨j.epoch, j.en + rs.length, false⟩) 132 (0, 0)) := by
        rw [hp_setCell, if_pos rfl, hjc]; simp [jnCells]
      have he9 : (wr.setCell ⟨jb, 2, none⟩ (.int .i64 ((j.en : Int) + (rs.length : Int)))).heap[E]? = some (.cells #[.nilIface] 32 (0, 0)) := by
        rw [hp_setCell, if_neg HE.out.2.2.1]; exact hec
      have Hd9 := Lib.hid (Hdk.out.frame (Fr.one jb wr 2 (.int .i64 ((j.en : Int) + (rs.length : Int)))) (by rintro k rfl; exact ⟨Hne.out.1, Hne.out.2, _, hjc, by simp [kindOf]⟩))
      have HF9 := Lib.hid ((HF2.out.trans (Hfk.out.mono (fun k _ e => e.elim .inl (fun e => .inr (.inl e))))).setCell (b := jb) (fun _ => .inr (.inr rfl)) 2 (.int .i64 ((j.en : Int) + (rs.length : Int))))
      have Hj9 := Lib.hid hj9
      clear hcv hfv hjc hec hj9
      generalize wr.setCell ⟨jb, 2, none⟩ (.int .i64 ((j.en : Int) + (rs.length : Int))) = W9 at he9 Hd9 HF9 Hj9 ⊢
      have hcv := cellv W9
      have hfv := frozv W9
      go_wp2_with fail
      refine leaves_cons (f := 94) (args := #[.pointer (some ⟨E, 0, none⟩)]) (by simp) (by simp [go_sem]) ?_
      refine (idle94 _ _).mono ?_
      rintro e u' w'' ⟨rfl, rfl, rfl⟩
      have hsome : (W9.setCell ⟨E, 0, none⟩ Value.nilIface).cell? ⟨E, 0, none⟩ = some .nilIface := by rw [cellv, hp_setCell, if_pos rfl, he9]; rfl
      refine ⟨.nilIface, ?_, rfl, HF9.out.setCell (b := E) (fun h => absurd h (by rw [HEe.out]; omega)) 0 .nilIface, ?_, ?_⟩
      · simp [results, Tryz.results65, go_sem, hsome]
      · have := Hd9.out.frame (Fr.one E W9 0 .nilIface) (by rintro k rfl; exact ⟨HE.out.1, HE.out.2.1, _, he9, by simp [kindOf]⟩)
        rw [hkl.out, List.take_length] at this
        exact this
      · unfold JnAt
        rw [hp_setCell, if_neg (Ne.symm HE.out.2.2.1)]; exact Hj9.out
end Go.Proofs.YtkafmfdipmhleaaGreatDoor
