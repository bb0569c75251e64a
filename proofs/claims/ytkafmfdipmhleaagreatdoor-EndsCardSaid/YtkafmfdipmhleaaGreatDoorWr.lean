/-
  What is proved: the contract of the disk's Write.
-/
import Derived.Test.YtkafmfdipmhleaaGreatDoorRd
import Derived.Deep.AppendLies
import Derived.Deep.RegionLaw
import Derived.Great.BuildSlice
namespace Go.Proofs.YtkafmfdipmhleaaGreatDoor
open Go.RowKit

section
variable {P : Program} {w : World} {a : Act} {K : Act → World → Prop} {Q : Exit → Act → World → Prop}
/-- The cells of the block that a pointer points to. -/
def blkOf (w : World) : Value → Array Value
  | .pointer (some a) => match w.heap[a.block]? with | some (.cells c _ _) => c | _ => #[]
  | _ => #[]
/-- It points to a block that is just one aggregate of type ty. -/
def okLoad (P : Program) (ty : TypeId) (w : World) (v : Value) : Prop :=
  ∃ b c t f d, v = .pointer (some ⟨b, 0, none⟩) ∧ w.heap[b]? = some (.cells c t f) ∧ P.underlying ty = some d ∧ d.isRow = true ∧ (P.info? ty).map (·.size) = some c.size
theorem wp_load_whole {dst : Option Tmp} {ty : TypeId} {x : Operand} {type : TypeId} {pos : String} {after : Array Edge} {guard : Option (Nat × Bool)} (h : okLoad P ty w (a.eval x)) :
    (Oper.wp P ⟨dst, .load ty x, type, pos, after, guard⟩ a w K Q) = K (a.put dst (.agg (blkOf w (a.eval x)))) w := by
  obtain ⟨b, c, t, f, d, hv, hw, hu, hd, hi⟩ := h
  have hl : (loadVar ty ⟨b, 0, none⟩).run P w = .ok (.agg c) w := run_loadVar_row w b t ty c f d hw hu (by cases d <;> first | rfl | cases hd) hi
  unfold Oper.wp execOp
  simp only [hv, Instr.loadAt, Instr.sureAddr, Sem.run_bind, Sem.run_pure, Result.andThen_ok, hl]
  simp [blkOf, hw, Oper.upon]
/-- A part that fills a slice of one element. -/
def okBuild (P : Program) (t : TypeId) (v : Value) : Prop :=
  ∃ e i z, P.underlying t = some (.slice e) ∧ P.elem t = e ∧ P.info? e = some i ∧ i.zero = some z ∧ i.size = v.cells.size ∧ 0 < v.cells.size ∧ v.cells.size ≤ 1000
theorem wp_build_one {dst : Option Tmp} {t : TypeId} {x : Operand} {type : TypeId} {pos : String} {after : Array Edge} {guard : Option (Nat × Bool)} (h : okBuild P t (a.eval x)) :
    (Oper.wp P ⟨dst, .buildSlice t 1 #[(0, x)], type, pos, after, guard⟩ a w K Q) = K (a.put dst (.slice (some ⟨w.heap.size, 0, none⟩) 1 1)) (w.alloc (.cells (a.eval x).cells (P.elem t))) := by
  obtain ⟨e, i, z, hu, he, hi, hz, hs, h0, h1⟩ := h
  have hf := Great.fill_whole (s := i.size) (by omega) [a.eval x] ((Array.range (1 * i.size)).map (z.cells[· % z.cells.size]!)) (by simp [hs]) (by simp)
  have hr := run_buildSlice (P := P) w t e 1 #[(0, a.eval x)] _ i z hu hi hz (by rw [hs]; omega) (by rw [hs]; omega) hf
  unfold Oper.wp execOp
  simp only [Sem.run_bind, List.map_toArray, List.map_cons, List.map_nil, hr, Result.andThen_ok]
  simp [he, Oper.upon]
end
attribute [local go_sem ↓] wp_load_whole wp_build_one

def padB (l : List UInt8) : List UInt8 := l ++ List.replicate (128 - l.length) 0
def DiskM.put (d : DiskM) (i : Nat) (l : List UInt8) : DiskM := { d.count with pend := some (i, padB l), writes := wrap64 (d.writes + 1) }
theorem padB_length (l : List UInt8) (h : l.length ≤ 128) : (padB l).length = 128 := by simp [padB]; omega

/-- What Write does. -/
def WritePost (w : World) (db bb : Nat) (d : DiskM) (i : Nat) (l : List UInt8) (e : Ending) (w' : World) : Prop :=
  Fr (· = db) w w' ∧ (d.bad = true ∧ e = .returned (.iface 55 (.int .i64 5)) ∧ DiskAt w' db bb d.count ∨ d.bad = false ∧ e = .returned .nilIface ∧ DiskAt w' db bb (d.put i l))

theorem zc107_list : Tryz.zeroCells107.toList = .int .i64 0 :: List.replicate 128 (.int .u8 0) := by kernel_rfl
theorem Tryz.info107 : (Tryz.prog.info? 107).map (fun i => (i.zero, i.size, i.bytes)) = some (some (.agg Tryz.zeroCells107), 129, 136) := by kernel_rfl

/-- A write that is being made: where, and noughts. -/
theorem zc_set (i : Nat) : Tryz.zeroCells107.setIfInBounds 0 (.int .i64 i) = (Value.int .i64 (i : Int) :: List.replicate 128 (.int .u8 0)).toArray := by
  have h : Tryz.zeroCells107 = (Value.int .i64 0 :: List.replicate 128 (.int .u8 0)).toArray := by
    rw [← zc107_list]
  rw [h, List.setIfInBounds_toArray, List.set_cons_zero]
theorem bv_zero : (Value.int .u8 0) = bv 0 := rfl
theorem w_splice (i : Nat) (l : List UInt8) : ((Value.int .i64 (i : Int) :: List.replicate 128 (.int .u8 0)).take 1 ++ l.map bv ++ (Value.int .i64 (i : Int) :: List.replicate 128 (.int .u8 0)).drop (1 + (l.map bv).length)) = Value.int .i64 (i : Int) :: (padB l).map bv := by
  rw [List.take_succ_cons, List.take_zero, Nat.add_comm, List.drop_succ_cons, List.drop_replicate, List.length_map]
  simp [padB, bv_zero]

set_option maxRecDepth 100000 in
set_option maxHeartbeats 2000000 in
theorem Write_calls {w : World} {db bb : Nat} {d : DiskM} (h : DiskAt w db bb d) (i : Nat) (hi : i < d.blocks.length) (hp : d.pend = none) (sb so n scap : Nat) (l : List UInt8) (hn : n = l.length) (hl : l.length ≤ 128) (sc : Array Value) (st : TypeId)
    (hs : w.heap[sb]? = some (.cells sc st (0, 0))) (hst : st ≠ 102) (hsc : ∀ j, j < l.length → sc[so + j]? = some (bv (l.getD j 0))) :
    Calls Tryz.prog 180 #[.pointer (some ⟨db, 0, none⟩), .int .i64 i, .slice (some ⟨sb, so, none⟩) n scap] w (WritePost w db bb d i l) := by
  have hfl := fails_calls h
  have hsdb : sb ≠ db := by
    obtain ⟨_, cap, rest, cv, h1, _⟩ := h
    exact ne_of_kind hs h1 (by simp [kindOf]; exact hst)
  go_enter Tryz.func180, Tryz.ntmps180
  go_wp2_with fail
  refine hfl.mono ?_
  rintro e w1 ⟨rfl, hd1, hf1⟩
  have hs1 := hf1.get hs hsdb
  clear hfl hs h
  by_cases hbad : d.bad = true
  · rw [hbad]
    go_wp2_with fail
    go_ret
    exact ⟨hf1, .inl ⟨hbad, rfl, hd1⟩⟩
  · have hbad' : d.bad = false := by simpa using hbad
    rw [hbad']
    go_wp2_with fail
    refine (none_calls hd1 i).mono ?_
    rintro e w2 ⟨rfl, rfl⟩
    have hlt : decide (d.count.blocks.length ≤ i) = false := by rw [decide_eq_false_iff_not]; show ¬ d.blocks.length ≤ i; omega
    rw [hlt]
    have Hz1 : Hid ((Tryz.prog.info? 107).map (·.size) = some (Value.int .i64 (i : Int) :: List.replicate 128 (.int .u8 0)).toArray.size) := by
      show _ = _
      rw [Tryz.info107s]; simp
    have Hz2 : Hid (Tryz.zeroCells107.size = (Value.int .i64 (i : Int) :: List.replicate 128 (.int .u8 0)).toArray.size) := Tryz.zc107.trans (by simp)
    have Hz3 : Hid ((Value.int .i64 (i : Int) :: List.replicate 128 (.int .u8 0)).toArray.all (·.oneCell') = true) := all_oneCell_toArray (by
      intro v hv
      rcases List.mem_cons.1 hv with rfl | hv
      · rfl
      · obtain rfl := List.eq_of_mem_replicate hv; rfl)
    have Hz4 := Lib.hid (zc_set i)
    have Hz5 := Lib.hid (w_splice i l)
    have Hz6 : Hid (1 + (l.map bv).length ≤ (Value.int .i64 (i : Int) :: List.replicate 128 (.int .u8 0)).toArray.size) := by
      show _ ≤ _
      simp; omega
    have Hz7 : Hid ((l.map bv).length = Nat.min l.length 128) := by
      show _ = _
      rw [List.length_map]; exact (Nat.min_eq_left hl).symm
    generalize (Value.int .i64 (i : Int) :: List.replicate 128 (.int .u8 0)) = ZL at Hz1 Hz2 Hz3 Hz4 Hz5 Hz6
    go_upto_region 4 with (first
      | (refine wpl_store_new rfl 107 (.tmp 7) (.tmp 17) rfl w1.heap.size ZL.toArray Tryz.zeroCells107 107 rfl rfl (congrArg Value.agg Hz4.out) Hz1.out Hz2.out Hz3.out ?_)
      | fail)
    have hd2 := hd1.new ((Fr.refl _ w1).alloc (.cells ZL.toArray 107))
    have hn2 := heap_alloc_new w1 (.cells ZL.toArray 107)
    have hf2 := hf1.alloc (.cells ZL.toArray 107)
    have hs2 := heap_alloc_keep (.cells ZL.toArray 107) hs1
    have hsn : sb ≠ w1.heap.size := ne_size_of_hp hs1
    have hnl : w.heap.size ≤ w1.heap.size := hf1.size
    generalize w1.alloc (.cells ZL.toArray 107) = W2 at hd2 hn2 hf2 hs2 ⊢
    generalize w1.heap.size = g at hn2 hsn hnl ⊢
    have Hsrc : Hid (∀ j v, (l.map bv)[j]? = some v → cellOf W2.heap[sb]? (so + j) = some v) := by
      intro j v hj
      have hj' : j < l.length := by simpa using (List.getElem?_eq_some_iff.1 hj).1
      rw [hs2, cellOf_cells, hsc j hj', ← hj]
      simp [hj']
    have Hone := Lib.hid (bv_one l)
    have Hl := Lib.hid hl
    have Hn := Lib.hid hn
    generalize hln : l.length = ln at Hz7
    have Hd2 := Lib.hid hd2
    clear hd1 hf1 hs1 hsc hd2 hlt hl hn
    go_upto_region 5 with (first
      | (refine wpl_copy rfl (.tmp 19) (.tmp 20) 92 92 rfl 5 Tryz.underlying92 Tryz.info5sz g 1 128 128 rfl sb so ln scap rfl ZL.toArray 107 hn2 (l.map bv) Hz7.out Hsrc.out Hz6.out Hone.out ?_; intro W3 Y hY hn3 hf3)
      | fail)
    obtain ⟨hwf, cap, rest, cv, h1, h2, h3⟩ := Hd2.out
    have hpc : d.count.pend = none := hp
    rw [hpc] at h3
    obtain rfl : cv = .slice none 0 0 := h3
    have hgd : db ≠ g := by
      intro e
      rw [e, hn2] at h1
      exact absurd h1 (by simp)
    have hgb : bb ≠ g := by
      intro e
      rw [e, hn2] at h2
      exact absurd h2 (by simp)
    have hbd : bb ≠ db := ne_of_kind h2 h1 (by simp [kindOf])
    have hY' : Y = (Value.int .i64 (i : Int) :: (padB l).map bv).toArray := by rw [hY.out, ← Hz5.out]
    have h1' := hf3.get h1 hgd
    have h2' := hf3.get h2 hgb
    have Hf := Lib.hid (hf2.trans' hf3 (fun k hk e => absurd hk (by rw [e]; omega)))
    have hYs : Y.size = 129 := by rw [hY']; simp [padB_length l Hl.out]
    have Hw := Lib.hid hwf
    have HY := Lib.hid hY'
    have hOL : okLoad Tryz.prog 107 W3.drew (.pointer (some ⟨g, 0, none⟩)) := by
      obtain ⟨d7, u1, u2⟩ : ∃ d, Tryz.prog.underlying 107 = some d ∧ d.isRow = true := by
        have hx : (Tryz.prog.underlying 107).map (·.isRow) = some true := by kernel_rfl
        cases hu : Tryz.prog.underlying 107 with
        | none => rw [hu] at hx; cases hx
        | some x => rw [hu] at hx; exact ⟨x, rfl, Option.some.inj hx⟩
      exact ⟨g, Y, 107, (0, 0), d7, rfl, hn3, u1, u2, by rw [Tryz.info107s, hYs]⟩
    have hBL : blkOf W3.drew (.pointer (some ⟨g, 0, none⟩)) = Y := by
      simp only [blkOf, hp_drew, hn3]
    have hOB : okBuild Tryz.prog 100 (.agg Y) := by
      cases hi : Tryz.prog.info? 107 with
      | none => have := Tryz.info107; rw [hi] at this; simp at this
      | some i' =>
        have := Tryz.info107
        rw [hi] at this
        simp at this
        exact ⟨107, i', _, Tryz.underlying100, by kernel_rfl, hi, this.1, by rw [this.2.1]; exact hYs.symm, by show 0 < Y.size; omega, by show Y.size ≤ 1000; omega⟩
    clear hn2 hs2 hsn hY hf2 h2 hwf hY' hYs hf3 h1
    have hE : Tryz.prog.elem 100 = 107 := by kernel_rfl
    simp only [dkCells] at h1'
    have hdc : W3.drew.cell? ⟨db, 1, none⟩ = some (.slice none 0 0) := by rw [cellv, hp_drew, h1']; rfl
    have hdcA : (W3.alloc (.cells Y 107)).cell? ⟨db, 1, none⟩ = some (.slice none 0 0) := by rw [cellv, heap_alloc_keep _ h1']; rfl
    have h1A := heap_alloc_keep (w := W3.drew) (.cells Y 107) h1'
    have hnew := heap_alloc_new W3.drew (.cells Y 107)
    have HYs : Hid (Y.toList.length = 1 * 129) := by
      show _ = _
      rw [HY.out]; simp [padB_length l Hl.out]
    have HY1 : Hid (∀ u ∈ Y.toList, u.oneCell' = true) := by
      intro u hu
      rw [HY.out] at hu
      simp at hu
      rcases hu with rfl | ⟨x, _, rfl⟩ <;> rfl
    obtain ⟨i7, hi7, hz7, hs7, hb7⟩ : ∃ i, Tryz.prog.info? 107 = some i ∧ i.zero = some (.agg Tryz.zeroCells107) ∧ i.size = 129 ∧ i.bytes = 136 := by
      cases hi : Tryz.prog.info? 107 with
      | none => have := Tryz.info107; rw [hi] at this; simp at this
      | some i' =>
        have := Tryz.info107
        rw [hi] at this
        simp at this
        exact ⟨i', rfl, this.1, this.2.1, this.2.2⟩
    have Hzs : Hid ((Value.agg Tryz.zeroCells107).cells.size = 129) := by
      show Tryz.zeroCells107.size = 129
      exact Tryz.zc107
    go_region_law (first
      | (refine step_append_lies _ (by rfl) (.tmp 26) (.tmp 28) 100 (by rfl) W3.heap.size 107 i7 (.agg Tryz.zeroCells107) 129 136 Tryz.underlying100 hi7 hz7 hs7 hb7 Hzs.out (by decide) (.slice none 0 0) 0 [] (by rfl) (World.ownsRow_nil _ _ _ _) ⟨W3.drew.heap.size, 0, none⟩ 1 1 Y.toList (by rfl) HYs.out (World.news_of_block hnew) HY1.out (by decide) (by decide) (by decide) (by simp) _ rfl ?_; intro gq capq w6 hown6 hgrow6 hat6 hlt6; have h16 := (Fr.ofGrown hgrow6).get h1A (by simp [Value.ownBlock]); have hcv6 := cellv w6; have hfv6 := frozv w6)
      | fail)
    all_goals
      have hF6 : Fr (fun _ => False) W3 w6 := ((((Fr.refl _ W3).drew).alloc (.cells Y 107)).trans' (Fr.ofGrown hgrow6) (fun k _ e => by simp [Value.ownBlock] at e))
      have HF7 := Lib.hid ((Hf.out.trans' hF6 (fun _ _ f => f.elim)).setCell (b := db) (fun _ => rfl) 1 (.slice (some ⟨gq, 0, none⟩) 1 capq))
      have hb6 := hF6.get h2' (fun f => f)
      obtain ⟨cur, hbase, hg6, htk⟩ : ∃ cur, W3.heap.size ≤ gq ∧ w6.heap[gq]? = some (.cells cur 107 (0, 0)) ∧ cur.toList.take 129 = Y.toList := by
        rcases hown6.2 with ⟨e, _⟩ | ⟨g', cap', cur, hv, hb, hg', _, _, _, htk⟩
        · cases e
        · obtain ⟨rfl, rfl⟩ : gq = g' ∧ capq = cap' := by simpa using hv
          exact ⟨cur, hb, hg', by simpa using htk⟩
      have hgqd : gq ≠ db := by have := lt_of_hp h1'; omega
      have hgqb : gq ≠ bb := by have := lt_of_hp h2'; omega
      have hW7 : Hid (∀ k x, k ≠ db → w6.heap[k]? = some x → (w6.setCell ⟨db, 1, none⟩ (.slice (some ⟨gq, 0, none⟩) 1 capq)).heap[k]? = some x) := by
        intro k x hk hx
        rw [hp_setCell, if_neg hk]; exact hx
      have h17 : (w6.setCell ⟨db, 1, none⟩ (.slice (some ⟨gq, 0, none⟩) 1 capq)).heap[db]? = some (.cells #[.slice (some ⟨bb, 0, none⟩) d.count.blocks.length cap, .slice (some ⟨gq, 0, none⟩) 1 capq, .int .i64 d.count.calls, .int .i64 d.count.writes, .int .i64 d.count.told, .int .i64 d.count.off, .int .i64 d.count.fr, .int .i64 d.count.to] 102 (0, 0)) := by
        rw [hp_setCell, if_pos rfl, h16]; rfl
      have Hcur : Hid (cur = wrCells i (padB l) (cur.toList.drop 129)) := by
        have e1 : cur.toList = Y.toList ++ cur.toList.drop 129 := by rw [← htk, List.take_append_drop]
        show _ = _
        rw [wrCells, ← Array.toArray_toList (xs := cur), e1, HY.out]
        simp [padB_length l Hl.out]
      have Hb7 := Lib.hid (hW7.out _ _ hbd hb6)
      have Hg7 := Lib.hid (hW7.out _ _ hgqd hg6)
      clear hcv6 hfv6 hnew h1A hdc hdcA hOL hBL hOB hE hown6 hgrow6 hat6 hlt6 h16 hF6 hb6 hg6 htk hW7 hbase
      generalize w6.setCell ⟨db, 1, none⟩ (.slice (some ⟨gq, 0, none⟩) 1 capq) = W7 at HF7 h17 Hb7 Hg7 ⊢
      have hcv7 := cellv W7
      have hfv7 := frozv W7
      go_wp2_with fail
      go_ret
      refine ⟨HF7.out.setCell (fun _ => rfl) _ _, .inr ⟨hbad', rfl, ⟨?_, ?_⟩⟩⟩
      · exact ⟨Hw.out.1, fun p hp => by
          obtain rfl : (i, padB l) = p := Option.some.inj hp
          exact ⟨hi, padB_length l Hl.out⟩⟩
      · refine ⟨cap, rest, .slice (some ⟨gq, 0, none⟩) 1 capq, ?_, ?_, gq, capq, cur.toList.drop 129, rfl, ?_⟩
        · rw [hp_setCell, if_pos rfl, h17]; rfl
        · rw [hp_setCell, if_neg hbd]; exact Hb7.out
        · rw [hp_setCell, if_neg hgqd, Hg7.out, ← Hcur.out]
end Go.Proofs.YtkafmfdipmhleaaGreatDoor
