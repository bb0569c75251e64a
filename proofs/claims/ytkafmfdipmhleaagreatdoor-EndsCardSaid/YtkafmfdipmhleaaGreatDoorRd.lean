/-
  What is proved: the contract of the disk's Read: the block as it was written last, or an error.
-/
import Derived.Test.YtkafmfdipmhleaaGreatDoorDsk
import Derived.Deep.MidRow
import Derived.Deep.WholeRow
import Derived.Laws.CopyOwn
import Derived.Deep.DeepCutAuto
namespace Go.Proofs.YtkafmfdipmhleaaGreatDoor
open Go.RowKit

theorem heap_alloc_keep {w : World} {k : Nat} {x : Obj} (o : Obj) (h : w.heap[k]? = some x) : (w.alloc o).heap[k]? = some x := by
  rw [hp_alloc, if_neg (ne_size_of_hp h)]; exact h
section
variable {P : Program} {w : World} {ops : Array Oper} {rest : List Oper} {o : Oper} {a : Act} {Q : Exit → Act → World → Prop}
/-- copy from a slice into a row. -/
theorem wpl_copy (hgd : o.guard = none) (d s : Operand) (dT sT : TypeId)
    (ho : o.op = .call { callee := .builtin .copy, args := #[d, s], argTypes := #[dT, sT] }) (elem : TypeId) (hu : P.underlying dT = some (.slice elem)) (hsz : (P.info? elem).map (·.size) = some 1)
    (g off dLen dCap : Nat) (hd : a.eval d = .slice (some ⟨g, off, none⟩) dLen dCap) (sb so sLen sCap : Nat) (hs : a.eval s = .slice (some ⟨sb, so, none⟩) sLen sCap)
    (cur : Array Value) (t : TypeId) (hg : w.heap[g]? = some (.cells cur t (0, 0))) (cs : List Value) (hn : cs.length = Nat.min sLen dLen)
    (hsrc : ∀ j v, cs[j]? = some v → cellOf w.heap[sb]? (so + j) = some v) (hfit : off + cs.length ≤ cur.size) (h1 : ∀ v ∈ cs, v.oneCell' = true)
    (h : ∀ w' Y, Hid (Y = (cur.toList.take off ++ cs ++ cur.toList.drop (off + cs.length)).toArray) → w'.heap[g]? = some (.cells Y t (0, 0)) → Fr (· = g) w w' → wpList P ops Q rest (a.put o.dst (goInt cs.length)) w') :
    wpList P ops Q (o :: rest) a w := by
  refine wpList_plain hgd fun K hK => ?_
  have hrun := run_copy_row (P := P) w dT sT o.type elem g off dLen dCap ⟨sb, so, none⟩ sLen sCap cur t cs hu hsz hg hn (fun j v hv => by rw [Addr.add_mid, cellv]; exact hsrc j v hv) hfit h1
  unfold Oper.wp
  simp [execOp, ho, resolve, invoke, builtin, hd, hs, hrun, Result.andThen]
  exact hK _ _ (h _ _ rfl (by rw [setRow_heap w g _ _ t _ hg]; simp) ((Fr.refl (· = g) w).setRow (fun _ => rfl) _))

/-- An aggregate read out of a block. -/
theorem wpl_load (hgd : o.guard = none) (ty : TypeId) (x : Operand) (ho : o.op = .load ty x) (b off : Nat) (hx : a.eval x = .pointer (some ⟨b, off, none⟩)) (cs : List Value) (d : TypeDesc)
    (hc : ∀ j v, cs[j]? = some v → cellOf w.heap[b]? (off + j) = some v) (hu : P.underlying ty = some d) (hd : d.isRow = true) (hi : (P.info? ty).map (·.size) = some cs.length)
    (h : wpList P ops Q rest (a.put o.dst (.agg cs.toArray)) w) : wpList P ops Q (o :: rest) a w :=
  wpList_load_mid hgd ty x ho b off hx cs d (fun j v hv => by rw [cellv]; exact hc j v hv) hu hd hi h

/-- An aggregate stored into a variable that has just been made. -/
theorem wpl_store_new (hgd : o.guard = none) (ty : TypeId) (x y : Operand) (ho : o.op = .store ty x y) (n : Nat) (cells z : Array Value) (t : TypeId) (hn : n = w.heap.size)
    (hx : a.eval x = .pointer (some ⟨n, 0, none⟩)) (hy : a.eval y = .agg cells) (hi : (P.info? ty).map (·.size) = some cells.size) (hz : z.size = cells.size) (h1 : cells.all (·.oneCell') = true)
    (h : wpList P ops Q rest (a.put o.dst undef) (w.alloc (.cells cells t))) : wpList P ops Q (o :: rest) a (w.alloc (.cells z t)) := by
  subst hn
  refine wpList_store_row hgd ty x y ho w.heap.size cells hx hy t z (heap_alloc_new w _) hi hz h1 ?_
  rw [World.setRow_alloc_new]
  exact h
end

def DiskM.look (d : DiskM) (i : Nat) : List UInt8 :=
  match d.pend with
  | some (j, b) => if j = i then b else d.blocks.getD i []
  | none => d.blocks.getD i []
theorem DiskM.look_length {d : DiskM} (h : d.wf) {i : Nat} (hi : i < d.blocks.length) : (d.look i).length = 128 := by
  have hg : (d.blocks.getD i []).length = 128 := by
    rw [List.getD_eq_getElem?_getD, List.getElem?_eq_getElem hi]; exact h.1 _ (List.getElem_mem hi)
  unfold DiskM.look
  split
  · rename_i j b hp
    split
    · exact (h.2 _ hp).2
    · exact hg
  · exact hg

/-- What Read answers. -/
def ReadPost (w : World) (db bb : Nat) (d : DiskM) (i : Nat) (e : Ending) (w' : World) : Prop :=
  DiskAt w' db bb d.count ∧ Fr (· = db) w w' ∧
    (d.bad = true ∧ e = .returned (.tuple #[.slice none 0 0, .iface 55 (.int .i64 5)]) ∨
     d.bad = false ∧ ∃ g, w.heap.size ≤ g ∧ e = .returned (.tuple #[.slice (some ⟨g, 0, none⟩) 128 128, .nilIface]) ∧ w'.heap[g]? = some (.cells ((d.look i).map bv).toArray 5 (0, 0)))

theorem blk_get (bl : List (List UInt8)) (h : ∀ b ∈ bl, b.length = 128) (rest : List Value) (i : Nat) (hi : i < bl.length) (j : Nat) (hj : j < 128) : (blkCells bl rest)[i * 128 + j]? = (((bl.getD i []).map bv))[j]? := by
  induction bl generalizing i with
  | nil => simp at hi
  | cons b bl ih =>
    have hb := h b (by simp)
    cases i with
    | zero =>
      simp [blkCells, List.getElem?_append_left, hb, hj]
    | succ i =>
      have := ih (fun x hx => h x (by simp [hx])) i (by simpa using hi)
      simp only [blkCells, List.getElem?_toArray] at this ⊢
      rw [List.flatten_cons, List.map_append, List.append_assoc, List.getElem?_append_right (by simp [hb]; omega)]
      simp only [List.length_map, hb]
      rw [show (i + 1) * 128 + j - 128 = i * 128 + j by omega, this]
      simp

theorem bv_one (l : List UInt8) : ∀ v ∈ l.map bv, v.oneCell' = true := by
  intro v hv
  obtain ⟨x, _, rfl⟩ := List.mem_map.1 hv
  rfl
theorem Tryz.info5sz : (Tryz.prog.info? 5).map (·.size) = some 1 := by kernel_rfl
theorem Tryz.info107s : (Tryz.prog.info? 107).map (·.size) = some 129 := by kernel_rfl
theorem Tryz.zc107 : Tryz.zeroCells107.size = 129 := by kernel_rfl

set_option maxRecDepth 100000 in
set_option maxHeartbeats 2000000 in
theorem Read_calls {w : World} {db bb : Nat} {d : DiskM} (h : DiskAt w db bb d) (i : Nat) (hi : i < d.blocks.length) :
    Calls Tryz.prog 179 #[.pointer (some ⟨db, 0, none⟩), .int .i64 i] w (ReadPost w db bb d i) := by
  have hfl := fails_calls h
  go_enter Tryz.func179, Tryz.ntmps179
  go_wp2_with fail
  refine hfl.mono ?_
  rintro e w1 ⟨rfl, hd1, hf1⟩
  clear hfl
  by_cases hbad : d.bad = true
  · rw [hbad]
    go_wp2_with fail
    go_ret2
    exact ⟨hd1, hf1, .inl ⟨hbad, rfl⟩⟩
  · have hbad' : d.bad = false := by simpa using hbad
    rw [hbad']
    have hmk : ∀ w, (Instr.makeSlice 92 (.int .i64 128) (.int .i64 128)).run Tryz.prog w = .ok (.slice (some ⟨w.heap.size, 0, none⟩) 128 128) (w.alloc (.cells (Array.replicate 128 (.int .u8 0)) 5)) := fun _ => by kernel_rfl
    go_wp2_with fail
    refine (none_calls hd1 i).mono ?_
    rintro e w2 ⟨rfl, rfl⟩
    have hlt : decide (d.count.blocks.length ≤ i) = false := by rw [decide_eq_false_iff_not]; show ¬ d.blocks.length ≤ i; omega
    rw [hlt]
    go_upto_region 4 with fail
    clear hlt hmk
    have hd2 := hd1.new ((Fr.refl _ w1).alloc (.cells (Array.replicate 128 (.int .u8 0)) 5))
    have hg2 := heap_alloc_new w1 (.cells (Array.replicate 128 (.int .u8 0)) 5)
    have hf2 := hf1.alloc (.cells (Array.replicate 128 (.int .u8 0)) 5)
    have hgl : w.heap.size ≤ w1.heap.size := hf1.size
    generalize w1.alloc (.cells (Array.replicate 128 (.int .u8 0)) 5) = W2 at hd2 hg2 hf2 ⊢
    generalize w1.heap.size = g at hg2 hgl ⊢
    have hZs : (Array.replicate 128 (Value.int .u8 0)).size = 128 := by simp
    generalize (Array.replicate 128 (Value.int .u8 0)) = Z at hg2 hZs
    have Hd := Lib.hid hd2
    obtain ⟨hwf, cap, rest, cv, h1, h2, h3⟩ := hd2
    simp only [dkCells] at h1
    have hcv := cellv W2
    have hwf' : d.wf := hwf
    have hblk : (d.blocks.getD i []).length = 128 := by
      rw [List.getD_eq_getElem?_getD, List.getElem?_eq_getElem hi]; exact hwf'.1 _ (List.getElem_mem hi)
    have hsrc : ∀ j v, ((d.blocks.getD i []).map bv)[j]? = some v → cellOf W2.heap[bb]? (i * 128 + j) = some v := by
      intro j v hj
      have hj' : j < 128 := by
        have := (List.getElem?_eq_some_iff.1 hj).1
        rw [List.length_map, hblk] at this; exact this
      rw [h2, cellOf_cells]
      exact (blk_get d.blocks hwf'.1 rest i hi j hj').trans hj
    have Hlook : Hid (d.look i = match d.pend with | some (j, b) => if j = i then b else d.blocks.getD i [] | none => d.blocks.getD i []) := by
      show _ = _
      unfold DiskM.look
      split <;> rfl
    generalize hB0 : d.blocks.getD i [] = B0 at hblk hsrc Hlook
    have Hsrc := Lib.hid hsrc
    have Hn := Lib.hid (show (B0.map bv).length = 128 by rw [List.length_map]; exact hblk)
    have Hfit := Lib.hid (show 0 + (B0.map bv).length ≤ Z.size by rw [List.length_map, hblk, hZs]; omega)
    have HZ := Lib.hid (show Z.toList.take 0 ++ B0.map bv ++ Z.toList.drop (0 + (B0.map bv).length) = B0.map bv by
      rw [List.drop_of_length_le (by simp [hZs, hblk])]; simp)
    have Hone := Lib.hid (bv_one B0)
    have Hb := Lib.hid hblk
    have hi' : (i : Int) < d.count.blocks.length := by show (i : Int) < d.blocks.length; omega
    have hi0 : 0 ≤ (i : Int) := by omega
    have Hwf := Lib.hid hwf'
    generalize hC : B0.map bv = C at Hsrc Hn Hfit HZ Hone
    have HC := Lib.hid hC
    clear hwf hblk h2 hd1 hf1 hi hsrc hZs hwf' hB0 hC
    have h3' : PendAt W2 cv d.pend := h3
    clear h3
    go_upto_region 5 with (refine wpl_copy rfl (.tmp 18) (.tmp 25) 92 92 rfl 5 Tryz.underlying92 Tryz.info5sz g 0 128 128 rfl bb (i * 128) 128 128 rfl Z 5 hg2 C Hn.out Hsrc.out Hfit.out Hone.out ?_; intro W3 Y hY hg3 hf3)
    have hgdb : db ≠ g := ne_of_kind h1 hg2 (by simp [kindOf])
    have hd3 : DiskAt W3 db bb d.count := Hd.out.apart hf3 (by rintro k rfl; exact ⟨_, hg2, by simp [kindOf]⟩)
    have hF3 : Fr (· = db) w W3 := hf2.trans' hf3 (fun k hk e => by omega)
    have hY' : Y = C.toArray := by rw [hY.out, HZ.out]
    subst hY'
    have h13 := hf3.get h1 hgdb
    have h33 := h3'.frame hf3 (by rintro k rfl; exact ⟨_, hg2, by simp [kindOf]⟩)
    clear h3'
    have Hd3 := Lib.hid hd3
    clear hcv h1 hg2 hf3 hd3 hf2 Hd
    have hcv3 := cellv W3
    cases hp : d.pend with
    | none =>
      rw [hp] at h33
      obtain rfl : cv = .slice none 0 0 := h33
      go_wp2_with fail
      refine wp_loop_rounds 1 ?_
      rw [rounds_succ]
      go_wp2_with fail
      go_ret2
      refine ⟨Hd3.out, hF3, .inr ⟨hbad', g, hgl, rfl, ?_⟩⟩
      rw [Hlook.out, hp, HC.out]
      exact hg3
    | some p =>
      obtain ⟨j, b⟩ := p
      rw [hp] at h33
      obtain ⟨cb, ccap, rest', rfl, hcb⟩ := h33
      obtain ⟨hpj, hpb⟩ := Hwf.out.2 _ hp
      have hpb' : b.length = 128 := hpb
      have hl := Hlook.out
      rw [hp] at hl
      have Hl := Lib.hid hl
      have hw1 : ∀ q v, (Value.int .i64 (j : Int) :: b.map bv)[q]? = some v → cellOf W3.heap[cb]? (0 + q) = some v := by
        intro q v hq
        rw [hcb, cellOf_cells, Nat.zero_add, wrCells, List.getElem?_toArray, List.getElem?_append_left (List.getElem?_eq_some_iff.1 hq).1]
        exact hq
      have hw2 : (Value.int .i64 (j : Int) :: b.map bv).length = 129 := by simp [hpb']
      have hw3 : (Value.int .i64 (j : Int) :: b.map bv).toArray.all (·.oneCell') = true := all_oneCell_toArray (by
        intro v hv
        rcases List.mem_cons.1 hv with rfl | hv
        · rfl
        · exact bv_one b v hv)
      have hw4 : (Value.int .i64 (j : Int) :: b.map bv).toArray[0]? = some (.int .i64 (j : Int)) := rfl
      have hw5 : ∀ q v, (b.map bv)[q]? = some v → (Value.int .i64 (j : Int) :: b.map bv).toArray[1 + q]? = some v := by
        intro q v hq
        rw [Nat.add_comm]; simpa using hq
      have Hbm := Lib.hid (show (b.map bv).length = 128 by rw [List.length_map]; exact hpb')
      have Hone2 := Lib.hid (bv_one b)
      generalize hCW : (Value.int .i64 (j : Int) :: b.map bv) = CW at hw1 hw2 hw3 hw4 hw5
      have Hw1 := Lib.hid hw1
      have Hw3 := Lib.hid hw3
      have Hw5 := Lib.hid hw5
      have Hi1 := Lib.hid (show (Tryz.prog.info? 107).map (·.size) = some CW.length by rw [hw2]; exact Tryz.info107s)
      have Hi2 := Lib.hid (show (Tryz.prog.info? 107).map (·.size) = some CW.toArray.size by rw [List.size_toArray, hw2]; exact Tryz.info107s)
      have Hi3 := Lib.hid (Tryz.zc107.trans (show 129 = CW.toArray.size by rw [List.size_toArray, hw2]))
      have Hp := Lib.hid hp
      have Hcb := Lib.hid hcb
      clear hw1 hw2 hw3 hw5 hCW hp hl hpb hpb' hcb hpj
      go_wp2_with fail
      refine wp_loop_rounds 2 ?_
      rw [rounds_succ]
      go_upto_region 8 with (first
        | (refine wpl_load rfl 107 (.tmp 34) rfl cb 0 rfl CW _ Hw1.out Tryz.underlying107 rfl Hi1.out ?_)
        | (refine wpl_store_new rfl 107 (.tmp 8) (.tmp 35) rfl W3.heap.size CW.toArray Tryz.zeroCells107 107 rfl rfl rfl Hi2.out Hi3.out Hw3.out ?_)
        | fail)
      have hd4 := Hd3.out.new ((Fr.refl _ W3).alloc (.cells CW.toArray 107))
      have hn4 := heap_alloc_new W3 (.cells CW.toArray 107)
      have hF4 := hF3.alloc (.cells CW.toArray 107)
      have hg4 := heap_alloc_keep (.cells CW.toArray 107) hg3
      have hgn : g ≠ W3.heap.size := ne_size_of_hp hg3
      have hnl : w.heap.size ≤ W3.heap.size := hF3.size
      generalize W3.alloc (.cells CW.toArray 107) = W4 at hd4 hn4 hF4 hg4 ⊢
      generalize W3.heap.size = n at hn4 hgn hnl ⊢
      have Hd4 := Lib.hid hd4
      have hcv4 := cellv W4
      clear hcv3 h13 hg3 hd4
      by_cases hji : j = i
      · have hjB : ((j : Int) == i) = true := by rw [hji]; simp
        have hl2 : Hid (C.length = 128) := Hn
        have hfit2 : Hid (0 + (b.map bv).length ≤ C.toArray.size) := by
          show _ ≤ _
          rw [Hbm.out, List.size_toArray, hl2.out]; omega
        have hsrc2 : Hid (∀ q v, (b.map bv)[q]? = some v → cellOf W4.heap[n]? (1 + q) = some v) := by
          intro q v hq
          rw [hn4, cellOf_cells]
          exact Hw5.out q v hq
        go_wp2_with (first
          | (refine wpl_copy rfl (.tmp 40) (.tmp 42) 92 92 rfl 5 Tryz.underlying92 Tryz.info5sz g 0 128 128 rfl n 1 128 128 rfl C.toArray 5 hg4 (b.map bv) Hbm.out hsrc2.out hfit2.out Hone2.out ?_; intro W5 Y5 hY5 hg5 hf5)
          | fail)
        have hY5' : Y5 = (b.map bv).toArray := by
          rw [hY5.out, List.drop_of_length_le (by rw [Hbm.out]; simp [hl2.out])]
          simp
        subst hY5'
        have Hf5 := Lib.hid hf5
        have Hg5 := Lib.hid hg5
        clear hf5 hg5 hcv4
        rw [rounds_succ]
        go_wp2_with fail
        go_ret2
        refine ⟨Hd4.out.apart Hf5.out (by rintro k rfl; exact ⟨_, hg4, by simp [kindOf]⟩), hF4.trans' Hf5.out (fun k hk e => by omega), .inr ⟨hbad', g, hgl, rfl, ?_⟩⟩
        rw [Hl.out]
        simp only [if_pos hji]
        exact Hg5.out
      · have hjB : ((j : Int) == i) = false := by simp; omega
        go_wp2_with fail
        rw [rounds_succ]
        go_wp2_with fail
        go_ret2
        refine ⟨Hd4.out, hF4, .inr ⟨hbad', g, hgl, rfl, ?_⟩⟩
        rw [Hl.out]
        simp only [if_neg hji]
        rw [HC.out]
        exact hg4
end Go.Proofs.YtkafmfdipmhleaaGreatDoor
