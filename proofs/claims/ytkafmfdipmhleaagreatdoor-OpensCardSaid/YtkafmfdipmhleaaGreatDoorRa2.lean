/-
  What is proved: contracts of the disk in memory: fails, none, Blocks. the contract of the disk's Read: the block as it was written last, or an error. contracts of how a saga moves: forward, Move, Call, Same. the contract of what a saga asks for: Call. the contract of the closure in journal's parse that takes one text off the rest of a block.
-/
import Derived.Test.YtkafmfdipmhleaaGreatDoorRa1
import Derived.Test.YtkafmfdipmhleaaGreatDoorProg
import Derived.Deep.MidRow
import Derived.Deep.WholeRow
import Derived.Laws.CopyOwn
import Derived.Deep.DeepCutAuto
import Derived.BigRegion
import Derived.Deep.RegionHeld3

namespace Go.Proofs.YtkafmfdipmhleaaGreatDoor
open Go.RowKit

/-- The disk in memory: its blocks; the write that is not flushed (never more than one); its counts. -/
structure DiskM where
  blocks : List (List UInt8)
  pend : Option (Nat × List UInt8)
  calls : Int
  writes : Int
  told : Int
  off : Int
  fr : Int
  «to» : Int

def DiskM.bad (d : DiskM) : Bool := (decide (0 ≤ d.off) && decide (d.off ≤ d.calls)) || (decide (d.fr ≤ d.calls) && decide (d.calls < d.to))
/-- A call is counted, and an error if it tells one. -/
def DiskM.count (d : DiskM) : DiskM := { d with calls := wrap64 (d.calls + 1), told := if d.bad then wrap64 (d.told + 1) else d.told }
def DiskM.wf (d : DiskM) : Prop := (∀ b ∈ d.blocks, b.length = 128) ∧ ∀ p, d.pend = some p → p.1 < d.blocks.length ∧ p.2.length = 128

def blkCells (bl : List (List UInt8)) (rest : List Value) : Array Value := (bl.flatten.map bv ++ rest).toArray
def wrCells (i : Nat) (b : List UInt8) (rest : List Value) : Array Value := ((Value.int .i64 (i : Int) :: b.map bv) ++ rest).toArray
def PendAt (w : World) (cv : Value) : Option (Nat × List UInt8) → Prop
  | none => cv = .slice none 0 0
  | some (i, b) => ∃ cb ccap rest, cv = .slice (some ⟨cb, 0, none⟩) 1 ccap ∧ w.heap[cb]? = some (.cells (wrCells i b rest) 107 (0, 0))
def dkCells (bb n cap : Nat) (cv : Value) (d : DiskM) : Array Value :=
  #[.slice (some ⟨bb, 0, none⟩) n cap, cv, .int .i64 d.calls, .int .i64 d.writes, .int .i64 d.told, .int .i64 d.off, .int .i64 d.fr, .int .i64 d.to]
structure DiskAt (w : World) (db bb : Nat) (d : DiskM) : Prop where
  wf : d.wf
  ex : ∃ cap rest cv, w.heap[db]? = some (.cells (dkCells bb d.blocks.length cap cv d) 102 (0, 0)) ∧ w.heap[bb]? = some (.cells (blkCells d.blocks rest) 103 (0, 0)) ∧ PendAt w cv d.pend

/-- A block whose kind is none of a disk's. -/
def Apart (w : World) (ks : List Nat) (S : Nat → Prop) : Prop := ∀ k, S k → ∃ o, w.heap[k]? = some o ∧ kindOf o ∉ ks
theorem PendAt.frame {w w' : World} {cv : Value} {q : Option (Nat × List UInt8)} {S : Nat → Prop} (h : PendAt w cv q) (hf : Fr S w w') (hS : ∀ k, S k → ∃ o, w.heap[k]? = some o ∧ kindOf o ≠ 108) : PendAt w' cv q := by
  cases q with
  | none => exact h
  | some p =>
    obtain ⟨cb, ccap, rest', hcv, hcb⟩ := h
    refine ⟨cb, ccap, rest', hcv, hf.get hcb (fun s => ?_)⟩
    obtain ⟨o, ho, hk⟩ := hS cb s
    rw [hcb] at ho
    exact hk (by rw [← Option.some.inj ho]; rfl)
theorem DiskAt.frame {w w' : World} {db bb : Nat} {d : DiskM} {S : Nat → Prop} (h : DiskAt w db bb d) (hf : Fr S w w') (hS : ∀ k, S k → k ≠ db ∧ k ≠ bb ∧ ∃ o, w.heap[k]? = some o ∧ kindOf o ≠ 108) : DiskAt w' db bb d := by
  obtain ⟨hwf, cap, rest, cv, h1, h2, h3⟩ := h
  refine ⟨hwf, cap, rest, cv, hf.get h1 (fun s => (hS db s).1 rfl), hf.get h2 (fun s => (hS bb s).2.1 rfl), ?_⟩
  cases hp : d.pend with
  | none => rw [hp] at h3; exact h3
  | some p =>
    rw [hp] at h3
    obtain ⟨cb, ccap, rest', hcv, hcb⟩ := h3
    refine ⟨cb, ccap, rest', hcv, hf.get hcb (fun s => ?_)⟩
    obtain ⟨_, _, o, ho, hk⟩ := hS cb s
    rw [hcb] at ho
    exact hk (by rw [← Option.some.inj ho]; rfl)
/-- If no block of a disk's kinds turns, a disk stays as it is. -/
theorem DiskAt.apart {w w' : World} {db bb : Nat} {d : DiskM} {S : Nat → Prop} (h : DiskAt w db bb d) (hf : Fr S w w') (hS : Apart w [103, 104, 108] S) : DiskAt w' db bb d := by
  refine h.frame hf (fun k s => ?_)
  obtain ⟨o, ho, hk⟩ := hS k s
  obtain ⟨_, cap, rest, cv, h1, h2, _⟩ := h
  refine ⟨?_, ?_, o, ho, fun e => hk (by simp [e])⟩
  · rintro rfl; rw [h1] at ho; exact hk (by rw [← Option.some.inj ho]; simp [kindOf])
  · rintro rfl; rw [h2] at ho; exact hk (by rw [← Option.some.inj ho]; simp [kindOf])
theorem DiskAt.new {w w' : World} {db bb : Nat} {d : DiskM} (h : DiskAt w db bb d) (hf : New w w') : DiskAt w' db bb d := h.apart hf (fun _ f => f.elim)

theorem bad_cases (c o f t : Int) : ((decide (0 ≤ o) && decide (o ≤ c)) || (decide (f ≤ c) && decide (c < t))) = true ∨ ((decide (0 ≤ o) && decide (o ≤ c)) || (decide (f ≤ c) && decide (c < t))) = false := by
  cases ((decide (0 ≤ o) && decide (o ≤ c)) || (decide (f ≤ c) && decide (c < t))) <;> simp

set_option maxHeartbeats 1000000 in
theorem fails_calls {w : World} {db bb : Nat} {d : DiskM} (h : DiskAt w db bb d) :
    Calls Tryz.prog 181 #[.pointer (some ⟨db, 0, none⟩)] w fun e w' => e = .returned (.bool d.bad) ∧ DiskAt w' db bb d.count ∧ Fr (· = db) w w' := by
  obtain ⟨hwf, cap, rest, cv, h1, h2, h3⟩ := h
  have hne : bb ≠ db := ne_of_kind h2 h1 (by simp [kindOf])
  have hp : ∀ w', Fr (· = db) w w' → PendAt w' cv d.pend := by
    intro w' hf
    cases hp : d.pend with
    | none => rw [hp] at h3; exact h3
    | some p =>
      rw [hp] at h3
      obtain ⟨cb, ccap, rest', hcv, hcb⟩ := h3
      exact ⟨cb, ccap, rest', hcv, hf.get hcb (ne_of_kind hcb h1 (by simp [kindOf]))⟩
  obtain ⟨blocks, pend, c, wr, tl, o, f, t⟩ := d
  have key : ∀ (b : Bool) (w' : World), b = DiskM.bad ⟨blocks, pend, c, wr, tl, o, f, t⟩ → Fr (· = db) w w' → w'.heap[db]? = some (.cells #[.slice (some ⟨bb, 0, none⟩) blocks.length cap, cv, .int .i64 (wrap64 (c + 1)), .int .i64 wr, .int .i64 (if b then wrap64 (tl + 1) else tl), .int .i64 o, .int .i64 f, .int .i64 t] 102 (0, 0)) →
      DiskAt w' db bb (DiskM.count ⟨blocks, pend, c, wr, tl, o, f, t⟩) := by
    rintro b w' rfl hf hb
    exact ⟨hwf, cap, rest, cv, hb, hf.get h2 hne, hp w' hf⟩
  have Key := Lib.hid key
  have Hbad : Hid (DiskM.bad ⟨blocks, pend, c, wr, tl, o, f, t⟩ = ((decide (0 ≤ o) && decide (o ≤ c)) || (decide (f ≤ c) && decide (c < t)))) := rfl
  simp only [dkCells] at h1
  clear key hp h3 hwf h2
  have hcv := cellv w
  have hfv := frozv w
  by_cases a1 : 0 ≤ o <;> by_cases a2 : o ≤ c <;> by_cases a3 : f ≤ c <;> by_cases a4 : c < t
  all_goals
    go_enter Tryz.func181, Tryz.ntmps181
    go_wp2
    go_ret
    have hF : ∀ (v : Value), Fr (· = db) w ((w.setCell ⟨db, 2, none⟩ (.int .i64 (wrap64 (c + 1)))).setCell ⟨db, 4, none⟩ v) := fun v => ((Fr.refl (· = db) w).setCell (fun _ => rfl) _ _).setCell (fun _ => rfl) _ _
    have hF1 : Fr (· = db) w (w.setCell ⟨db, 2, none⟩ (.int .i64 (wrap64 (c + 1)))) := Fr.one _ _ _ _
    refine ⟨by rw [Hbad.out]; first | (simp [a1, a2, a3, a4]; done) | (simp [a1, a2, a3, a4]; omega), Key.out _ _ (by rw [Hbad.out]) ?_ (by first | (simp [hp_setCell, h1, a1, a2, a3, a4]; done) | (simp [hp_setCell, h1, a1, a2, a3, a4]; intro hh; omega)), ?_⟩ <;> first | exact hF1 | exact hF _

set_option maxHeartbeats 1000000 in
theorem none_calls {w : World} {db bb : Nat} {d : DiskM} (h : DiskAt w db bb d) (i : Nat) :
    Calls Tryz.prog 182 #[.pointer (some ⟨db, 0, none⟩), .int .i64 i] w fun e w' => e = .returned (.bool (decide (d.blocks.length ≤ i))) ∧ w = w' := by
  obtain ⟨hwf, cap, rest, cv, h1, h2, h3⟩ := h
  simp only [dkCells] at h1
  clear hwf h2 h3
  have hcv := cellv w
  go_enter Tryz.func182, Tryz.ntmps182
  go_wp2
  all_goals
    go_ret
    exact ⟨by first | (simp; done) | (simp; omega), rfl⟩

set_option maxHeartbeats 1000000 in
theorem Blocks_calls {w : World} {db bb : Nat} {d : DiskM} (h : DiskAt w db bb d) :
    Calls Tryz.prog 177 #[.pointer (some ⟨db, 0, none⟩)] w fun e w' => e = .returned (.int .i64 d.blocks.length) ∧ w = w' := by
  obtain ⟨hwf, cap, rest, cv, h1, h2, h3⟩ := h
  simp only [dkCells] at h1
  clear hwf h2 h3
  have hcv := cellv w
  go_enter Tryz.func177, Tryz.ntmps177
  go_wp2
  go_ret
  exact ⟨rfl, rfl⟩
end Go.Proofs.YtkafmfdipmhleaaGreatDoor

namespace Go.Proofs.YtkafmfdipmhleaaGreatDoor
open Go.RowKit

theorem heap_alloc_keep {w : World} {k : Nat} {x : Obj} (o : Obj) (h : w.heap[k]? = some x) : (w.alloc o).heap[k]? = some x := by
  rw [hp_alloc, if_neg (ne_size_of_hp h)]; exact h
section
variable {P : Program} {w : World} {ops : Array Oper} {rest : List Oper} {o : Oper} {a : Act} {Q : Exit → Act → World → Prop}
/-- copy from a slice into a row. -/
theorem wpl_copy (hgd : o.guard = none) (d s : Operand) (dT sT : TypeId)
    (ho : o.op = .call { callee := .builtin .copy, args := #[d, s], argTypes := #[dT, sT] }) (elem : TypeId) (hu : P.underlying dT = some (.slice elem)) (hsz : (P.info? elem).map (·.size) = some 1)
    (g off dLen dCap : Nat) (hd : a.eval d = .slice (some ⟨g, off, none⟩) dLen dCap) (sb so sLen sCap : Nat) (hs : a.eval s = .slice (some ⟨sb, so, none⟩) sLen sCap)
    (cur : Array Value) (t : TypeId) (hg : w.heap[g]? = some (.cells cur t (0, 0))) (cs : List Value) (hn : cs.length = Nat.min sLen dLen)
    (hsrc : ∀ j v, cs[j]? = some v → cellOf w.heap[sb]? (so + j) = some v) (hfit : off + cs.length ≤ cur.size) (h1 : ∀ v ∈ cs, v.oneCell' = true)
    (h : ∀ w' Y, Hid (Y = (cur.toList.take off ++ cs ++ cur.toList.drop (off + cs.length)).toArray) → w'.heap[g]? = some (.cells Y t (0, 0)) → Fr (· = g) w w' → wpList P ops Q rest (a.put o.dst (goInt cs.length)) w') :
    wpList P ops Q (o :: rest) a w := by
  refine wpList_plain hgd fun K hK => ?_
  have hrun := run_copy_row (P := P) w dT sT o.type elem g off dLen dCap ⟨sb, so, none⟩ sLen sCap cur t cs hu hsz hg hn (fun j v hv => by rw [Addr.add_mid, cellv]; exact hsrc j v hv) hfit h1
  unfold Oper.wp
  simp [execOp, ho, resolve, invoke, builtin, hd, hs, hrun, Result.andThen]
  exact hK _ _ (h _ _ rfl (by rw [setRow_heap w g _ _ t _ hg]; simp) ((Fr.refl (· = g) w).setRow (fun _ => rfl) _))

/-- An aggregate read out of a block. -/
theorem wpl_load (hgd : o.guard = none) (ty : TypeId) (x : Operand) (ho : o.op = .load ty x) (b off : Nat) (hx : a.eval x = .pointer (some ⟨b, off, none⟩)) (cs : List Value) (d : TypeDesc)
    (hc : ∀ j v, cs[j]? = some v → cellOf w.heap[b]? (off + j) = some v) (hu : P.underlying ty = some d) (hd : d.isRow = true) (hi : (P.info? ty).map (·.size) = some cs.length)
    (h : wpList P ops Q rest (a.put o.dst (.agg cs.toArray)) w) : wpList P ops Q (o :: rest) a w :=
  wpList_load_mid hgd ty x ho b off hx cs d (fun j v hv => by rw [cellv]; exact hc j v hv) hu hd hi h

/-- An aggregate stored into a variable that has just been made. -/
theorem wpl_store_new (hgd : o.guard = none) (ty : TypeId) (x y : Operand) (ho : o.op = .store ty x y) (n : Nat) (cells z : Array Value) (t : TypeId) (hn : n = w.heap.size)
    (hx : a.eval x = .pointer (some ⟨n, 0, none⟩)) (hy : a.eval y = .agg cells) (hi : (P.info? ty).map (·.size) = some cells.size) (hz : z.size = cells.size) (h1 : cells.all (·.oneCell') = true)
    (h : wpList P ops Q rest (a.put o.dst undef) (w.alloc (.cells cells t))) : wpList P ops Q (o :: rest) a (w.alloc (.cells z t)) := by
  subst hn
  refine wpList_store_row hgd ty x y ho w.heap.size cells hx hy t z (heap_alloc_new w _) hi hz h1 ?_
  rw [World.setRow_alloc_new]
  exact h
end

def DiskM.look (d : DiskM) (i : Nat) : List UInt8 :=
  match d.pend with
  | some (j, b) => if j = i then b else d.blocks.getD i []
  | none => d.blocks.getD i []
theorem DiskM.look_length {d : DiskM} (h : d.wf) {i : Nat} (hi : i < d.blocks.length) : (d.look i).length = 128 := by
  have hg : (d.blocks.getD i []).length = 128 := by
    rw [List.getD_eq_getElem?_getD, List.getElem?_eq_getElem hi]; exact h.1 _ (List.getElem_mem hi)
  unfold DiskM.look
  split
  · rename_i j b hp
    split
    · exact (h.2 _ hp).2
    · exact hg
  · exact hg

/-- What Read answers. -/
def ReadPost (w : World) (db bb : Nat) (d : DiskM) (i : Nat) (e : Ending) (w' : World) : Prop :=
  DiskAt w' db bb d.count ∧ Fr (· = db) w w' ∧
    (d.bad = true ∧ e = .returned (.tuple #[.slice none 0 0, .iface 55 (.int .i64 5)]) ∨
     d.bad = false ∧ ∃ g, w.heap.size ≤ g ∧ e = .returned (.tuple #[.slice (some ⟨g, 0, none⟩) 128 128, .nilIface]) ∧ w'.heap[g]? = some (.cells ((d.look i).map bv).toArray 5 (0, 0)))

theorem blk_get (bl : List (List UInt8)) (h : ∀ b ∈ bl, b.length = 128) (rest : List Value) (i : Nat) (hi : i < bl.length) (j : Nat) (hj : j < 128) : (blkCells bl rest)[i * 128 + j]? = (((bl.getD i []).map bv))[j]? := by
  induction bl generalizing i with
  | nil => simp at hi
  | cons b bl ih =>
    have hb := h b (by simp)
    cases i with
    | zero =>
      simp [blkCells, List.getElem?_append_left, hb, hj]
    | succ i =>
      have := ih (fun x hx => h x (by simp [hx])) i (by simpa using hi)
      simp only [blkCells, List.getElem?_toArray] at this ⊢
      rw [List.flatten_cons, List.map_append, List.append_assoc, List.getElem?_append_right (by simp [hb]; omega)]
      simp only [List.length_map, hb]
      rw [show (i + 1) * 128 + j - 128 = i * 128 + j by omega, this]
      simp

theorem bv_one (l : List UInt8) : ∀ v ∈ l.map bv, v.oneCell' = true := by
  intro v hv
  obtain ⟨x, _, rfl⟩ := List.mem_map.1 hv
  rfl
theorem Tryz.info5sz : (Tryz.prog.info? 5).map (·.size) = some 1 := by kernel_rfl
theorem Tryz.info107s : (Tryz.prog.info? 107).map (·.size) = some 129 := by kernel_rfl
theorem Tryz.zc107 : Tryz.zeroCells107.size = 129 := by kernel_rfl

set_option maxRecDepth 100000 in
set_option maxHeartbeats 2000000 in
theorem Read_calls {w : World} {db bb : Nat} {d : DiskM} (h : DiskAt w db bb d) (i : Nat) (hi : i < d.blocks.length) :
    Calls Tryz.prog 179 #[.pointer (some ⟨db, 0, none⟩), .int .i64 i] w (ReadPost w db bb d i) := by
  have hfl := fails_calls h
  go_enter Tryz.func179, Tryz.ntmps179
  go_wp2_with fail
  refine hfl.mono ?_
  rintro e w1 ⟨rfl, hd1, hf1⟩
  clear hfl
  by_cases hbad : d.bad = true
  · rw [hbad]
    go_wp2_with fail
    go_ret2
    exact ⟨hd1, hf1, .inl ⟨hbad, rfl⟩⟩
  · have hbad' : d.bad = false := by simpa using hbad
    rw [hbad']
    have hmk : ∀ w, (Instr.makeSlice 92 (.int .i64 128) (.int .i64 128)).run Tryz.prog w = .ok (.slice (some ⟨w.heap.size, 0, none⟩) 128 128) (w.alloc (.cells (Array.replicate 128 (.int .u8 0)) 5)) := fun _ => by kernel_rfl
    go_wp2_with fail
    refine (none_calls hd1 i).mono ?_
    rintro e w2 ⟨rfl, rfl⟩
    have hlt : decide (d.count.blocks.length ≤ i) = false := by rw [decide_eq_false_iff_not]; show ¬ d.blocks.length ≤ i; omega
    rw [hlt]
    go_upto_region 4 with fail
    clear hlt hmk
    have hd2 := hd1.new ((Fr.refl _ w1).alloc (.cells (Array.replicate 128 (.int .u8 0)) 5))
    have hg2 := heap_alloc_new w1 (.cells (Array.replicate 128 (.int .u8 0)) 5)
    have hf2 := hf1.alloc (.cells (Array.replicate 128 (.int .u8 0)) 5)
    have hgl : w.heap.size ≤ w1.heap.size := hf1.size
    generalize w1.alloc (.cells (Array.replicate 128 (.int .u8 0)) 5) = W2 at hd2 hg2 hf2 ⊢
    generalize w1.heap.size = g at hg2 hgl ⊢
    have hZs : (Array.replicate 128 (Value.int .u8 0)).size = 128 := by simp
    generalize (Array.replicate 128 (Value.int .u8 0)) = Z at hg2 hZs
    have Hd := Lib.hid hd2
    obtain ⟨hwf, cap, rest, cv, h1, h2, h3⟩ := hd2
    simp only [dkCells] at h1
    have hcv := cellv W2
    have hwf' : d.wf := hwf
    have hblk : (d.blocks.getD i []).length = 128 := by
      rw [List.getD_eq_getElem?_getD, List.getElem?_eq_getElem hi]; exact hwf'.1 _ (List.getElem_mem hi)
    have hsrc : ∀ j v, ((d.blocks.getD i []).map bv)[j]? = some v → cellOf W2.heap[bb]? (i * 128 + j) = some v := by
      intro j v hj
      have hj' : j < 128 := by
        have := (List.getElem?_eq_some_iff.1 hj).1
        rw [List.length_map, hblk] at this; exact this
      rw [h2, cellOf_cells]
      exact (blk_get d.blocks hwf'.1 rest i hi j hj').trans hj
    have Hlook : Hid (d.look i = match d.pend with | some (j, b) => if j = i then b else d.blocks.getD i [] | none => d.blocks.getD i []) := by
      show _ = _
      unfold DiskM.look
      split <;> rfl
    generalize hB0 : d.blocks.getD i [] = B0 at hblk hsrc Hlook
    have Hsrc := Lib.hid hsrc
    have Hn := Lib.hid (show (B0.map bv).length = 128 by rw [List.length_map]; exact hblk)
    have Hfit := Lib.hid (show 0 + (B0.map bv).length ≤ Z.size by rw [List.length_map, hblk, hZs]; omega)
    have HZ := Lib.hid (show Z.toList.take 0 ++ B0.map bv ++ Z.toList.drop (0 + (B0.map bv).length) = B0.map bv by
      rw [List.drop_of_length_le (by simp [hZs, hblk])]; simp)
    have Hone := Lib.hid (bv_one B0)
    have Hb := Lib.hid hblk
    have hi' : (i : Int) < d.count.blocks.length := by show (i : Int) < d.blocks.length; omega
    have hi0 : 0 ≤ (i : Int) := by omega
    have Hwf := Lib.hid hwf'
    generalize hC : B0.map bv = C at Hsrc Hn Hfit HZ Hone
    have HC := Lib.hid hC
    clear hwf hblk h2 hd1 hf1 hi hsrc hZs hwf' hB0 hC
    have h3' : PendAt W2 cv d.pend := h3
    clear h3
    go_upto_region 5 with (refine wpl_copy rfl (.tmp 18) (.tmp 25) 92 92 rfl 5 Tryz.underlying92 Tryz.info5sz g 0 128 128 rfl bb (i * 128) 128 128 rfl Z 5 hg2 C Hn.out Hsrc.out Hfit.out Hone.out ?_; intro W3 Y hY hg3 hf3)
    have hgdb : db ≠ g := ne_of_kind h1 hg2 (by simp [kindOf])
    have hd3 : DiskAt W3 db bb d.count := Hd.out.apart hf3 (by rintro k rfl; exact ⟨_, hg2, by simp [kindOf]⟩)
    have hF3 : Fr (· = db) w W3 := hf2.trans' hf3 (fun k hk e => by omega)
    have hY' : Y = C.toArray := by rw [hY.out, HZ.out]
    subst hY'
    have h13 := hf3.get h1 hgdb
    have h33 := h3'.frame hf3 (by rintro k rfl; exact ⟨_, hg2, by simp [kindOf]⟩)
    clear h3'
    have Hd3 := Lib.hid hd3
    clear hcv h1 hg2 hf3 hd3 hf2 Hd
    have hcv3 := cellv W3
    cases hp : d.pend with
    | none =>
      rw [hp] at h33
      obtain rfl : cv = .slice none 0 0 := h33
      go_wp2_with fail
      refine wp_loop_rounds 1 ?_
      rw [rounds_succ]
      go_wp2_with fail
      go_ret2
      refine ⟨Hd3.out, hF3, .inr ⟨hbad', g, hgl, rfl, ?_⟩⟩
      rw [Hlook.out, hp, HC.out]
      exact hg3
    | some p =>
      obtain ⟨j, b⟩ := p
      rw [hp] at h33
      obtain ⟨cb, ccap, rest', rfl, hcb⟩ := h33
      obtain ⟨hpj, hpb⟩ := Hwf.out.2 _ hp
      have hpb' : b.length = 128 := hpb
      have hl := Hlook.out
      rw [hp] at hl
      have Hl := Lib.hid hl
      have hw1 : ∀ q v, (Value.int .i64 (j : Int) :: b.map bv)[q]? = some v → cellOf W3.heap[cb]? (0 + q) = some v := by
        intro q v hq
        rw [hcb, cellOf_cells, Nat.zero_add, wrCells, List.getElem?_toArray, List.getElem?_append_left (List.getElem?_eq_some_iff.1 hq).1]
        exact hq
      have hw2 : (Value.int .i64 (j : Int) :: b.map bv).length = 129 := by simp [hpb']
      have hw3 : (Value.int .i64 (j : Int) :: b.map bv).toArray.all (·.oneCell') = true := all_oneCell_toArray (by
        intro v hv
        rcases List.mem_cons.1 hv with rfl | hv
        · rfl
        · exact bv_one b v hv)
      have hw4 : (Value.int .i64 (j : Int) :: b.map bv).toArray[0]? = some (.int .i64 (j : Int)) := rfl
      have hw5 : ∀ q v, (b.map bv)[q]? = some v → (Value.int .i64 (j : Int) :: b.map bv).toArray[1 + q]? = some v := by
        intro q v hq
        rw [Nat.add_comm]; simpa using hq
      have Hbm := Lib.hid (show (b.map bv).length = 128 by rw [List.length_map]; exact hpb')
      have Hone2 := Lib.hid (bv_one b)
      generalize hCW : (Value.int .i64 (j : Int) :: b.map bv) = CW at hw1 hw2 hw3 hw4 hw5
      have Hw1 := Lib.hid hw1
      have Hw3 := Lib.hid hw3
      have Hw5 := Lib.hid hw5
      have Hi1 := Lib.hid (show (Tryz.prog.info? 107).map (·.size) = some CW.length by rw [hw2]; exact Tryz.info107s)
      have Hi2 := Lib.hid (show (Tryz.prog.info? 107).map (·.size) = some CW.toArray.size by rw [List.size_toArray, hw2]; exact Tryz.info107s)
      have Hi3 := Lib.hid (Tryz.zc107.trans (show 129 = CW.toArray.size by rw [List.size_toArray, hw2]))
      have Hp := Lib.hid hp
      have Hcb := Lib.hid hcb
      clear hw1 hw2 hw3 hw5 hCW hp hl hpb hpb' hcb hpj
      go_wp2_with fail
      refine wp_loop_rounds 2 ?_
      rw [rounds_succ]
      go_upto_region 8 with (first
        | (refine wpl_load rfl 107 (.tmp 34) rfl cb 0 rfl CW _ Hw1.out Tryz.underlying107 rfl Hi1.out ?_)
        | (refine wpl_store_new rfl 107 (.tmp 8) (.tmp 35) rfl W3.heap.size CW.toArray Tryz.zeroCells107 107 rfl rfl rfl Hi2.out Hi3.out Hw3.out ?_)
        | fail)
      have hd4 := Hd3.out.new ((Fr.refl _ W3).alloc (.cells CW.toArray 107))
      have hn4 := heap_alloc_new W3 (.cells CW.toArray 107)
      have hF4 := hF3.alloc (.cells CW.toArray 107)
      have hg4 := heap_alloc_keep (.cells CW.toArray 107) hg3
      have hgn : g ≠ W3.heap.size := ne_size_of_hp hg3
      have hnl : w.heap.size ≤ W3.heap.size := hF3.size
      generalize W3.alloc (.cells CW.toArray 107) = W4 at hd4 hn4 hF4 hg4 ⊢
      generalize W3.heap.size = n at hn4 hgn hnl ⊢
      have Hd4 := Lib.hid hd4
      have hcv4 := cellv W4
      clear hcv3 h13 hg3 hd4
      by_cases hji : j = i
      · have hjB : ((j : Int) == i) = true := by rw [hji]; simp
        have hl2 : Hid (C.length = 128) := Hn
        have hfit2 : Hid (0 + (b.map bv).length ≤ C.toArray.size) := by
          show _ ≤ _
          rw [Hbm.out, List.size_toArray, hl2.out]; omega
        have hsrc2 : Hid (∀ q v, (b.map bv)[q]? = some v → cellOf W4.heap[n]? (1 + q) = some v) := by
          intro q v hq
          rw [hn4, cellOf_cells]
          exact Hw5.out q v hq
        go_wp2_with (first
          | (refine wpl_copy rfl (.tmp 40) (.tmp 42) 92 92 rfl 5 Tryz.underlying92 Tryz.info5sz g 0 128 128 rfl n 1 128 128 rfl C.toArray 5 hg4 (b.map bv) Hbm.out hsrc2.out hfit2.out Hone2.out ?_; intro W5 Y5 hY5 hg5 hf5)
          | fail)
        have hY5' : Y5 = (b.map bv).toArray := by
          rw [hY5.out, List.drop_of_length_le (by rw [Hbm.out]; simp [hl2.out])]
          simp
        subst hY5'
        have Hf5 := Lib.hid hf5
        have Hg5 := Lib.hid hg5
        clear hf5 hg5 hcv4
        rw [rounds_succ]
        go_wp2_with fail
        go_ret2
        refine ⟨Hd4.out.apart Hf5.out (by rintro k rfl; exact ⟨_, hg4, by simp [kindOf]⟩), hF4.trans' Hf5.out (fun k hk e => by omega), .inr ⟨hbad', g, hgl, rfl, ?_⟩⟩
        rw [Hl.out]
        simp only [if_pos hji]
        exact Hg5.out
      · have hjB : ((j : Int) == i) = false := by simp; omega
        go_wp2_with fail
        rw [rounds_succ]
        go_wp2_with fail
        go_ret2
        refine ⟨Hd4.out, hF4, .inr ⟨hbad', g, hgl, rfl, ?_⟩⟩
        rw [Hl.out]
        simp only [if_neg hji]
        rw [HC.out]
        exact hg4
end Go.Proofs.YtkafmfdipmhleaaGreatDoor

namespace Go.Proofs.YtkafmfdipmhleaaGreatDoor
open Go.RowKit

set_option maxHeartbeats 1000000 in
theorem forward_calls {w : World} {sb : Nat} {s : SagaM} (h : SagaAt w sb s) (hs : 1 ≤ s.step ∧ s.step ≤ 100) (reply : Int) :
    Calls Tryz.prog 73 #[.pointer (some ⟨sb, 0, none⟩), .int .i64 reply] w (MovePost w sb (s.forward reply)) := by
  by_cases hr : reply = 0
  · obtain ⟨sv, h1, h2⟩ := h
    obtain ⟨id, st, step, tries, due, steps⟩ := s
    simp only at hs
    have hsv : ∃ b off cap, sv = .slice (some ⟨b, off, none⟩) steps.length cap := by
      obtain ⟨b, off, cap, _, e, _⟩ := h2
      exact ⟨b, off, cap, e⟩
    have Ht := Lib.hid (fun (w' : World) (s' : SagaM) (hf : Fr (· = sb) w w') (hs : s'.steps = steps) => SagaAt.turn h1 h2 hf hs)
    simp only [sgCells] at h1
    clear h2
    obtain ⟨b, off, cap, rfl⟩ := hsv
    subst hr
    have hcv := cellv w
    have hfv := frozv w
    have hw : wrap64 (step + 1) = step + 1 := wrap_in _ (by omega)
    have Hw := Lib.hid hw
    clear hw
    have h15 : (w.setCell ⟨sb, 2, none⟩ (.int .i64 (step + 1))).heap[sb]? = some (.cells (sgCells ⟨id, st, step + 1, tries, due, steps⟩ (.slice (some ⟨b, off, none⟩) steps.length cap)) 88 (0, 0)) := by
      rw [hp_setCell, if_pos rfl, h1]; simp [sgCells]
    simp only [sgCells] at h15
    go_enter Tryz.func73, Tryz.ntmps73
    go_upto_region 3 with fail
    have hcv2 := cellv (w.setCell ⟨sb, 2, none⟩ (.int .i64 (step + 1)))
    go_quiet (fail)
    go_wp2_with fail
    · rename_i hlt
      have Hm : Hid (SagaM.forward ⟨id, st, step, tries, due, steps⟩ 0 = ⟨id, 3, 0, tries, due, steps⟩) := by show _ = _; simp [SagaM.forward, hlt]
      go_end0
      refine ⟨rfl, (((Fr.one _ _ _ _).drewN _).trans (Fr.one _ _ _ _)).trans (Fr.one _ _ _ _), ?_⟩
      rw [Hm.out]
      refine Ht.out _ _ ((((Fr.one _ _ _ _).drewN _).trans (Fr.one _ _ _ _)).trans (Fr.one _ _ _ _)) rfl ?_
      simp only [hp_setCell, hp_drewN, if_true, h1]
      simp [sgCells]
    · rename_i hlt
      have Hm : Hid (SagaM.forward ⟨id, st, step, tries, due, steps⟩ 0 = ⟨id, st, step + 1, tries, due, steps⟩) := by
        show _ = _
        have : ¬ (steps.length : Int) < step + 1 := by omega
        simp [SagaM.forward, this]
      go_end0
      refine ⟨rfl, (Fr.one _ _ _ _).drewN _, ?_⟩
      rw [Hm.out]
      refine Ht.out _ _ ((Fr.one _ _ _ _).drewN _) rfl ?_
      simp only [hp_setCell, hp_drewN, if_true, h1]
      simp [sgCells]
  · have hr' : (reply != 0) = true := by simpa using hr
    have hb := backward_calls h hs reply
    have Hb := Lib.hid hb
    have Hf : Hid (s.forward reply = s.backward) := by show _ = _; simp [SagaM.forward, hr]
    clear hb h hs hr
    rw [Hf.out]
    go_enter Tryz.func73, Tryz.ntmps73
    go_wp2_with (first
      | (go_at_call 74; refine Calls.mono Hb.out ?_; rintro e w2 ⟨rfl, hf2, hs2⟩)
      | fail)
    first | go_end0 | refine bodyPost_ret (results_none rfl _ _ _) rfl ?_
    exact ⟨rfl, hf2, hs2⟩

theorem Tryz.info139 : (Tryz.prog.info? 139).map (·.size) = some 3 := by kernel_rfl
set_option maxRecDepth 100000 in
set_option maxHeartbeats 1000000 in
theorem Move_calls {w : World} {sb : Nat} {s : SagaM} (h : SagaAt w sb s) (hst : s.st = 1 ∨ s.st = 2) (hs : 1 ≤ s.step ∧ s.step ≤ 100) (reply : Int) :
    Calls Tryz.prog 55 #[.pointer (some ⟨sb, 0, none⟩), .int .i64 reply] w (MovePost w sb (s.moved reply)) := by
  obtain ⟨sv, h1, h2⟩ := h
  obtain ⟨id, st, step, tries, due, steps⟩ := s
  simp only at hs hst
  have Ht := Lib.hid (fun (w' : World) (s' : SagaM) (hf : Fr (· = sb) w w') (hs : s'.steps = steps) => SagaAt.turn h1 h2 hf hs)
  simp only [sgCells] at h1
  clear h2
  have hcv := cellv w
  have hfv := frozv w
  have H139 : Hid ((#[Value.nilFunc, .func (.func 73) #[] #[], .func (.func 74) #[] #[]] : Array Value).all (·.oneCell') = true) := by
    show _ = _
    simp [Value.oneCell']
  rcases hst with rfl | rfl
  all_goals
    go_enter Tryz.func55, Tryz.ntmps55
    go_upto_region 1 with fail
    have hF : Fr (· = sb) w ((w.setCell ⟨sb, 4, none⟩ (.int .i64 0)).setCell ⟨sb, 5, none⟩ (.int .i64 0)) := (Fr.one _ _ _ _).trans (Fr.one _ _ _ _)
    have hS := Ht.out _ (SagaM.mk id _ step 0 0 steps) hF rfl (by
      simp only [hp_setCell, if_true, h1]
      simp [sgCells]; rfl)
    have h3 := hS
    generalize ((w.setCell ⟨sb, 4, none⟩ (.int .i64 0)).setCell ⟨sb, 5, none⟩ (.int .i64 0)) = W1 at hF hS h3 ⊢
    obtain ⟨sv1, h4, _⟩ := h3
    have HF := Lib.hid hF
    have HS := Lib.hid hS
    clear hcv hfv Ht h1 hF hS
    go_upto_region 2 with (first
      | (refine wpl_store_new rfl 139 (.tmp 4) (.tmp 13) rfl W1.heap.size #[Value.nilFunc, .func (.func 73) #[] #[], .func (.func 74) #[] #[]] #[Value.nilFunc, Value.nilFunc, Value.nilFunc] 139 rfl rfl rfl Tryz.info139 rfl H139.out ?_)
      | fail)
    simp only [Act.put]
    have hn := heap_alloc_new W1 (.cells #[Value.nilFunc, .func (.func 73) #[] #[], .func (.func 74) #[] #[]] 139)
    have HA : Hid (New W1 (W1.alloc (.cells #[Value.nilFunc, .func (.func 73) #[] #[], .func (.func 74) #[] #[]] 139))) := (Fr.refl _ _).alloc _
    have h5 := heap_alloc_keep (.cells #[Value.nilFunc, .func (.func 73) #[] #[], .func (.func 74) #[] #[]] 139) h4
    clear h4
    generalize W1.alloc (.cells #[Value.nilFunc, .func (.func 73) #[] #[], .func (.func 74) #[] #[]] 139) = W2 at hn HA h5 ⊢
    generalize W1.heap.size = N at hn ⊢
    simp only [sgCells] at h5
    have hcv := cellv W2
    have HS2 := Lib.hid (HS.out.new HA.out)
    have HF2 := Lib.hid (HF.out.trans (HA.out.mono (fun _ _ f => f.elim)))
    have hsn : ¬ N = sb := ne_of_kind hn h5 (by simp [kindOf])
    go_wp2_with (first
      | (go_at_call 73; refine Calls.mono (forward_calls HS2.out hs reply) ?_; rintro e w3 ⟨rfl, hf3, hs3⟩)
      | (go_at_call 74; refine Calls.mono (backward_calls HS2.out hs reply) ?_; rintro e w3 ⟨rfl, hf3, hs3⟩)
      | fail)
    go_end0
    exact ⟨rfl, HF2.out.trans hf3, hs3⟩
end Go.Proofs.YtkafmfdipmhleaaGreatDoor

namespace Go.Proofs.YtkafmfdipmhleaaGreatDoor
open Go.RowKit

structure CallM where
  saga : Int
  step : Int
  back : Bool
  data : ByteArray
def CallM.val (c : CallM) : Value := .agg #[.int .i64 c.saga, .int .i64 c.step, .bool c.back, .string c.data]
def SagaM.call (s : SagaM) : CallM := ⟨s.id, s.step, decide (s.st = 2), if s.st = 2 then (s.steps.getD (s.step - 1).toNat (⟨#[]⟩, ⟨#[]⟩)).2 else (s.steps.getD (s.step - 1).toNat (⟨#[]⟩, ⟨#[]⟩)).1⟩
theorem Tryz.info46s : (Tryz.prog.info? 46).map (·.size) = some 4 := by kernel_rfl
set_option maxRecDepth 100000 in
set_option maxHeartbeats 2000000 in
theorem Call_calls {w : World} {sb : Nat} {s : SagaM} (h : SagaAt w sb s) (hst : s.st = 1 ∨ s.st = 2) (k : Nat) (hk : s.step = k + 1) (hkl : k < s.steps.length) (hlen : s.steps.length ≤ 100) :
    Calls Tryz.prog 52 #[.pointer (some ⟨sb, 0, none⟩)] w fun e w' => e = .returned s.call.val ∧ New w w' := by
  have hc : Hid (s.call = ⟨s.id, (k : Int) + 1, decide (s.st = 2), if s.st = 2 then s.steps[k].2 else s.steps[k].1⟩) := by
    show _ = _
    have e1 : (s.step - 1).toNat = k := by omega
    simp [SagaM.call, hk, hkl]
  obtain ⟨sv, h1, b, off, cap, c, rfl, h2, h3⟩ := h
  obtain ⟨id, st, step, tries, due, steps⟩ := s
  simp only at hk hkl hst hlen hc h3
  subst hk
  obtain ⟨x0, x1⟩ := stepCells_get steps k hkl
  have c0 := h3 (k * 2) (by omega)
  have c1 := h3 (k * 2 + 1) (by omega)
  rw [x0] at c0
  rw [x1] at c1
  clear x0 x1 h3
  generalize steps[k].1 = D0 at hc c0
  generalize steps[k].2 = D1 at hc c1
  simp only [sgCells] at h1
  generalize steps.length = n at h1 hkl hlen
  have hkl' : (k : Int) < n := by omega
  have hw1 : IntKind.i64.wrap ((k : Int) + 1 - 1) = k := by rw [IntWalk.i64_in _ (by omega)]; omega
  have hw2 : IntKind.i64.wrap (k : Int) = k := IntWalk.i64_in _ (by omega)
  have hk0 : (0 : Int) ≤ k := by omega
  have HW := Lib.hid (rfl : w = w)
  clear hlen
  rcases hst with rfl | rfl
  · go_enter Tryz.func52, Tryz.ntmps52
    go_upto_region 1 with fail
    have hF1 : New w (w.alloc (.cells #[.int .i64 0, .int .i64 0, .bool false, .string ⟨#[]⟩] 46)) := (Fr.refl _ _).alloc _
    have h1' := hF1.get h1 (fun f => f)
    have h2' := hF1.get h2 (fun f => f)
    have h3' := heap_alloc_new w (.cells #[.int .i64 0, .int .i64 0, .bool false, .string ⟨#[]⟩] 46)
    generalize (w.alloc (.cells #[.int .i64 0, .int .i64 0, .bool false, .string ⟨#[]⟩] 46)) = W1 at hF1 h1' h2' h3' ⊢
    generalize hN : w.heap.size = N at h3' ⊢
    have HN := Lib.hid hN
    clear hN
    have a0 : W1.cell? ⟨sb, 0, none⟩ = some (.int .i64 id) := by rw [cellv, h1']; rfl
    have a1 : W1.cell? ⟨sb, 1, none⟩ = some (.int .i64 1) := by rw [cellv, h1']; rfl
    have a2 : W1.cell? ⟨sb, 2, none⟩ = some (.int .i64 ((k : Int) + 1)) := by rw [cellv, h1']; rfl
    have a6 : W1.cell? ⟨sb, 6, none⟩ = some (.slice (some ⟨b, off, none⟩) n cap) := by rw [cellv, h1']; rfl
    have aa : W1.cell? ⟨b, off + k * 2, none⟩ = some (.string D0) := by rw [cellv, h2']; exact c0
    have n0 := World.new_ne W1 ⟨sb, 0, none⟩ a0
    clear h1 h2 h1' h2' c0 c1
    go_region_held3 (fun w' => w'.cell? ⟨sb, 0, none⟩ = some (.int .i64 id) ∧ w'.cell? ⟨sb, 1, none⟩ = some (.int .i64 1) ∧ w'.cell? ⟨sb, 2, none⟩ = some (.int .i64 ((k : Int) + 1)) ∧ w'.cell? ⟨sb, 6, none⟩ = some (.slice (some ⟨b, off, none⟩) n cap) ∧ w'.cell? ⟨b, off + k * 2, none⟩ = some (.string D0)) (go_keep) ((fail))
    have hF2 : New w (W1.alloc (.cells #[.int .i64 id, .int .i64 ((k : Int) + 1), .bool false, .string D0] 46)).drew := (hF1.alloc _).drew
    have h3'' := heap_alloc_keep (.cells #[.int .i64 id, .int .i64 ((k : Int) + 1), .bool false, .string D0] 46) h3'
    have h4' := heap_alloc_new W1 (.cells #[.int .i64 id, .int .i64 ((k : Int) + 1), .bool false, .string D0] 46)
    have hne : N ≠ W1.heap.size := ne_size_of_hp h3'
    rw [← hp_drew] at h3'' h4'
    clear h3' a0 a1 a2 a6 aa n0
    rename_i hHeld
    clear hHeld
    generalize (W1.alloc (.cells #[.int .i64 id, .int .i64 ((k : Int) + 1), .bool false, .string D0] 46)).drew = W2 at hF2 h3'' h4' ⊢
    generalize W1.heap.size = N1 at h4' hne ⊢
    have hcv := cellv W2
    have hfv := frozv W2
    have HF2 := Lib.hid hF2
    clear hF1 hF2
    go_wp2_with fail
    refine bodyPost_ret (v := CallM.val ⟨id, (k : Int) + 1, false, D0⟩) ?_ rfl ⟨by rw [hc.out]; rfl, ?_⟩
    · simp [results, Tryz.results52, go_sem, CallM.val, hp_setCell, h3'', cellv]
    · have hb : N < w.heap.size → False := by rw [HN.out]; omega
      exact (((HF2.out.setCell hb _ _).setCell hb _ _).setCell hb _ _).setCell hb _ _
  · go_enter Tryz.func52, Tryz.ntmps52
    go_upto_region 1 with fail
    have hF1 : New w (w.alloc (.cells #[.int .i64 0, .int .i64 0, .bool false, .string ⟨#[]⟩] 46)) := (Fr.refl _ _).alloc _
    have h1' := hF1.get h1 (fun f => f)
    have h2' := hF1.get h2 (fun f => f)
    have h3' := heap_alloc_new w (.cells #[.int .i64 0, .int .i64 0, .bool false, .string ⟨#[]⟩] 46)
    generalize (w.alloc (.cells #[.int .i64 0, .int .i64 0, .bool false, .string ⟨#[]⟩] 46)) = W1 at hF1 h1' h2' h3' ⊢
    generalize hN : w.heap.size = N at h3' ⊢
    have HN := Lib.hid hN
    clear hN
    have a0 : W1.cell? ⟨sb, 0, none⟩ = some (.int .i64 id) := by rw [cellv, h1']; rfl
    have a1 : W1.cell? ⟨sb, 1, none⟩ = some (.int .i64 2) := by rw [cellv, h1']; rfl
    have a2 : W1.cell? ⟨sb, 2, none⟩ = some (.int .i64 ((k : Int) + 1)) := by rw [cellv, h1']; rfl
    have a6 : W1.cell? ⟨sb, 6, none⟩ = some (.slice (some ⟨b, off, none⟩) n cap) := by rw [cellv, h1']; rfl
    have aa : W1.cell? ⟨b, off + k * 2, none⟩ = some (.string D0) := by rw [cellv, h2']; exact c0
    have n0 := World.new_ne W1 ⟨sb, 0, none⟩ a0
    clear h1 h2 c0
    go_region_held3 (fun w' => w'.cell? ⟨sb, 0, none⟩ = some (.int .i64 id) ∧ w'.cell? ⟨sb, 1, none⟩ = some (.int .i64 2) ∧ w'.cell? ⟨sb, 2, none⟩ = some (.int .i64 ((k : Int) + 1)) ∧ w'.cell? ⟨sb, 6, none⟩ = some (.slice (some ⟨b, off, none⟩) n cap) ∧ w'.cell? ⟨b, off + k * 2, none⟩ = some (.string D0)) (go_keep) ((fail))
    have hF2 : New w (W1.alloc (.cells #[.int .i64 id, .int .i64 ((k : Int) + 1), .bool true, .string D0] 46)).drew := (hF1.alloc _).drew
    have h3'' := heap_alloc_keep (.cells #[.int .i64 id, .int .i64 ((k : Int) + 1), .bool true, .string D0] 46) h3'
    have h4' := heap_alloc_new W1 (.cells #[.int .i64 id, .int .i64 ((k : Int) + 1), .bool true, .string D0] 46)
    have hne : N ≠ W1.heap.size := ne_size_of_hp h3'
    rw [← hp_drew] at h3'' h4'
    clear h3' a0 a1 a2 a6 aa n0
    rename_i hHeld
    clear hHeld
    have hS2 : New W1 (W1.alloc (.cells #[.int .i64 id, .int .i64 ((k : Int) + 1), .bool true, .string D0] 46)).drew := ((Fr.refl _ _).alloc _).drew
    generalize (W1.alloc (.cells #[.int .i64 id, .int .i64 ((k : Int) + 1), .bool true, .string D0] 46)).drew = W2 at hF2 hS2 h3'' h4' ⊢
    have hN1 : w.heap.size ≤ W1.heap.size := hF1.size
    generalize W1.heap.size = N1 at h4' hne hN1 ⊢
    have HN1 := Lib.hid hN1
    clear hN1
    have HF2 := Lib.hid hF2
    have h1'' := hS2.get h1' (fun f => f)
    have h2'' := hS2.get h2' (fun f => f)
    have hcv := cellv W2
    have hfv := frozv W2
    clear hF1 hF2 hS2 h1' h2'
    go_upto_region 3 with fail
    have e1 : N1 ≠ sb := ne_of_kind h4' h1'' (by simp [kindOf])
    have e2 : N1 ≠ b := ne_of_kind h4' h2'' (by simp [kindOf])
    have e3 : ¬ sb = N1 := fun e => e1 e.symm
    have e4 : ¬ b = N1 := fun e => e2 e.symm
    have b2 : W2.cell? ⟨sb, 2, none⟩ = some (.int .i64 ((k : Int) + 1)) := by rw [cellv, h1'']; rfl
    have b6 : W2.cell? ⟨sb, 6, none⟩ = some (.slice (some ⟨b, off, none⟩) n cap) := by rw [cellv, h1'']; rfl
    have bb : W2.cell? ⟨b, off + k * 2 + 1, none⟩ = some (.string D1) := by rw [cellv, h2'']; exact c1
    have bn : W2.cell? ⟨N1, 3, none⟩ = some (.string D0) := by rw [cellv, h4']; rfl
    have fn : W2.frozen? ⟨N1, 3, none⟩ = false := by rw [frozv, h4']; rfl
    have H3 := Lib.hid h3''
    have H4 := Lib.hid h4'
    clear hcv hfv h1'' h2'' c1 h3'' h4'
    go_region_held3 (fun w' => w'.cell? ⟨sb, 2, none⟩ = some (.int .i64 ((k : Int) + 1)) ∧ w'.cell? ⟨sb, 6, none⟩ = some (.slice (some ⟨b, off, none⟩) n cap) ∧ w'.cell? ⟨b, off + k * 2 + 1, none⟩ = some (.string D1)) (go_keep) ((fail))
    rename_i hHeld2
    clear hHeld2 b2 b6 bb bn fn
    have HF3 := Lib.hid ((HF2.out.setCell (b := N1) (fun h => absurd (show N1 < w.heap.size from h) (by have := HN1.out; omega)) 3 (.string D1)).drew)
    have h5 : ((W2.setCell ⟨N1, 3, none⟩ (.string D1)).drew).heap[N]? = some (.cells #[.int .i64 0, .int .i64 0, .bool false, .string ⟨#[]⟩] 46 (0, 0)) := by
      rw [hp_drew, hp_setCell, if_neg hne]; exact H3.out
    have h6 : ((W2.setCell ⟨N1, 3, none⟩ (.string D1)).drew).heap[N1]? = some (.cells #[.int .i64 id, .int .i64 ((k : Int) + 1), .bool true, .string D1] 46 (0, 0)) := by
      rw [hp_drew, hp_setCell, if_pos rfl, H4.out]; rfl
    generalize (W2.setCell ⟨N1, 3, none⟩ (.string D1)).drew = W3 at HF3 h5 h6 ⊢
    have hcv := cellv W3
    have hfv := frozv W3
    go_wp2_with fail
    refine bodyPost_ret (v := CallM.val ⟨id, (k : Int) + 1, true, D1⟩) ?_ rfl ⟨by rw [hc.out]; rfl, ?_⟩
    · simp [results, Tryz.results52, go_sem, CallM.val, hp_setCell, h5, cellv]
    · have hb : N < w.heap.size → False := by rw [HN.out]; omega
      exact (((HF3.out.setCell hb _ _).setCell hb _ _).setCell hb _ _).setCell hb _ _
end Go.Proofs.YtkafmfdipmhleaaGreatDoor

namespace Go.Proofs.YtkafmfdipmhleaaGreatDoor
open Go.RowKit

/-- One text, and what is behind it. -/
def takeOne : List UInt8 → Option (ByteArray × List UInt8)
  | [] => none
  | x :: t => if x.toNat < t.length then some (⟨(t.take x.toNat).toArray⟩, t.drop x.toNat) else none
/-- The bytes of row g that are still to be read. -/
def RestAt (gc : Array Value) (g : Nat) (rest : List UInt8) (v : Value) : Prop :=
  ∃ off, v = .slice (some ⟨g, off, none⟩) rest.length rest.length ∧ ∀ j, j < rest.length → gc[off + j]? = some (bv (rest.getD j 0))

set_option maxRecDepth 100000 in
set_option maxHeartbeats 2000000 in
theorem take_calls (w : World) (g q : Nat) (gc : Array Value) (gt : TypeId) (x : UInt8) (t : List UInt8) (v : Value) (hlen : t.length ≤ 128) (hx : x.toNat < t.length) (hg : w.heap[g]? = some (.cells gc gt (0, 0)))
    (hq : w.heap[q]? = some (.cells #[v] 92 (0, 0))) (hr : RestAt gc g (x :: t) v) :
    Calls Tryz.prog 132 #[.pointer (some ⟨q, 0, none⟩)] w fun e w' => ∃ v', e = .returned (.string ⟨(t.take x.toNat).toArray⟩) ∧ w'.heap[q]? = some (.cells #[v'] 92 (0, 0)) ∧ RestAt gc g (t.drop x.toNat) v' ∧ Fr (· = q) w w' := by
  obtain ⟨off, rfl, hc⟩ := hr
  have h0 := hc 0 (by simp)
  simp only [List.length_cons] at hq ⊢
  rw [Nat.add_zero] at h0
  unfold bv at h0
  simp only [List.getD_eq_getElem?_getD, List.getElem?_cons_zero, Option.getD_some] at h0
  have hcv := cellv w
  have hfv := frozv w
  have Hc := Lib.hid hc
  have hx0 := x.toNat_lt
  clear hc
  have hT : 0 < t.length := by omega
  have htake : Hid (strOfNums ((t.take x.toNat).map fun b : UInt8 => (b.toNat : Int)) = ⟨(t.take x.toNat).toArray⟩) := by
    show _ = _
    simp [strOfNums, Function.comp_def]
  have hcell : Hid (∀ j, j < x.toNat → w.cell? ⟨g, off + 1 + j, none⟩ = some (.int .u8 (((t.take x.toNat).map fun b : UInt8 => (b.toNat : Int)).getD j 0))) := by
    intro j hj
    have h1 := Hc.out (j + 1) (by simp; omega)
    rw [hcv, hg, cellOf_cells, show off + 1 + j = off + (j + 1) by omega, h1]
    simp [bv, hj, List.getElem?_take_of_lt, (by omega : j < t.length)]
  generalize hN : t.length = N at hx hlen hq hT
  have HN := Lib.hid hN
  clear hN
  have hx1 : ¬ ((x.toNat : Int) = N) := by omega
  have hx2 : ¬ (x.toNat = N) := by omega
  have hN0 : ¬ N = 0 := by omega
  have hlm : ((t.take x.toNat).map fun b : UInt8 => (b.toNat : Int)).length = x.toNat := by simp [HN.out]; omega
  have hcnv : (convert 92 9 (.slice (some ⟨g, off + 1, none⟩) x.toNat N)).run Tryz.prog w = .ok (.string ⟨(t.take x.toNat).toArray⟩) w := by
    rw [run_convert_bytes_arg (P := Tryz.prog) w 92 5 Tryz.underlying92 Tryz.underlying5 g (off + 1) x.toNat N _ hlm hcell.out 9 Tryz.underlying9, htake.out]
  clear hlm
  go_enter Tryz.func132, Tryz.ntmps132
  go_wp2
  go_ret
  refine ⟨_, rfl, by rw [hp_setCell, if_pos rfl, hq]; rfl, ⟨off + (1 + x.toNat), ?_, ?_⟩, Fr.one _ _ _ _⟩
  · rw [List.length_drop, HN.out, show N + 1 - (1 + x.toNat) = N - x.toNat by omega]
  · intro j hj
    rw [List.length_drop] at hj
    have h1 := Hc.out (x.toNat + j + 1) (by simp; omega)
    rw [show off + (1 + x.toNat) + j = off + (x.toNat + j + 1) by omega, h1]
    simp [List.getElem?_drop]
end Go.Proofs.YtkafmfdipmhleaaGreatDoor
