/-
  What is proved: the contract of journal's (*block).text: a text is laid as its length and its bytes.
-/
import Derived.Test.YtkafmfdipmhleaaGreatDoorCrc
import Derived.Lib.BufferWrite
import Derived.Deep.RegionLaw
namespace Go.Proofs.YtkafmfdipmhleaaGreatDoor
open Go.RowKit

/-- copy from a string, into a row: as one step of a region that draws. -/
theorem step_copy_str {P : Program} {ops : Array Oper} {o : Oper} {a : Act} {w : World} {K : Act → World → Prop} {Q : Exit → Act → World → Prop} {E : Prop} (hgd : o.guard = none) (d s : Operand) (dT sT : TypeId)
    (ho : o.op = .call { callee := .builtin .copy, args := #[d, s], argTypes := #[dT, sT] }) (elem : TypeId) (hu : P.underlying dT = some (.slice elem)) (hsz : (P.info? elem).map (·.size) = some 1)
    (g off dLen dCap : Nat) (hd : a.eval d = .slice (some ⟨g, off, none⟩) dLen dCap) (str : ByteArray) (hs : a.eval s = .string str)
    (cur : Array Value) (t : TypeId) (hg : w.heap[g]? = some (.cells cur t (0, 0))) (hle : str.size ≤ dLen) (hfit : off + str.size ≤ cur.size)
    (h : ∀ w' Y, Hid (Y = (cur.toList.take off ++ str.data.toList.map bv ++ cur.toList.drop (off + str.size)).toArray) → w'.heap[g]? = some (.cells Y t (0, 0)) → Fr (· = g) w w' → K (a.put o.dst (goInt str.size)) w') :
    if Region.wanted o (yielded ops a.tmps) = true then Oper.wp P o a w K Q else E := by
  have hw : Region.wanted o (yielded ops a.tmps) = true := by simp [Region.wanted, hgd]
  rw [if_pos hw]
  have hrun := Lib.run_copy_row_string (P := P) w dT sT o.type elem g off dLen dCap str cur t hu hsz hg hle hfit
  unfold Oper.wp
  simp [execOp, ho, resolve, invoke, builtin, hd, hs, hrun, Result.andThen]
  exact h _ _ rfl (by rw [setRow_heap w g _ _ t _ hg]; simp [Lib.byteCells, bv]) ((Fr.refl (· = g) w).setRow (fun _ => rfl) _)

theorem Tryz.info5s : (Tryz.prog.info? 5).map (·.size) = some 1 := by kernel_rfl

theorem way_splice (bs : List UInt8) (at_ P : Nat) (l : List UInt8) (h : bs.length = 128) (hP : P + l.length ≤ 128) {n : Nat} (hn : n = l.length) :
    ((wayCells bs at_).toList.take P ++ l.map bv ++ (wayCells bs at_).toList.drop (P + n)).toArray = wayCells (wrAt bs P l) at_ := by
  subst hn
  simp only [wayCells, wrAt]
  rw [List.take_append_of_le_length (by simp; omega), List.drop_append_of_le_length (by simp; omega)]
  simp [List.map_take, List.map_drop]

set_option maxHeartbeats 1000000 in
theorem text_calls (b : Nat) (w : World) (bs : List UInt8) (at_ : Nat) (s : ByteArray) (hat : at_ + 1 + s.size < 128) (hs : s.size ≤ 8)
    (hbs : bs.length = 128) (hb : w.heap[b]? = some (.cells (wayCells bs at_) 201 (0, 0))) :
    Calls Tryz.prog 118 #[.pointer (some ⟨b, 0, none⟩), .string s] w (PutPost b w bs at_ (leN 1 s.size ++ s.data.toList)) := by
  have hcv := cellv w
  have hbl := lt_of_hp hb
  go_enter Tryz.func118, Tryz.ntmps118
  go_wp2_with fail
  refine (put_calls b _ bs at_ 1 [s.size] w.heap.size 0 1 (by simp; omega) (by omega) (by simp) ?_ ?_ ?_ ?_ hbs ?_).mono ?_
  · intro j hj
    obtain rfl : j = 0 := by simpa using hj
    rw [hp_alloc, if_pos rfl]; rfl
  · intro n hn; simp at hn; omega
  · exact Ne.symm (Nat.ne_of_lt hbl)
  · simp
  · rw [hp_alloc, if_neg (Nat.ne_of_lt hbl)]; exact hb
  · rintro e w1 ⟨rfl, hb1, hf1⟩
    have hL : [s.size].flatMap (leN 1) = leN 1 s.size := by simp
    rw [hL] at hb1
    have hl1 : (wrAt bs at_ (leN 1 s.size)).length = 128 := by rw [wrAt_length _ _ _ (by rw [leN_length]; omega)]; exact hbs
    rw [leN_length] at hb1
    have h1 := way_at _ (at_ + 1) hl1
    have h1s : (wayCells (wrAt bs at_ (leN 1 s.size)) (at_ + 1)).size = 129 := by simp [wayCells, hl1]
    have HL := Lib.hid hl1
    clear hl1 hL
    generalize hX : wayCells (wrAt bs at_ (leN 1 s.size)) (at_ + 1) = X at hb1 h1 h1s
    have HX := Lib.hid hX
    generalize hP : at_ + 1 = P at h1
    have HP := Lib.hid hP
    have hPlt : P + s.size < 128 := by omega
    have H1s := Lib.hid h1s
    clear hX hP hat hcv hb h1s
    have hcv := cellv w1
    have hfv := frozv w1
    have hP1 : P ≤ 128 := by omega
    have hsz : s.data.toList.length = s.size := by simp
    have HY : Hid (∀ Y : Array Value, Y = (X.toList.take P ++ s.data.toList.map bv ++ X.toList.drop (P + s.size)).toArray → Y[128]? = some (.int .i64 P)) := by
      rintro Y rfl
      have : (X.toList.take P ++ s.data.toList.map bv).length = P + s.size := by simp [H1s.out]; omega
      rw [List.getElem?_toArray, List.getElem?_append_right (by omega), this, List.getElem?_drop, show P + s.size + (128 - (P + s.size)) = 128 by omega, Array.getElem?_toList]
      exact h1
    clear hsz
    have hP2 : (P : Int) ≤ 128 := by omega
    have hP3 : ¬ 128 = P := by omega
    go_wp2_with fail
    go_region_law (refine step_copy_str rfl (.tmp 20) (.tmp 21) 92 9 rfl 5 Tryz.underlying92 Tryz.info5s b P (128 - P) (128 - P) rfl s rfl X 201 hb1 (by omega) (by rw [H1s.out]; omega) ?_; intro w2 Y hY hb2 hf2; have hy := HY.out Y hY.out; have hcv2 := cellv w2; have hfv2 := frozv w2)
    all_goals
      go_end0
      refine ⟨rfl, ?_, (((Fr.refl _ w).alloc _).trans hf1).drew.trans (hf2.setCell (fun _ => rfl) _ _)⟩
      have hPe : P = at_ + 1 := HP.out.symm
      subst hPe
      rw [hp_setCell, if_pos rfl, hb2, objSet_cells, hY.out, IntWalk.i64_in _ (by omega), ← HX.out, way_splice _ _ _ _ HL.out (by simp; omega) (by simp),
        show ((↑(at_ + 1) : Int) + s.size) = ((at_ + 1 + s.size : Nat) : Int) from by push_cast; rfl,
        way_setAt _ _ _ (by rw [wrAt_length _ _ _ (by rw [HL.out]; simp; omega)]; exact HL.out)]
      have := wrAt_wrAt bs at_ (leN 1 s.size) s.data.toList (by rw [leN_length]; omega)
      rw [leN_length] at this
      rw [this]
      simp [leN_length, Nat.add_assoc]
end Go.Proofs.YtkafmfdipmhleaaGreatDoor
