/-
  What is proved: the given statement of Opens: for every input it returns true, and each argument reads as it did. Conditions: those of the row (the listed variable starts as the program's text lays it: tied by the card).
-/
import Derived.Test.YtkafmfdipmhleaaGreatDoorOy7
import Derived.Test.YtkafmfdipmhleaaGreatDoorRows
import Derived.ChangeSame
import Derived.ChangeVars
import Derived.ChangeSlices
import Derived.JoinedOf
import Derived.RowKit
import Derived.RowKitTokens
import Derived.LaidLaws
import Derived.LaidHandle
import Derived.Stop.Joined
import Derived.Carry
import Derived.Test.YtkafmfdipmhleaaGreatDoorCards
import Derived.Test.YtkafmfdipmhleaaGreatDoorTie

namespace Go.Proofs.YtkafmfdipmhleaaGreatDoor
open Go.RowKit Go.Maps

theorem Tryz.info112 : (Tryz.prog.info? 112).map (fun i => (i.zero, i.size, i.bytes)) = some (some (.agg #[.int .i64 0, .int .i64 0, .int .i64 0, .int .i64 0, .string ⟨#[]⟩, .string ⟨#[]⟩]), 6, 64) := by kernel_rfl
def opnKind (o : OpM) : Bool := decide (o.k < 7) || (decide (o.k = 10) || decide (o.k = 11))
theorem opCells_snoc (L : List OpM) (o : OpM) : opCells (L ++ [o]) = opCells L ++ o.cells.toList := by simp [opCells]
set_option maxRecDepth 100000 in
set_option maxHeartbeats 8000000 in
theorem plays_opens {w : World} {v : Value} {L : List OpM} {kb : Nat} (h : ScrIn w v L) (hL : L.length ≤ maxLen) (hop : ∀ o ∈ L, o.ok) (hk : w.heap[kb]? = some (.cells #[.int .i64 10, .int .i64 11] 3 (0, 0))) (hg : Handle w) (h0 : 0 < w.heap.size) :
    Calls Tryz.prog 35 #[v, .slice (some ⟨kb, 0, none⟩) 2 2] w fun e w' => e = .returned (.bool true) ∧ Low w.heap.size w w' := by
  have HSm := Lib.hid (small_calls h hL)
  obtain ⟨a, c, rfl⟩ := h.shape
  have H := Lib.hid h
  have Hop := Lib.hid hop
  have Hk := Lib.hid hk
  have Hg := Lib.hid hg
  have H0 := Lib.hid h0
  obtain ⟨i0, hi, hz0, hz1, hz2⟩ := info_parts Tryz.info112
  clear h hop hk hg h0 hL
  go_enter Tryz.func35, Tryz.ntmps35
  go_upto_region 2 with (first
    | (go_at_call 36; refine Calls.mono HSm.out ?_; rintro e w1 ⟨b, rfl, hf1, hb⟩)
    | fail)
  have Hf1 := Lib.hid hf1
  cases b
  · go_wp2_with fail
    go_ret
    exact ⟨rfl, Hf1.out.low (Nat.le_refl _) (fun _ f => f.elim)⟩
  have hL := hb rfl
  have HL := Lib.hid hL
  clear hb hf1 HSm hL
  go_wp2_with fail
  go_loopw [6, 7] (fun lv i wr => ∃ k : Nat, k ≤ L.length ∧ i = .int .i64 k ∧ wr.ownsRow w.heap.size 112 6 lv ((L.take k).filter opnKind).length (opCells ((L.take k).filter opnKind)) ∧ New w wr) (fun _ i _ => L.length - (intOf i).toNat)
  case atStart => exact ⟨0, Nat.zero_le _, rfl, World.ownsRow_nil _ _ _ _, Hf1.out⟩
  case round =>
    obtain ⟨k, hkl, rfl, hown, hf⟩ := hrel
    have Hown := Lib.hid hown
    have Hf := Lib.hid hf
    clear hown hf
    by_cases hlt : k < L.length
    · obtain ⟨o, ho⟩ : ∃ o, L[k]? = some o := ⟨L[k], List.getElem?_eq_getElem hlt⟩
      obtain ⟨b, off, rfl, c0, c1, c2, c3, c4, c5⟩ := (H.out.low (Hf.out.low (Nat.le_refl _) (fun _ f => f.elim))).at k o ho
      have hkI : (k : Int) < L.length := by omega
      have hk0 : (0 : Int) ≤ k := by omega
      have Hlt := Lib.hid hlt
      have htk : L.take (k + 1) = L.take k ++ [o] := by
        rw [List.take_succ_eq_append_getElem hlt]
        congr 2
        rw [List.getElem?_eq_getElem hlt] at ho; exact Option.some.inj ho
      have hfl : (L.take (k + 1)).filter opnKind = (L.take k).filter opnKind ++ (if opnKind o then [o] else []) := by
        rw [htk, List.filter_append]
        congr 1
        by_cases hq : opnKind o = true <;> simp [hq]
      have Hfl := Lib.hid hfl
      have hkc := Hf.out.get Hk.out (fun f => f)
      have q0 : wr.cell? ⟨kb, 0, none⟩ = some (.int .i64 10) := by rw [cellv, hkc]; rfl
      have q1 : wr.cell? ⟨kb, 1, none⟩ = some (.int .i64 11) := by rw [cellv, hkc]; rfl
      have hll : ((L.take k).filter opnKind).length ≤ k := Nat.le_trans (List.length_filter_le _ _) (by rw [List.length_take]; omega)
      have Hll := Lib.hid hll
      clear htk hfl hkc hll ho
      generalize (L.take k).filter opnKind = F at Hown Hfl Hll
      obtain ⟨fa, fn, fc, hfv⟩ := own_slice Hown.out
      subst hfv
      have hk16 : k ≤ 16384 := by have := HL.out; omega
      by_cases h7 : o.k < 7
      · skip
        go_wp2_with fail
        refine wp_loop_rounds 3 ?_
        rw [rounds_succ]
        go_wp2_with fail
        rw [rounds_succ]
        go_wp2_with fail
        rw [rounds_succ]
        have hkk : opnKind o = true := by simp [opnKind, h7]
        rw [hkk, if_pos rfl] at Hfl
        have hoA := Lib.hid (Hown.out.alloc (.cells #[.int .i64 o.k, .int .i64 o.x, .int .i64 o.a, .int .i64 o.b, .string o.s, .string o.t] 112))
        have hnews : ∀ (j : Nat) (u : Value), [Value.int .i64 o.k, Value.int .i64 o.x, Value.int .i64 o.a, Value.int .i64 o.b, Value.string o.s, Value.string o.t][j]? = some u → (wr.alloc (.cells #[.int .i64 o.k, .int .i64 o.x, .int .i64 o.a, .int .i64 o.b, .string o.s, .string o.t] 112)).cell? ((⟨wr.heap.size, 0, none⟩ : Addr).add j) = some u := World.news_of_block (heap_alloc_new wr _)
        have Hnews := Lib.hid hnews
        have hoc : o.cells.toList = [Value.int .i64 o.k, Value.int .i64 o.x, Value.int .i64 o.a, Value.int .i64 o.b, Value.string o.s, Value.string o.t] := rfl
        have Hoc := Lib.hid hoc
        clear hnews hkk hoc
        go_wp2_with (first
          | (at_builtin; refine wpList_append_own _ rfl _ _ 69 rfl w.heap.size 112 i0 (.agg #[.int .i64 0, .int .i64 0, .int .i64 0, .int .i64 0, .string ⟨#[]⟩, .string ⟨#[]⟩]) 6 64 Tryz.underlying69 hi hz0 hz1 hz2 rfl (by decide) _ _ _ rfl hoA.out ⟨wr.heap.size, 0, none⟩ 1 1 [Value.int .i64 o.k, Value.int .i64 o.x, Value.int .i64 o.a, Value.int .i64 o.b, Value.string o.s, Value.string o.t] rfl rfl Hnews.out (by intro u hu; simp at hu; rcases hu with rfl | rfl | rfl | rfl | rfl | rfl <;> rfl) (by have := HL.out; have := Hll.out; have := Hlt.out; unfold maxLen; omega) (by have := HL.out; have := Hll.out; have := Hlt.out; omega) (by have := Hf.out.size; simp; omega) ?_; intro sv' w3 hown3 hg3 _; go_frame)
          | fail)
        go_roundw
        case rel =>
          refine ⟨k + 1, Hlt.out, by go_num, ?_, ?_⟩
          · rw [Hfl.out, List.length_append, opCells_snoc, Hoc.out]
            exact hown3
          · exact (Hf.out.alloc _).trans' (Fr.ofGrown hg3) (fun i hi e => by have := (Hown.out.lt i e).1; omega)
        case measure => have := Hlt.out; simp [intOf]; omega
      by_cases h10 : o.k = 10
      · rw [h10] at c0
        have h10' := Lib.hid h10
        clear h10 h7
        go_wp2_with fail
        refine wp_loop_rounds 3 ?_
        rw [rounds_succ]
        go_wp2_with fail
        rw [rounds_succ]
        go_wp2_with fail
        rw [rounds_succ]
        have h10 := h10'.out
        have hkk : opnKind o = true := by simp [opnKind, h10]
        rw [hkk, if_pos rfl] at Hfl
        have hoA := Lib.hid (Hown.out.alloc (.cells #[.int .i64 10, .int .i64 o.x, .int .i64 o.a, .int .i64 o.b, .string o.s, .string o.t] 112))
        have hnews : ∀ (j : Nat) (u : Value), [Value.int .i64 10, Value.int .i64 o.x, Value.int .i64 o.a, Value.int .i64 o.b, Value.string o.s, Value.string o.t][j]? = some u → (wr.alloc (.cells #[.int .i64 10, .int .i64 o.x, .int .i64 o.a, .int .i64 o.b, .string o.s, .string o.t] 112)).cell? ((⟨wr.heap.size, 0, none⟩ : Addr).add j) = some u := World.news_of_block (heap_alloc_new wr _)
        have Hnews := Lib.hid hnews
        have hoc : o.cells.toList = [Value.int .i64 10, Value.int .i64 o.x, Value.int .i64 o.a, Value.int .i64 o.b, Value.string o.s, Value.string o.t] := by simp [OpM.cells, h10]
        have Hoc := Lib.hid hoc
        clear hnews hkk hoc
        go_wp2_with (first
          | (at_builtin; refine wpList_append_own _ rfl _ _ 69 rfl w.heap.size 112 i0 (.agg #[.int .i64 0, .int .i64 0, .int .i64 0, .int .i64 0, .string ⟨#[]⟩, .string ⟨#[]⟩]) 6 64 Tryz.underlying69 hi hz0 hz1 hz2 rfl (by decide) _ _ _ rfl hoA.out ⟨wr.heap.size, 0, none⟩ 1 1 [Value.int .i64 10, Value.int .i64 o.x, Value.int .i64 o.a, Value.int .i64 o.b, Value.string o.s, Value.string o.t] rfl rfl Hnews.out (by intro u hu; simp at hu; rcases hu with rfl | rfl | rfl | rfl | rfl | rfl <;> rfl) (by have := HL.out; have := Hll.out; have := Hlt.out; unfold maxLen; omega) (by have := HL.out; have := Hll.out; have := Hlt.out; omega) (by have := Hf.out.size; simp; omega) ?_; intro sv' w3 hown3 hg3 _; go_frame)
          | fail)
        go_roundw
        case rel =>
          refine ⟨k + 1, Hlt.out, by go_num, ?_, ?_⟩
          · rw [Hfl.out, List.length_append, opCells_snoc, Hoc.out]
            exact hown3
          · exact (Hf.out.alloc _).trans' (Fr.ofGrown hg3) (fun i hi e => by have := (Hown.out.lt i e).1; omega)
        case measure => have := Hlt.out; simp [intOf]; omega
      by_cases h11 : o.k = 11
      · rw [h11] at c0
        have h11' := Lib.hid h11
        clear h11 h10 h7
        go_wp2_with fail
        refine wp_loop_rounds 3 ?_
        rw [rounds_succ]
        go_wp2_with fail
        rw [rounds_succ]
        go_wp2_with fail
        rw [rounds_succ]
        have h11 := h11'.out
        have hkk : opnKind o = true := by simp [opnKind, h11]
        rw [hkk, if_pos rfl] at Hfl
        have hoA := Lib.hid (Hown.out.alloc (.cells #[.int .i64 11, .int .i64 o.x, .int .i64 o.a, .int .i64 o.b, .string o.s, .string o.t] 112))
        have hnews : ∀ (j : Nat) (u : Value), [Value.int .i64 11, Value.int .i64 o.x, Value.int .i64 o.a, Value.int .i64 o.b, Value.string o.s, Value.string o.t][j]? = some u → (wr.alloc (.cells #[.int .i64 11, .int .i64 o.x, .int .i64 o.a, .int .i64 o.b, .string o.s, .string o.t] 112)).cell? ((⟨wr.heap.size, 0, none⟩ : Addr).add j) = some u := World.news_of_block (heap_alloc_new wr _)
        have Hnews := Lib.hid hnews
        have hoc : o.cells.toList = [Value.int .i64 11, Value.int .i64 o.x, Value.int .i64 o.a, Value.int .i64 o.b, Value.string o.s, Value.string o.t] := by simp [OpM.cells, h11]
        have Hoc := Lib.hid hoc
        clear hnews hkk hoc
        go_wp2_with (first
          | (at_builtin; refine wpList_append_own _ rfl _ _ 69 rfl w.heap.size 112 i0 (.agg #[.int .i64 0, .int .i64 0, .int .i64 0, .int .i64 0, .string ⟨#[]⟩, .string ⟨#[]⟩]) 6 64 Tryz.underlying69 hi hz0 hz1 hz2 rfl (by decide) _ _ _ rfl hoA.out ⟨wr.heap.size, 0, none⟩ 1 1 [Value.int .i64 11, Value.int .i64 o.x, Value.int .i64 o.a, Value.int .i64 o.b, Value.string o.s, Value.string o.t] rfl rfl Hnews.out (by intro u hu; simp at hu; rcases hu with rfl | rfl | rfl | rfl | rfl | rfl <;> rfl) (by have := HL.out; have := Hll.out; have := Hlt.out; unfold maxLen; omega) (by have := HL.out; have := Hll.out; have := Hlt.out; omega) (by have := Hf.out.size; simp; omega) ?_; intro sv' w3 hown3 hg3 _; go_frame)
          | fail)
        go_roundw
        case rel =>
          refine ⟨k + 1, Hlt.out, by go_num, ?_, ?_⟩
          · rw [Hfl.out, List.length_append, opCells_snoc, Hoc.out]
            exact hown3
          · exact (Hf.out.alloc _).trans' (Fr.ofGrown hg3) (fun i hi e => by have := (Hown.out.lt i e).1; omega)
        case measure => have := Hlt.out; simp [intOf]; omega
      · have hk1 : (o.k == 10) = false := by simpa using h10
        have hk2 : (o.k == 11) = false := by simpa using h11
        have hkk : opnKind o = false := by simp [opnKind, h7, h10, h11]
        rw [hkk] at Hfl
        have Hkk := Lib.hid hkk
        clear hkk
        go_wp2_with fail
        refine wp_loop_rounds 3 ?_
        rw [rounds_succ]
        go_wp2_with fail
        rw [rounds_succ]
        go_wp2_with fail
        rw [rounds_succ]
        go_wp2_with fail
        go_roundw
        case rel =>
          refine ⟨k + 1, Hlt.out, by go_num, ?_, Hf.out⟩
          have h2 := Hfl.out
          rw [if_neg (by decide), List.append_nil] at h2
          rw [h2]; exact Hown.out
        case measure => have := Hlt.out; simp [intOf]; omega
    · obtain rfl : k = L.length := by omega
      have hkI : ¬ ((L.length : Int) < L.length) := by omega
      rw [List.take_length] at Hown
      have hU := upTo_calls (L := L.filter opnKind) (scr_own Hown.out) (Nat.le_trans (List.length_filter_le _ _) HL.out) (fun o ho => by
        obtain ⟨h1, h2⟩ := List.mem_filter.1 ho
        refine ⟨Hop.out o h1, ?_⟩
        simp [opnKind] at h2; exact h2) (Hg.out.new Hf.out) (Nat.lt_of_lt_of_le H0.out Hf.out.size)
      have HU := Lib.hid hU
      clear hU
      go_wp2_with (first
        | (go_at_call 37; refine Calls.mono HU.out ?_; rintro e w3 ⟨rfl, hl3⟩)
        | fail)
      go_ret
      exact ⟨rfl, (Hf.out.low (Nat.le_refl _) (fun _ f => f.elim)).trans (hl3.le Hf.out.size)⟩
set_option maxRecDepth 100000 in
set_option maxHeartbeats 4000000 in
theorem Opens_calls {w : World} {v : Value} {L : List OpM} (h : ScrIn w v L) (hL : L.length ≤ maxLen) (hop : ∀ o ∈ L, o.ok) (hg : Handle w) (h0 : 0 < w.heap.size) :
    Calls Tryz.prog 9 #[v] w fun e w' => e = .returned (.bool true) ∧ Low w.heap.size w w' := by
  obtain ⟨a, c, rfl⟩ := h.shape
  have hN1 : New w (w.alloc (.cells #[.int .i64 10, .int .i64 11] 3)) := (Fr.refl _ w).alloc _
  have hl1 := hN1.low (Nat.le_refl w.heap.size) (fun _ f => f.elim)
  have HP := Lib.hid (plays_opens (h.low hl1) hL hop (heap_alloc_new w _) (hg.new hN1) (Nat.lt_of_lt_of_le h0 hN1.size))
  have HL1 := Lib.hid hl1
  have Hs := Lib.hid hN1.size
  clear h hop hg h0 hN1 hl1 hL
  go_enter Tryz.func9, Tryz.ntmps9
  go_wp2_with (first
    | (go_at_call 35; refine Calls.mono HP.out ?_; rintro e w2 ⟨rfl, hl2⟩)
    | fail)
  go_ret
  exact ⟨rfl, HL1.out.trans (hl2.le Hs.out)⟩
end Go.Proofs.YtkafmfdipmhleaaGreatDoor

namespace Go.Proofs.YtkafmfdipmhleaaGreatDoor
open Go.ChangeShapes Go.WideShapes Go.RowKit

theorem Tryz.own : ownKnob Tryz.prog.godebug = none := by kernel_rfl
/-- A world that meets the condition: the settled one, the variable's cell laid. -/
noncomputable def laidWorld (os : Os) : World :=
  let w0 := World.holding Tryz.prog os ⟨#[], #[], []⟩
  { w0 with heap := w0.heap.modify 0 fun
      | .cells _ t frozen => .cells #[.iface 176 (.agg #[.pointer (some ⟨1, 32, none⟩)])] t frozen
      | o => o }
theorem laidWorld_met (os : Os) (args : Array Value) : laidMetH Tryz.prog [("errors.errorType", Rows.laid_errors_errorType)] ((laidWorld os).forCall (fun _ _ => 0) ⟨#[], args, []⟩).memory :=
  laidMetH_of_parts (laidMet_nil _ _) (by kernel_rfl)
theorem Tryz.et : Tryz.prog.globalNamed "errors.errorType" = some 0 := by kernel_rfl
theorem Tryz.rt : (Tryz.prog.cutTypes.find? (·.1 == "internal/reflectlite.rtype")).map (·.2) = some 176 := by kernel_rfl
set_option maxRecDepth 1000000 in
theorem Tryz.oneRow : ((List.range Tryz.prog.types.size).filter fun t => Tryz.prog.rowNamed t [101, 114, 114, 111, 114]) = [32] := by kernel_rfl
/-- What the condition gives a walk: the variable's one cell. -/
theorem handle_of_laid {W : World} (h : laidMetH Tryz.prog [("errors.errorType", Rows.laid_errors_errorType)] W) : W.cell? ⟨0, 0, none⟩ = some (.iface 176 (.agg #[.pointer (some ⟨1, 32, none⟩)])) := by
  have h' : laidMet Tryz.prog [] W ∧ handlesMet Tryz.prog [("errors.errorType", Rows.laid_errors_errorType)] W := h
  obtain ⟨name, u, ty, e1, e2, e3, e4, e5⟩ := h'.2 _ (List.mem_singleton.2 rfl)
  have en : name = [101, 114, 114, 111, 114] := (Option.some.inj e1).symm
  subst en
  obtain rfl := Option.some.inj (Tryz.rt.symm.trans e2)
  have hm : ty ∈ (List.range Tryz.prog.types.size).filter fun t => Tryz.prog.rowNamed t [101, 114, 114, 111, 114] := List.mem_filter.2 ⟨List.mem_range.2 e3, e4⟩
  rw [Tryz.oneRow] at hm
  obtain rfl := List.mem_singleton.1 hm
  have hh : typeHandle Tryz.prog 32 = .pointer (some ⟨1, 32, none⟩) := by kernel_rfl
  rw [hh] at e5
  simpa using World.var?_cell Tryz.et e5 0
end Go.Proofs.YtkafmfdipmhleaaGreatDoor

namespace Go.Proofs.YtkafmfdipmhleaaGreatDoor
open Go.ChangeShapes Go.WideShapes Go.RowKit

theorem cells112 : Tryz.prog.cellsOf 112 = 6 := by kernel_rfl
theorem cells3o : Tryz.prog.cellsOf 3 = 1 := by kernel_rfl
theorem cells9o : Tryz.prog.cellsOf 9 = 1 := by kernel_rfl
theorem list_all {α : Type} {P : Nat → α → Prop} (n : Nat) (h : ∀ i, i < n → ∃ o, P i o) : ∃ L : List α, L.length = n ∧ ∀ (i : Nat) (o : α), L[i]? = some o → P i o := by
  induction n with
  | zero => exact ⟨[], rfl, fun i o ho => by simp at ho⟩
  | succ n ih =>
    obtain ⟨L, h1, h2⟩ := ih (fun i hi => h i (by omega))
    obtain ⟨o, ho⟩ := h n (by omega)
    refine ⟨L ++ [o], by simp [h1], fun i x hx => ?_⟩
    by_cases hi : i < L.length
    · rw [List.getElem?_append_left hi] at hx; exact h2 i x hx
    · have : i = n := by
        have := (List.getElem?_eq_some_iff.1 hx).1
        simp at this; omega
      subst this
      rw [List.getElem?_append_right (by omega), h1] at hx
      simp at hx; subst hx; exact ho
theorem six_of {α : Type} {cs : List α} (h : cs.length = 6) : ∃ v0 v1 v2 v3 v4 v5, cs = [v0, v1, v2, v3, v4, v5] := by
  match cs, h with
  | [v0, v1, v2, v3, v4, v5], _ => exact ⟨v0, v1, v2, v3, v4, v5, rfl⟩
/-- A step that came in. -/
theorem open_op {H : Type} {enc : TypeId × Value → H} {W : World} {base : Nat} {sp : Nat → Bool} {held : Bool} {fuel : Nat} {cs : List Value} {y : DataW H × List MemPlace} (h : DataW.trod enc Tryz.prog W base sp held fuel 112 cs = some y) : ∃ o : OpM, o.ok ∧ cs = o.cells.toList := by
  obtain ⟨xs, n, _, _, hl, hlen, hf⟩ := DataW.trod_struct Tryz.underlying112 h
  rw [cells112] at hl
  have hxl : xs.length = 6 := hlen
  obtain ⟨v0, v1, v2, v3, v4, v5, rfl⟩ := six_of hl
  have hint : ∀ (i : Nat) (f : Field) (v : Value), (#[{ name := "Kind", type := 3, offset := 0, embedded := false, tag := "", pkgPath := "", byteOffset := 0 }, { name := "X", type := 3, offset := 1, embedded := false, tag := "", pkgPath := "", byteOffset := 8 }, { name := "A", type := 3, offset := 2, embedded := false, tag := "", pkgPath := "", byteOffset := 16 }, { name := "B", type := 3, offset := 3, embedded := false, tag := "", pkgPath := "", byteOffset := 24 }, { name := "S", type := 9, offset := 4, embedded := false, tag := "", pkgPath := "", byteOffset := 32 }, { name := "T", type := 9, offset := 5, embedded := false, tag := "", pkgPath := "", byteOffset := 48 }] : Array Field)[i]? = some f → f.type = 3 → ([v0, v1, v2, v3, v4, v5].drop f.offset).take 1 = [v] → ∃ z, v = .int .i64 z ∧ i64 z := by
    intro i f v hfi ht hv
    have h1 := hf i f hfi
    have hi : i < 6 := (Array.getElem?_eq_some_iff.1 hfi).1
    rw [ht, cells3o, hv, List.getElem?_eq_getElem (by omega)] at h1
    obtain ⟨z, hz, _, hw⟩ := DataW.trod_int Tryz.underlying3 h1
    exact ⟨z, by simpa using hz, by simp [Lit.wf] at hw; exact hw⟩
  have hstr : ∀ (i : Nat) (f : Field) (v : Value), (#[{ name := "Kind", type := 3, offset := 0, embedded := false, tag := "", pkgPath := "", byteOffset := 0 }, { name := "X", type := 3, offset := 1, embedded := false, tag := "", pkgPath := "", byteOffset := 8 }, { name := "A", type := 3, offset := 2, embedded := false, tag := "", pkgPath := "", byteOffset := 16 }, { name := "B", type := 3, offset := 3, embedded := false, tag := "", pkgPath := "", byteOffset := 24 }, { name := "S", type := 9, offset := 4, embedded := false, tag := "", pkgPath := "", byteOffset := 32 }, { name := "T", type := 9, offset := 5, embedded := false, tag := "", pkgPath := "", byteOffset := 48 }] : Array Field)[i]? = some f → f.type = 9 → ([v0, v1, v2, v3, v4, v5].drop f.offset).take 1 = [v] → ∃ z, v = .string z := by
    intro i f v hfi ht hv
    have h1 := hf i f hfi
    have hi : i < 6 := (Array.getElem?_eq_some_iff.1 hfi).1
    rw [ht, cells9o, hv, List.getElem?_eq_getElem (by omega)] at h1
    obtain ⟨z, hz, _, _⟩ := DataW.trod_string Tryz.underlying9 h1
    exact ⟨z, by simpa using hz⟩
  obtain ⟨z0, rfl, w0⟩ := hint 0 _ v0 rfl rfl rfl
  obtain ⟨z1, rfl, w1⟩ := hint 1 _ v1 rfl rfl rfl
  obtain ⟨z2, rfl, w2⟩ := hint 2 _ v2 rfl rfl rfl
  obtain ⟨z3, rfl, w3⟩ := hint 3 _ v3 rfl rfl rfl
  obtain ⟨z4, rfl⟩ := hstr 4 _ v4 rfl rfl rfl
  obtain ⟨z5, rfl⟩ := hstr 5 _ v5 rfl rfl rfl
  exact ⟨⟨z0, z1, z2, z3, z4, z5⟩, ⟨w0, w1, w2, w3⟩, rfl⟩
/-- A script that came in. -/
theorem script_open {H : Type} {enc : TypeId × Value → H} {W : World} {base : Nat} {a : Option Addr} {len cap : Nat} {d : DataW H} {p : List MemPlace} {sp : Nat → Bool} {held : Bool} (h : DataW.Trod enc Tryz.prog W base sp held 69 (.slice a len cap) d p) : ∃ L, ScrIn W (.slice a len cap) L ∧ L.length ≤ maxLen ∧ ∀ o ∈ L, o.ok := by
  obtain ⟨fuel, hf⟩ := h
  rcases DataW.trod_slice Tryz.underlying69 hf with ⟨hcs, _⟩ | ⟨ad, len', cap', elems, rest, n, _, hcs, _, hb, hl, hm, hlen, hel, _, _⟩
  · simp [Value.cells] at hcs
    obtain ⟨rfl, rfl, rfl⟩ := hcs
    exact ⟨[], .inl ⟨rfl, none, 0, rfl⟩, Nat.zero_le _, fun o ho => by simp at ho⟩
  · simp [Value.cells] at hcs
    obtain ⟨rfl, rfl, rfl⟩ := hcs
    have hone : ∀ i, i < len → ∃ o : OpM, o.ok ∧ ∀ j u, o.cells[j]? = some u → W.cell? (ad.add (i * 6 + j)) = some u := by
      intro i hi
      have h1 := hel i hi
      rw [cells112, List.getElem?_eq_getElem (by omega), Option.bind_eq_some_iff] at h1
      obtain ⟨cs, hcs, hy⟩ := h1
      obtain ⟨o, hok, rfl⟩ := open_op hy
      obtain ⟨_, _, hc⟩ := World.cells?_some hcs
      refine ⟨o, hok, fun j u hu => ?_⟩
      have hj : j < 6 := (Array.getElem?_eq_some_iff.1 hu).1
      have h2 := hc j hj
      rw [show ad.add (i * 6 + j) = (ad.add (i * 6)).add j from (Addr.add_add _ _ _).symm]
      rw [h2]; simpa using hu
    obtain ⟨L, hL, hLo⟩ := list_all len hone
    refine ⟨L, ?_, by omega, fun o ho => ?_⟩
    · by_cases h0 : len = 0
      · exact .inl ⟨List.length_eq_zero_iff.1 (by omega), some ad, cap, by rw [h0]⟩
      · obtain ⟨b, off, spot⟩ := ad
        obtain ⟨o0, ho0⟩ : ∃ o0, L[0]? = some o0 := ⟨L[0], List.getElem?_eq_getElem (by omega)⟩
        have hspot : spot = none := by simpa [Addr.add] using World.cell?_spot ((hLo 0 o0 ho0).2 0 _ rfl)
        subst hspot
        refine .inr ⟨b, off, cap, by rw [hL], fun i o ho j u hu => ?_⟩
        have := (hLo i o ho).2 j u hu
        rw [add_plain] at this
        rw [Nat.add_assoc]; exact this
    · obtain ⟨i, hi⟩ := List.getElem?_of_mem ho
      exact (hLo i o hi).1
set_option maxRecDepth 100000 in
theorem opens_lifted (os : Os) (started : os.Started) (H : Type) (enc : TypeId × Value → H) :
    ReturnsInHanded {} Tryz.checked os 9 .any (fun w args => (Rows.opensSpec.pre enc Tryz.prog Tryz.f9 [] false w args ∧ laidMetH Tryz.prog [("errors.errorType", Rows.laid_errors_errorType)] w) ∧ sizedMet enc Tryz.prog Tryz.f9 (OpenSpec.ofChange Rows.opensSpec) false w args)
      (Rows.opensSpec.post enc Tryz.prog Tryz.f9 false true false false) := by
  refine returnsInHanded_of_change_and (C := Tryz.checked) (X := fun w _ => laidMetH Tryz.prog [("errors.errorType", Rows.laid_errors_errorType)] w) (fun _ _ _ hh h => h.of_heap hh) Tryz.own started (by kernel_rfl) Tryz.func9
    (ChangeSpec.witness_at (enc := enc) (C := Tryz.checked) (os := os) (X := fun w _ => laidMetH Tryz.prog [("errors.errorType", Rows.laid_errors_errorType)] w) false (laidWorld os) #[.slice none 0 0] 9 rfl (by kernel_rfl) (by kernel_rfl) (by kernel_rfl) (by kernel_rfl) (by kernel_rfl) (laidWorld_met os _)) ?_
  intro W base args ds gs before hval0 hW _ _ hL _
  have hval : ∀ (j : Nat) t v, Tryz.f9.params[j]? = some t → args[j]? = some v → Value.okWide Tryz.prog W .any base t v := hval0
  have hW' := hW
  obtain ⟨p, q, hA0, hV0, rfl, hfz, hnd⟩ := hW
  have hA : DataW.TrodAll enc Tryz.prog W 0 (fun _ => true) true Tryz.f9.params.toList args.toList ds p := hA0
  have hV : DataW.TrodVars enc Tryz.prog W (fun _ => true) [] gs q := hV0
  rw [Tryz.params9] at hA hval
  obtain ⟨v0, d0, rfl, rfl, h0⟩ := trodAll_one hA
  obtain ⟨a, len, cap, rfl⟩ := okWide_slice Tryz.underlying69 (hval 0 69 v0 rfl rfl)
  obtain ⟨L, hscr, hLm, hops⟩ := script_open h0
  obtain ⟨rfl, rfl⟩ : gs = [] ∧ q = [] := by
    cases gs with
    | nil => exact ⟨rfl, hV⟩
    | cons g r => exact absurd hV (by intro h; cases h)
  have e1 : Rows.opensSpec.fn H ([d0] ++ []) = { results := [.lit (.bool true)], args := [d0] } := rfl
  have hlt : ∀ x ∈ p, x.block < W.heap.size := fun x hx => hW'.lt x (by simp [hx])
  refine (Opens_calls hscr hLm hops (handle_of_laid hL) (by have := World.block_lt_of_cell? W _ (handle_of_laid hL); exact this)).mono fun e W' ⟨he, hlow⟩ => ?_
  subst he
  have hb := hlow.below
  refine ⟨_, rfl, _, _, _, [], p, [], hW', ?_, ?_, ?_, hb.frame _, fun h => by cases h⟩
  · rw [e1]; exact trodAll_mk1 (shut_bool Tryz.underlying4 true)
  · rw [e1]; exact trodAll_mk1 (Below.trod (by kernel_rfl) (by kernel_rfl) (of_decide_eq_true (by kernel_rfl)) h0 hb hlt)
  · rw [e1]; rfl

theorem opens_said : Rows.OpensSaid :=
  OpenClaim.holds_of_wide 9 Tryz.f9 rfl rfl rfl rfl rfl rfl rfl ⟨rfl, rfl, rfl, rfl, rfl⟩ rfl rfl rfl rfl rfl (by kernel_rfl) Tryz.func9 (by kernel_rfl)
    (of_decide_eq_true (by kernel_rfl)) (by unfold Func.isWrapper; rw [if_neg (of_decide_eq_false (by kernel_rfl))]; exact ⟨rfl, rfl⟩)
    (fun os started H enc _ => opens_lifted os started H enc)
/-- The given statement, tied to the program's text. -/
theorem opens_holds : Rows.OpensCardSaid :=
  Claim7.holds_tied_plain_at .later [] [.handle] true (true, "500ca5754671a5e02e1cafc7ae1f070d50fdff4f9b7bc823d05bb60165e94295") true
    opens_said (fun _ h => by cases h) (by kernel_rfl) (fun _ h => by cases h) opens_row_tie rfl ⟨rfl, rfl⟩ (by kernel_rfl) rfl
    (fun f fn hf hfn => by
      obtain rfl : f = 9 := Option.some.inj ((show Tryz.prog.funcNamed "sagas/sagaslaw.Opens" = some 9 by kernel_rfl).symm.trans hf) |>.symm
      obtain rfl : fn = Tryz.f9 := (Option.some.inj (Tryz.func9.symm.trans hfn)).symm
      exact ⟨by kernel_rfl, fun j t ht => by
        rw [Tryz.params9] at ht
        have hm : t ∈ [69] := by simpa using Array.mem_of_getElem? ht
        have hall : ([69].all fun u => !Tryz.prog.wantsStandIn u) = true := by kernel_rfl
        exact (show Tryz.prog.wantsStandIn t = false by simpa using List.all_eq_true.1 hall t hm)⟩)
    (by kernel_rfl)
#print axioms opens_holds
end Go.Proofs.YtkafmfdipmhleaaGreatDoor
