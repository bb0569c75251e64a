/-
  What is proved: contracts of Same, Clone, New, Whole.
-/
import Derived.Test.YtkafmfdipmhleaaGreatDoorSga
import Derived.Test.YtkafmfdipmhleaaGreatDoorPrs
import Derived.Lib.SliceRun
import Derived.Laws.StructEq
namespace Go.Proofs.YtkafmfdipmhleaaGreatDoor
open Go.RowKit

/-- Two steps at a place. -/
theorem StepsAt.get {w : World} {l : List (ByteArray × ByteArray)} {b off : Nat} {c : Array Value} (h2 : w.heap[b]? = some (.cells c 54 (0, 0))) (h3 : ∀ j, j < 2 * l.length → c[off + j]? = (stepCells l)[j]?) (k : Nat) (hk : k < l.length) :
    cellOf w.heap[b]? (off + k * 2) = some (.string l[k].1) ∧ cellOf w.heap[b]? (off + k * 2 + 1) = some (.string l[k].2) := by
  obtain ⟨x0, x1⟩ := stepCells_get l k hk
  have c0 := h3 (k * 2) (by omega)
  have c1 := h3 (k * 2 + 1) (by omega)
  rw [x0] at c0
  rw [x1] at c1
  rw [h2]
  exact ⟨c0, c1⟩
theorem ba_toList (a b : ByteArray) : a.toList = b.toList ↔ a = b := by
  rw [ByteArray.toList_eq, ByteArray.toList_eq]
  obtain ⟨⟨x⟩⟩ := a
  obtain ⟨⟨y⟩⟩ := b
  simp
theorem ba_beq (a b : ByteArray) : (a == b) = decide (a = b) := by
  rw [beq_toListBytes]
  by_cases h : a = b
  · subst h; simp
  · have : ¬ a.toList = b.toList := fun e => h ((ba_toList a b).1 e)
    simp [h, this]
theorem Tryz.guard54 : Tryz.prog.eqGuardType Tryz.prog.depth 54 = false := by kernel_rfl
theorem eq54 (a b c d : ByteArray) (w : World) : (Op.equalIn 10000 54 (.agg #[.string a, .string b]) (.agg #[.string c, .string d])).run Tryz.prog w = .ok (a == c && b == d) w := by
  have hS : Tryz.prog.underlying 54 = some (.struct (Tryz.prog.fieldsOf 54)) := by kernel_rfl
  have hp : Tryz.prog.stoodInHeld 54 = false := by kernel_rfl
  have u9 := Tryz.underlying9
  rw [show (10000 : Nat) = 9999 + 1 from rfl, run_equalIn_agg w 9999 54 _ _ hS hp]
  simp only [Program.fieldsOf, Tryz.underlying54]
  go_simp
  simp only [ba_toList, ba_beq]
  by_cases h1 : a = c <;> by_cases h2 : b = d <;> simp [h1, h2]
theorem Tryz.info54s : (Tryz.prog.info? 54).map (·.size) = some 2 := by kernel_rfl

set_option maxRecDepth 100000 in
set_option maxHeartbeats 2000000 in
theorem Same_calls {w : World} {sb : Nat} {s : SagaM} (h : SagaAt w sb s) (l : List (ByteArray × ByteArray)) (v : Value) (hv : StepsAt w v l) (hl : l.length ≤ 1000) (hs : s.steps.length ≤ 1000) :
    Calls Tryz.prog 42 #[.pointer (some ⟨sb, 0, none⟩), v] w fun e w' => e = .returned (.bool (decide (l = s.steps))) ∧ ∃ n, w' = w.drewN n := by
  obtain ⟨sv, h1, b, off, cap, c, rfl, h2, h3⟩ := h
  obtain ⟨b', off', cap', c', rfl, h2', h3'⟩ := hv
  obtain ⟨id, st, step, tries, due, steps⟩ := s
  simp only at h3 hs
  simp only [sgCells] at h1
  have hcv := cellv w
  have hw := Lib.hid (rfl : w = w)
  by_cases hlen : l.length = steps.length
  · have hne : ((l.length : Int) != steps.length) = false := by simp; omega
    have G := Lib.hid (StepsAt.get h2 h3)
    have G' := Lib.hid (StepsAt.get h2' h3')
    have Hlen := Lib.hid hlen
    clear h3 h3' h2 h2' hlen
    go_enter Tryz.func42, Tryz.ntmps42
    go_wp2_with fail
    go_loopw [16] (fun i wr => ∃ k : Nat, k ≤ l.length ∧ i = .int .i64 k ∧ l.take k = steps.take k ∧ ∃ n, wr = w.drewN n) (fun i _ => l.length - (intOf i).toNat)
    case atStart => exact ⟨0, Nat.zero_le _, rfl, rfl, 0, rfl⟩
    case round =>
      obtain ⟨k, hk, rfl, htk, nd, rfl⟩ := hrel
      have Htk := Lib.hid htk
      clear htk
      by_cases hlt : k < l.length
      · obtain ⟨x0, x1⟩ := G'.out k hlt
        obtain ⟨y0, y1⟩ := G.out k (by rw [← Hlen.out]; exact hlt)
        have hltI : (k : Int) < l.length := by omega
        have hltS : (k : Int) < steps.length := by have := Hlen.out; omega
        have hk0 : (0 : Int) ≤ k := by omega
        rw [← cellv] at x0 x1 y0 y1
        have a6 : w.cell? ⟨sb, 6, none⟩ = some (.slice (some ⟨b, off, none⟩) steps.length cap) := by rw [cellv, h1]; rfl
        clear hcv h1
        have hg54 := Tryz.guard54
        have he54 := eq54
        go_wp2_with fail
        go_quiet (fail)
        clear x0 x1 y0 y1 a6 hg54 he54
        have hsn1 : l.take (k + 1) = l.take k ++ [l[k]] := List.take_succ_eq_append_getElem hlt
        have hsn2 : steps.take (k + 1) = steps.take k ++ [steps[k]'(by have := Hlen.out; omega)] := List.take_succ_eq_append_getElem _
        have Hsn1 := Lib.hid hsn1
        have Hsn2 := Lib.hid hsn2
        clear hsn1 hsn2
        by_cases he : l[k] = steps[k]'(by have := Hlen.out; omega)
        · have He := Lib.hid he
          have q : (!(l[k].fst == (steps[k]'(by have := Hlen.out; omega)).fst) || !(l[k].snd == (steps[k]'(by have := Hlen.out; omega)).snd)) = false := by rw [he, ba_beq, ba_beq]; simp
          rw [q]
          clear he q
          go_wp2_with fail
          go_roundw
          case rel => exact ⟨k + 1, by omega, by go_num, by rw [Hsn1.out, Hsn2.out, Htk.out, He.out], _, rfl⟩
          case measure => simp [intOf]; omega
        · have hd : Hid (decide (l = steps) = false) := by
            show _ = _
            simp only [decide_eq_false_iff_not]
            rintro rfl
            exact he rfl
          have q : (!(l[k].fst == (steps[k]'(by have := Hlen.out; omega)).fst) || !(l[k].snd == (steps[k]'(by have := Hlen.out; omega)).snd)) = true := by
            rw [Bool.or_eq_true]
            by_cases h1 : l[k].fst = (steps[k]'(by have := Hlen.out; omega)).fst
            · right
              by_cases h2 : l[k].snd = (steps[k]'(by have := Hlen.out; omega)).snd
              · exact absurd (Prod.ext h1 h2) he
              · rw [ba_beq]; simp [h2]
            · left; rw [ba_beq]; simp [h1]
          clear he
          rw [q]
          clear q
          go_wp2_with fail
          go_ret
          exact ⟨by rw [hd.out]; rfl, nd + nq, by simp⟩
      · have hkl : k = l.length := by omega
        have hd : Hid (decide (l = steps) = true) := by
          show _ = _
          have h1 := Htk.out
          rw [hkl, List.take_length, Hlen.out, List.take_length] at h1
          simp [h1]
        clear hkl
        go_wp2_with fail
        go_ret
        exact ⟨by rw [hd.out]; rfl, _, rfl⟩
  · have hne : ((l.length : Int) != steps.length) = true := by simp; omega
    have Hd : Hid (decide (l = steps) = false) := by show _ = _; simp; intro e; exact hlen (by rw [e])
    clear h3 h3' h2 h2'
    go_enter Tryz.func42, Tryz.ntmps42
    go_wp2_with fail
    go_ret
    exact ⟨by rw [Hd.out]; rfl, 0, rfl⟩

theorem stepCells_length (l : List (ByteArray × ByteArray)) : (stepCells l).length = l.length * 2 := by
  induction l with
  | nil => rfl
  | cons a l ih => simp [stepCells] at ih ⊢; omega
theorem stepCells_one (l : List (ByteArray × ByteArray)) : ∀ u ∈ stepCells l, u.oneCell' = true := by
  intro u hu
  simp only [stepCells, List.mem_flatMap] at hu
  obtain ⟨s, _, hs⟩ := hu
  simp at hs
  rcases hs with rfl | rfl <;> rfl
/-- What an own slice of steps is good for. -/
theorem StepsVal.at {w : World} {B : Nat} {v : Value} {l : List (ByteArray × ByteArray)} (h : StepsVal w B v l) (hl : 1 ≤ l.length) : StepsAt w v l := by
  obtain ⟨h1, h2⟩ := h
  rcases h2 with ⟨_, h0⟩ | ⟨g, cap, cur, hv, hg, hh, _, _, _, htk⟩
  · omega
  · refine ⟨g, 0, cap, cur, hv, hh, fun j hj => ?_⟩
    rw [Nat.zero_add, ← htk, List.getElem?_take_of_lt (by omega)]
    simp
set_option maxRecDepth 100000 in
set_option maxHeartbeats 2000000 in
theorem Clone_calls {w : World} (l : List (ByteArray × ByteArray)) (v : Value) (hv : StepsAt w v l) (hl : 1 ≤ l.length ∧ l.length ≤ 1000) :
    Calls Tryz.prog 64 #[v] w fun e w' => ∃ v', e = .returned v' ∧ StepsAt w' v' l ∧ New w w' := by
  obtain ⟨b, off, cap, c, rfl, h2, h3⟩ := hv
  obtain ⟨i0, hi, hz0, hz1, hz2⟩ := info_parts Tryz.info54
  have q34 : ∀ (w : World) (a : Option Addr) (n c n' c' : Nat), (binOp .eql 34 (.slice a n c) (.slice none n' c')).run Tryz.prog w = .ok (.bool a.isNone) w := fun w a n c n' c' => Lib.run_eql_slice_nil w _ _ a n c n' c' Tryz.underlying34
  have A := Lib.hid h3
  have H2 := Lib.hid h2
  clear h2 h3
  go_enter Tryz.func64, Tryz.ntmps64
  go_wp2_with (at_builtin; refine wpList_append_own _ rfl _ _ 34 rfl w.heap.size 54 i0 (.agg #[.string ⟨#[]⟩, .string ⟨#[]⟩]) 2 32 Tryz.underlying34 hi hz0 hz1 hz2 rfl (by decide) _ _ _ rfl (World.ownsRow_made w #[] 0 (Nat.le_refl _) (Nat.zero_le _) (by simp)) ⟨b, off, none⟩ l.length cap (stepCells l) rfl ?qc1 ?qc2 ?qc3 ?qc4 ?qc5 ?qc6 ?_)
  case qc1 => exact stepCells_length l
  case qc2 =>
    intro j u hj
    rw [Addr.add_lit]
    have hjl : j < 2 * l.length := by
      have := (List.getElem?_eq_some_iff.1 hj).1
      rw [stepCells_length] at this
      omega
    refine Lib.cell?_alloc_some _ ?_
    rw [cellv, H2.out, cellOf_cells, A.out j hjl]
    exact hj
  case qc3 => exact stepCells_one l
  case qc4 => rw [Nat.zero_add]; unfold maxLen; omega
  case qc5 => rw [Nat.zero_add]; omega
  case qc6 => simp
  intro v' w1 hown hgrow hnil
  go_wp2
  go_ret
  refine ⟨v', rfl, StepsVal.at (B := w.heap.size) hown hl.1, ?_⟩
  exact ((Fr.refl _ w).alloc _).trans' (Fr.ofGrown hgrow) (by
    intro i hi he
    simp only [Value.ownBlock, Option.some.injEq] at he
    omega)

theorem StepsAt.shape {w : World} {v : Value} {l : List (ByteArray × ByteArray)} (h : StepsAt w v l) : ∃ a n c, v = .slice a n c := by
  obtain ⟨_, _, _, _, e, _⟩ := h
  exact ⟨_, _, _, e⟩
def SagaM.new (id : Int) (l : List (ByteArray × ByteArray)) : SagaM := ⟨id, 1, 1, 0, 0, l⟩
def NewPost (w : World) (s : SagaM) (e : Ending) (w' : World) : Prop := ∃ sb, w.heap.size ≤ sb ∧ e = .returned (.pointer (some ⟨sb, 0, none⟩)) ∧ SagaAt w' sb s ∧ New w w'
set_option maxRecDepth 100000 in
set_option maxHeartbeats 2000000 in
theorem New_calls {w : World} (id : Int) (l : List (ByteArray × ByteArray)) (v : Value) (hv : StepsAt w v l) (hl : 1 ≤ l.length ∧ l.length ≤ 1000) :
    Calls Tryz.prog 43 #[.int .i64 id, v] w (NewPost w (SagaM.new id l)) := by
  have hc := Clone_calls l v hv hl
  have hvs : ∃ a n c, v = .slice a n c ∧ n = l.length := by
    obtain ⟨b, off, cap, _, e, _⟩ := hv
    exact ⟨_, _, _, e, rfl⟩
  obtain ⟨a, n, cp, rfl, hn⟩ := hvs
  have Hn := Lib.hid hn
  have Hc := Lib.hid hc
  clear hv hl hn hc
  go_enter Tryz.func43, Tryz.ntmps43
  go_wp2_with (first
    | (go_at_call 64; refine Calls.mono Hc.out ?_; rintro e w1 ⟨v', rfl, hs1, hf1⟩; obtain ⟨va, vn, vc, rfl⟩ := hs1.shape)
    | fail)
  go_ret
  refine ⟨w1.heap.size, hf1.size, rfl, ⟨.slice va vn vc, ?_, hs1.frame (S := fun _ => False) ((Fr.refl _ _).alloc _) (fun _ f => f.elim)⟩, hf1.alloc _⟩
  rw [← Hn.out.symm]
  exact heap_alloc_new w1 _

/-- A slice of steps that may be empty. -/
def SlAt (w : World) (v : Value) (l : List (ByteArray × ByteArray)) : Prop := (l = [] ∧ ∃ a c, v = .slice a 0 c) ∨ StepsAt w v l
def longB (s : ByteArray × ByteArray) : Bool := decide (8 < s.1.size) || decide (8 < s.2.size)
set_option maxHeartbeats 1000000 in
theorem long_calls (w : World) (a b : ByteArray) : Calls Tryz.prog 62 #[.agg #[.string a, .string b]] w fun e w' => e = .returned (.bool (longB (a, b))) ∧ New w w' := by
  have Hl : Hid (longB (a, b) = (decide (8 < a.size) || decide (8 < b.size))) := rfl
  have hn := heap_alloc_new w (.cells #[.string a, .string b] 54)
  by_cases h1 : 8 < a.size
  · have h1' : (8 : Int) < a.size := by omega
    go_enter Tryz.func62, Tryz.ntmps62
    go_wp2
    go_ret
    exact ⟨by rw [Hl.out]; simp [h1], (Fr.refl _ _).alloc _⟩
  · have h1' : ¬ (8 : Int) < a.size := by omega
    by_cases h2 : 8 < b.size
    · have h2' : (8 : Int) < b.size := by omega
      go_enter Tryz.func62, Tryz.ntmps62
      go_wp2
      go_ret
      exact ⟨by rw [Hl.out]; simp [h1, h2], (Fr.refl _ _).alloc _⟩
    · have h2' : ¬ (8 : Int) < b.size := by omega
      go_enter Tryz.func62, Tryz.ntmps62
      go_wp2
      go_ret
      exact ⟨by rw [Hl.out]; simp [h1, h2], (Fr.refl _ _).alloc _⟩
end Go.Proofs.YtkafmfdipmhleaaGreatDoor
