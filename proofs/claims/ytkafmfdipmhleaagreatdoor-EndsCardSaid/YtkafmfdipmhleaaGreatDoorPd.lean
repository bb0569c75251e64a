/-
  What is proved: the partner's done.
-/
import Derived.Test.YtkafmfdipmhleaaGreatDoorPt
namespace Go.Proofs.YtkafmfdipmhleaaGreatDoor
open Go.RowKit

def sameCall (e c : CallM) : Bool := e.saga == c.saga && (e.step == c.step && e.back == c.back)
theorem effCells_get (l : List CallM) (k : Nat) (h : k < l.length) (q : Nat) (hq : q < 4) : (effCells l)[k * 4 + q]? = l[k].cells[q]? := by
  induction l generalizing k with
  | nil => simp at h
  | cons a l ih =>
    have ha : a.cells.length = 4 := rfl
    simp only [effCells, List.flatMap_cons]
    cases k with
    | zero =>
      rw [Nat.zero_mul, Nat.zero_add, List.getElem?_append_left (by omega)]
      rfl
    | succ k =>
      rw [List.getElem?_append_right (by omega), show (k + 1) * 4 + q - a.cells.length = k * 4 + q by omega]
      have := ih k (by simpa using h)
      simpa [effCells] using this
set_option maxRecDepth 100000 in
set_option maxHeartbeats 4000000 in
theorem done_calls {w : World} {pb : Nat} {p : PartM} (h : PAt w pb p) (c : CallM) (hl : p.effs.length < 2 ^ 30) :
    Calls Tryz.prog 83 #[.pointer (some ⟨pb, 0, none⟩), c.val] w fun e w' => e = .returned (.bool (p.effs.any fun e => sameCall e c)) ∧ New w w' := by
  obtain ⟨⟨lv, ev, iv, B, h1, _, ho, _, _⟩⟩ := h
  generalize p.effs = effs at ho hl ⊢
  have hsh := own_slice ho
  have hrow : ∀ k (hk : k < effs.length), ∃ g, (∃ m c', ev = .slice (some ⟨g, 0, none⟩) m c') ∧ ∀ w', New w w' → ∀ q v, effs[k].cells[q]? = some v → cellOf w'.heap[g]? (k * 4 + q) = some v := by
    intro k hk
    rcases ho with ⟨o1, ⟨_, h0⟩ | ⟨g, cap, cur, hv, hg, hh, _, _, _, htk⟩⟩
    · omega
    · refine ⟨g, ⟨_, _, hv⟩, fun w' hf q v hq => ?_⟩
      have hq4 : q < 4 := by
        have := (List.getElem?_eq_some_iff.1 hq).1
        simpa [CallM.cells] using this
      have := effCells_get effs k hk q hq4
      rw [hf.get hh (fun f => f), cellOf_cells]
      rw [← htk, List.getElem?_take_of_lt (by omega)] at this
      simpa [hq] using this
  obtain ⟨va, vm, vc, rfl⟩ := hsh
  have hvm : vm = effs.length := by
    rcases ho with ⟨_, ⟨e, h0⟩ | ⟨g, cap, cur, hv, _⟩⟩
    · simp at e; omega
    · simp at hv; exact hv.2.1
  have Hvm := Lib.hid hvm
  have Hrow := Lib.hid hrow
  clear hrow ho hvm
  have hcv := cellv w
  have hcv2 := cellv (w.alloc (.cells #[.int .i64 c.saga, .int .i64 c.step, .bool c.back, .string c.data] 46))
  have h1a := heap_alloc_keep (.cells #[.int .i64 c.saga, .int .i64 c.step, .bool c.back, .string c.data] 46) h1
  have hca := heap_alloc_new w (.cells #[.int .i64 c.saga, .int .i64 c.step, .bool c.back, .string c.data] 46)
  unfold CallM.val
  go_enter Tryz.func83, Tryz.ntmps83
  go_upto_region 1 with fail
  generalize hW1 : w.alloc (.cells #[.int .i64 c.saga, .int .i64 c.step, .bool c.back, .string c.data] 46) = W1 at hcv2 h1a hca ⊢
  have HF1 : Hid (New w W1) := by show New _ _; rw [← hW1]; exact (Fr.refl _ _).alloc _
  have HWs : Hid (W1.heap.size = w.heap.size + 1) := by show _ = _; rw [← hW1]; simp
  generalize w.heap.size = N at hca ⊢
  have Hca := Lib.hid hca
  clear hcv h1 hW1
  go_wp2_with fail
  go_loopw [12] (fun i wr => ∃ k : Nat, k ≤ effs.length ∧ i = .int .i64 k ∧ (effs.take k).any (fun e => sameCall e c) = false ∧ New W1 wr) (fun i _ => effs.length - (intOf i).toNat)
  case atStart => exact ⟨0, Nat.zero_le _, rfl, rfl, Fr.refl _ _⟩
  case round =>
    obtain ⟨k, hk, rfl, hno, hf⟩ := hrel
    have Hno := Lib.hid hno
    have Hf := Lib.hid hf
    clear hno hf
    by_cases hlt : k < effs.length
    · obtain ⟨g, ⟨m, c', hva⟩, hcc⟩ := Hrow.out k hlt
      simp only [Value.slice.injEq] at hva
      obtain ⟨rfl, _, _⟩ := hva
      have hc4 := hcc wr (HF1.out.trans Hf.out)
      have hcN := Hf.out.get Hca.out (fun f => f)
      have hsn : Hid ((effs.take (k + 1)).any (fun e => sameCall e c) = ((effs.take k).any (fun e => sameCall e c) || sameCall effs[k] c)) := by
        show _ = _
        rw [List.take_succ_eq_append_getElem hlt, List.any_append]
        simp
      have hall : Hid (sameCall effs[k] c = true → (effs.any fun e => sameCall e c) = true) := by
        intro h
        rw [List.any_eq_true]
        exact ⟨effs[k], List.getElem_mem hlt, h⟩
      clear hcc
      generalize effs[k] = e at hc4 hsn hall
      obtain ⟨es, et, eb, ed⟩ := e
      have x0 : wr.cell? ⟨g, k * 4, none⟩ = some (.int .i64 es) := by rw [cellv]; exact hc4 0 _ rfl
      have x1 : wr.cell? ⟨g, k * 4 + 1, none⟩ = some (.int .i64 et) := by rw [cellv]; exact hc4 1 _ rfl
      have x2 : wr.cell? ⟨g, k * 4 + 2, none⟩ = some (.bool eb) := by rw [cellv]; exact hc4 2 _ rfl
      have x3 : wr.cell? ⟨g, k * 4 + 3, none⟩ = some (.string ed) := by rw [cellv]; exact hc4 3 _ rfl
      have hvI : Hid ((k : Int) < vm) := by show _ < _; have := Hvm.out; omega
      have hvI' := hvI.out
      have hk0 : (0 : Int) ≤ k := by omega
      clear hc4 hcv2 h1a hca
      go_upto_region 4 with fail
      have hn1 := heap_alloc_new wr (.cells #[.int .i64 es, .int .i64 et, .bool eb, .string ed] 46)
      have hn2 := heap_alloc_keep (.cells #[.int .i64 es, .int .i64 et, .bool eb, .string ed] 46) hcN
      have Hf2 := Lib.hid (Hf.out.alloc (.cells #[.int .i64 es, .int .i64 et, .bool eb, .string ed] 46))
      clear x0 x1 x2 x3 hcN
      generalize wr.alloc (.cells #[.int .i64 es, .int .i64 et, .bool eb, .string ed] 46) = W2 at hn1 hn2 Hf2 ⊢
      generalize wr.heap.size = N2 at hn1 ⊢
      have hcv := cellv W2
      by_cases e1 : es = c.saga
      · by_cases e2 : et = c.step
        · by_cases e3 : eb = c.back
          · have q1 : (es == c.saga) = true := by simpa using e1
            have q2 : (et == c.step) = true := by simpa using e2
            have q3 : (eb == c.back) = true := by simpa using e3
            have hs : Hid (sameCall ⟨es, et, eb, ed⟩ c = true) := by show _ = _; simp [sameCall, q1, q2, q3]
            have Ha := Lib.hid (hall.out hs.out)
            clear e1 e2 e3 hall hsn
            go_wp2_with fail
            go_ret
            exact ⟨by rw [Ha.out]; rfl, HF1.out.trans Hf2.out⟩
          · have q1 : (es == c.saga) = true := by simpa using e1
            have q2 : (et == c.step) = true := by simpa using e2
            have q3 : (eb == c.back) = false := by simpa using e3
            have hs : Hid (sameCall ⟨es, et, eb, ed⟩ c = false) := by show _ = _; simp [sameCall, q3]
            clear e1 e2 e3 hall
            go_wp2_with fail
            go_roundw
            case rel => exact ⟨k + 1, by omega, by go_num, by rw [hsn.out, Hno.out, hs.out]; rfl, Hf2.out⟩
            case measure => simp [intOf]; omega
        · have q1 : (es == c.saga) = true := by simpa using e1
          have q2 : (et == c.step) = false := by simpa using e2
          have hs : Hid (sameCall ⟨es, et, eb, ed⟩ c = false) := by show _ = _; simp [sameCall, q2]
          clear e1 e2 hall
          go_wp2_with fail
          go_roundw
          case rel => exact ⟨k + 1, by omega, by go_num, by rw [hsn.out, Hno.out, hs.out]; rfl, Hf2.out⟩
          case measure => simp [intOf]; omega
      · have q1 : (es == c.saga) = false := by simpa using e1
        have hs : Hid (sameCall ⟨es, et, eb, ed⟩ c = false) := by show _ = _; simp [sameCall, q1]
        clear e1 hall
        go_wp2_with fail
        go_roundw
        case rel => exact ⟨k + 1, by omega, by go_num, by rw [hsn.out, Hno.out, hs.out]; rfl, Hf2.out⟩
        case measure => simp [intOf]; omega
    · have hkl : Hid (k = effs.length) := by show _ = _; omega
      have hnk : Hid (¬ (k : Int) < vm) := by show ¬ _; have := Hvm.out; omega
      have hnk' := hnk.out
      have Ha : Hid ((effs.any fun e => sameCall e c) = false) := by
        show _ = _
        have := Hno.out
        rw [hkl.out, List.take_length] at this
        exact this
      clear hca h1a hcv2
      go_wp2_with fail
      go_ret
      exact ⟨by rw [Ha.out]; rfl, HF1.out.trans Hf.out⟩
end Go.Proofs.YtkafmfdipmhleaaGreatDoor
