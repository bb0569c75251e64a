/-
  What is proved: the contract of the statements' helper reached.
-/
import Derived.Test.YtkafmfdipmhleaaGreatDoorSt2
namespace Go.Proofs.YtkafmfdipmhleaaGreatDoor
open Go.RowKit Go.Maps

/-- How a partner's effects read. -/
theorem effs_read {w : World} {pb : Nat} {p : PartM} (h : PAt w pb p) : ∃ lv va vc iv, w.heap[pb]? = some (.cells #[lv, .slice va p.effs.length vc, iv, .int .i64 p.at_] 44 (0, 0)) ∧
    ∀ k (hk : k < p.effs.length), ∃ g, va = some ⟨g, 0, none⟩ ∧ (∃ o, w.heap[g]? = some o) ∧ ∀ w' : World, w'.heap[g]? = w.heap[g]? → w'.cell? ⟨g, k * 4, none⟩ = some (.int .i64 p.effs[k].saga) ∧ w'.cell? ⟨g, k * 4 + 1, none⟩ = some (.int .i64 p.effs[k].step) ∧
      w'.cell? ⟨g, k * 4 + 2, none⟩ = some (.bool p.effs[k].back) ∧ w'.cell? ⟨g, k * 4 + 3, none⟩ = some (.string p.effs[k].data) := by
  obtain ⟨⟨lv, ev, iv, B, h1, _, ho, _, _⟩⟩ := h
  rcases ho with ⟨o1, ⟨rfl, h0⟩ | ⟨g, cap, cur, rfl, hg, hh, _, _, _, htk⟩⟩
  · refine ⟨lv, none, 0, iv, by rw [h1, h0], fun k hk => by omega⟩
  · refine ⟨lv, _, cap, iv, h1, fun k hk => ⟨g, rfl, ⟨_, hh⟩, fun w' hf => ?_⟩⟩
    have key : ∀ q, q < 4 → w'.cell? ⟨g, k * 4 + q, none⟩ = p.effs[k].cells[q]? := by
      intro q hq
      have := effCells_get p.effs k hk q hq
      rw [cellv, hf, hh, cellOf_cells]
      rw [← htk, List.getElem?_take_of_lt (by omega)] at this
      simpa using this
    exact ⟨key 0 (by omega), key 1 (by omega), key 2 (by omega), key 3 (by omega)⟩
def cF (l : List CallM) (id : Int) : Nat := (l.filter fun c => c.saga == id && !c.back).length
def cB (l : List CallM) (id : Int) : Nat := (l.filter fun c => c.saga == id && c.back).length
theorem cF_eq (l : List CallM) (id : Int) : cF l id = countF l id := by
  induction l with
  | nil => rfl
  | cons a l ih =>
    by_cases h : a.saga = id <;> cases hb : a.back <;> simp_all [cF, countF, mineOf]
theorem cB_eq (l : List CallM) (id : Int) : cB l id = countB l id := by
  induction l with
  | nil => rfl
  | cons a l ih =>
    by_cases h : a.saga = id <;> cases hb : a.back <;> simp_all [cB, countB, mineOf]
theorem c_snoc (l : List CallM) (id : Int) (a : CallM) : cF (l ++ [a]) id = cF l id + (if a.saga == id && !a.back then 1 else 0) ∧ cB (l ++ [a]) id = cB l id + (if a.saga == id && a.back then 1 else 0) := by
  constructor <;> simp only [cF, cB, List.filter_append, List.length_append] <;> congr 1 <;> by_cases h : a.saga = id <;> cases hb : a.back <;> simp [h, hb]
set_option maxRecDepth 100000 in
set_option maxHeartbeats 4000000 in
theorem reached_calls {w : World} {pb : Nat} {p : PartM} (h : PAt w pb p) (hl : p.effs.length < 2 ^ 30) (id st step n tries due : Int) :
    Calls Tryz.prog 23 #[.pointer (some ⟨pb, 0, none⟩), .agg #[.int .i64 id, .int .i64 st, .int .i64 step, .int .i64 n, .int .i64 tries, .int .i64 due]] w fun e w' => e = .returned (.bool (reachedM p.effs id st n)) ∧ New w w' := by
  obtain ⟨lv, va, vc, iv, h1, hrow⟩ := effs_read h
  have hr : Hid (reachedM p.effs id st n = if st = 3 then decide ((cF p.effs id : Int) = n) && decide ((cB p.effs id : Int) = 0) else decide (st ≠ 4) || (decide ((cF p.effs id : Int) = cB p.effs id) && decide ((cF p.effs id : Int) < n))) := by
    show _ = _
    rw [cF_eq, cB_eq]; rfl
  generalize reachedM p.effs id st n = ans at hr ⊢
  have hpb := h1
  generalize p.effs = effs at *
  have hN := heap_alloc_new w (.cells #[.int .i64 id, .int .i64 st, .int .i64 step, .int .i64 n, .int .i64 tries, .int .i64 due] 38)
  have h1a := heap_alloc_keep (.cells #[.int .i64 id, .int .i64 st, .int .i64 step, .int .i64 n, .int .i64 tries, .int .i64 due] 38) h1
  have HF1 : Hid (New w (w.alloc (.cells #[.int .i64 id, .int .i64 st, .int .i64 step, .int .i64 n, .int .i64 tries, .int .i64 due] 38))) := (Fr.refl _ _).alloc _
  have Hrow := Lib.hid hrow
  have Hl := Lib.hid hl
  have HNa := Lib.hid hN
  have H1a := Lib.hid h1a
  clear h h1 hrow hpb hl hN h1a
  go_enter Tryz.func23, Tryz.ntmps23
  go_upto_region 1 with fail
  generalize w.alloc (.cells #[.int .i64 id, .int .i64 st, .int .i64 step, .int .i64 n, .int .i64 tries, .int .i64 due] 38) = W1 at HF1 HNa H1a ⊢
  generalize w.heap.size = N at HNa ⊢
  go_wp2_with fail
  go_loopw [5, 6, 7] (fun f b i wr => ∃ k : Nat, k ≤ effs.length ∧ i = .int .i64 k ∧ f = .int .i64 (cF (effs.take k) id : Nat) ∧ b = .int .i64 (cB (effs.take k) id : Nat) ∧ New W1 wr) (fun _ _ i _ => effs.length - (intOf i).toNat)
  case atStart => exact ⟨0, Nat.zero_le _, rfl, rfl, rfl, Fr.refl _ _⟩
  case round =>
    obtain ⟨k, hk, rfl, rfl, rfl, hf⟩ := hrel
    have Hf := Lib.hid hf
    have hcN := hf.get HNa.out (fun f => f)
    have hcP := hf.get H1a.out (fun f => f)
    clear hf
    have hl30 : effs.length < 1073741824 := Hl.out
    have hcF : cF (effs.take k) id ≤ k := by
      unfold cF
      exact Nat.le_trans (List.length_filter_le _ _) (by rw [List.length_take]; omega)
    have hcB : cB (effs.take k) id ≤ k := by
      unfold cB
      exact Nat.le_trans (List.length_filter_le _ _) (by rw [List.length_take]; omega)
    by_cases hlt : k < effs.length
    · obtain ⟨g, rfl, ⟨o, ho⟩, hcc⟩ := Hrow.out k hlt
      have hgr : wr.heap[g]? = w.heap[g]? := by rw [ho]; exact (HF1.out.trans Hf.out).get ho (fun f => f)
      obtain ⟨x0, x1, x2, x3⟩ := hcc wr hgr
      clear x3
      rw [cellv] at x0 x1 x2
      have htk : effs.take (k + 1) = effs.take k ++ [effs[k]] := List.take_succ_eq_append_getElem hlt
      have hsn := c_snoc (effs.take k) id effs[k]
      rw [← htk] at hsn
      have Hsn := Lib.hid hsn
      generalize effs[k] = e at x0 x1 x2 Hsn
      generalize cF (effs.take k) id = f0 at *
      generalize cB (effs.take k) id = b0 at *
      obtain ⟨es, et, eb, ed⟩ := e
      have hkI : (k : Int) < effs.length := by omega
      have hk0 : (0 : Int) ≤ k := by omega
      have hw1 : wrap64 ((f0 : Int) + 1) = ((f0 + 1 : Nat) : Int) := by rw [wrap_in _ (by omega)]; omega
      have hw2 : wrap64 ((b0 : Int) + 1) = ((b0 + 1 : Nat) : Int) := by rw [wrap_in _ (by omega)]; omega
      have hkl := Lib.hid hlt
      clear hcc ho hgr htk hsn hlt hcF hcB
      have hcv := cellv wr
      go_upto_region 6 with fail
      by_cases q1 : es = id
      · subst q1
        have q1' : (es == es) = true := by simp
        cases eb
        · go_quiet (fail)
          go_upto_region 8 with fail
          go_quiet (fail)
          go_wp2_with fail
          go_roundw
          case rel => exact ⟨k + 1, hkl.out, by go_num, by rw [Hsn.out.1]; simp [hw1], by rw [Hsn.out.2]; simp [q1'], Hf.out.drewN _⟩
          case measure => have := hkl.out; simp [intOf]; omega
        · go_quiet (fail)
          go_wp2_with fail
          go_roundw
          case rel => exact ⟨k + 1, hkl.out, by go_num, by rw [Hsn.out.1]; simp [q1'], by rw [Hsn.out.2]; simp [hw2], Hf.out.drewN _⟩
          case measure => have := hkl.out; simp [intOf]; omega
      · have q1' : (es == id) = false := by simpa using q1
        go_quiet (fail)
        go_upto_region 8 with fail
        go_quiet (fail)
        go_wp2_with fail
        go_roundw
        case rel => exact ⟨k + 1, hkl.out, by go_num, by rw [Hsn.out.1]; simp [q1'], by rw [Hsn.out.2]; simp [q1'], Hf.out.drewN _⟩
        case measure => have := hkl.out; simp [intOf]; omega
    · obtain rfl : k = effs.length := by omega
      rw [List.take_length]
      have hnk : ¬ ((effs.length : Int) < effs.length) := by omega
      generalize cF effs id = f0 at hr
      generalize cB effs id = b0 at hr
      have HF := Lib.hid (HF1.out.trans Hf.out)
      clear hk hl30 hcF hcB hlt
      have hcv := cellv wr
      by_cases h3 : st = 3
      · subst h3
        by_cases h4 : (f0 : Int) = n
        · have h4' : ((f0 : Int) == n) = true := by simpa using h4
          by_cases h5 : (b0 : Int) = 0
          · have h5' : ((b0 : Int) == 0) = true := by simpa using h5
            have h5n : b0 = 0 := by omega
            have hans := hr.out
            simp [h4, h5n] at hans
            go_wp2_with fail
            go_ret
            exact ⟨by first | rfl | (rw [hans]; rfl), by first | exact HF.out | exact HF.out.drewN _⟩
          · have h5' : ((b0 : Int) == 0) = false := by simpa using h5
            have h5n : ¬ b0 = 0 := by omega
            have hans := hr.out
            simp [h4, h5n] at hans
            go_wp2_with fail
            go_ret
            exact ⟨by first | rfl | (rw [hans]; rfl), by first | exact HF.out | exact HF.out.drewN _⟩
        · have h4' : ((f0 : Int) == n) = false := by simpa using h4
          have hans := hr.out
          simp [h4] at hans
          go_wp2_with fail
          go_ret
          exact ⟨by first | rfl | (rw [hans]; rfl), by first | exact HF.out | exact HF.out.drewN _⟩
      · have h3' : (st == 3) = false := by simpa using h3
        by_cases h6 : st = 4
        · subst h6
          by_cases h7 : (f0 : Int) = b0
          · have h7' : ((f0 : Int) == b0) = true := by simpa using h7
            have h7n : f0 = b0 := by omega
            by_cases h8 : (f0 : Int) < n
            · have h8n : (b0 : Int) < n := by omega
              have hans := hr.out
              simp [h7n, h8n] at hans
              go_wp2_with fail
              go_ret
              exact ⟨by first | rfl | (rw [hans]; rfl), by first | exact HF.out | exact HF.out.drewN _⟩
            · have h8n : ¬ (b0 : Int) < n := by omega
              have hans := hr.out
              simp [h7n, h8n] at hans
              go_wp2_with fail
              go_ret
              exact ⟨by first | rfl | (rw [hans]; rfl), by first | exact HF.out | exact HF.out.drewN _⟩
          · have h7' : ((f0 : Int) == b0) = false := by simpa using h7
            have h7n : ¬ f0 = b0 := by omega
            have hans := hr.out
            simp [h7n] at hans
            go_wp2_with fail
            go_ret
            exact ⟨by first | rfl | (rw [hans]; rfl), by first | exact HF.out | exact HF.out.drewN _⟩
        · have h6' : (st == 4) = false := by simpa using h6
          have hans := hr.out
          simp [h3, h6] at hans
          go_wp2_with fail
          go_ret
          exact ⟨by first | rfl | (rw [hans]; rfl), by first | exact HF.out | exact HF.out.drewN _⟩
end Go.Proofs.YtkafmfdipmhleaaGreatDoor
