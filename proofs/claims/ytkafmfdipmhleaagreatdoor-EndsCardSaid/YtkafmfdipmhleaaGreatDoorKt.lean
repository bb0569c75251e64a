/-
  What is proved: the contract of the statements' helper straight, where what was done has the right form.
-/
import Derived.Test.YtkafmfdipmhleaaGreatDoorKr
namespace Go.Proofs.YtkafmfdipmhleaaGreatDoor
open Go.RowKit Go.Maps

/-- What the list of a saga's effects reads as. -/
theorem shape_at {F : List CallM} {K M : Nat} (h : F.map (fun c => (c.step, c.back)) = fw K ++ bw K M) : F.length = K + M ∧ (∀ k (hk : k < F.length), k < K → F[k].step = (k : Int) + 1 ∧ F[k].back = false) ∧ (∀ k (hk : k < F.length), K ≤ k → F[k].step = (K : Int) - ((k : Int) - K) ∧ F[k].back = true) := by
  have hlen : F.length = K + M := by
    have := congrArg List.length h
    simpa [fw, bw] using this
  have key : ∀ k (hk : k < F.length), (fw K ++ bw K M)[k]? = some (F[k].step, F[k].back) := by
    intro k hk
    rw [← h, List.getElem?_map, List.getElem?_eq_getElem hk]; rfl
  refine ⟨hlen, fun k hk hK => ?_, fun k hk hK => ?_⟩
  · have := key k hk
    rw [List.getElem?_append_left (by simp [fw]; exact hK)] at this
    simp only [fw, List.getElem?_map, List.getElem?_range hK, Option.map_some, Option.some.injEq, Prod.mk.injEq] at this
    exact ⟨this.1.symm, this.2.symm⟩
  · have := key k hk
    rw [List.getElem?_append_right (by simp [fw]; exact hK)] at this
    have hl : (fw K).length = K := by simp [fw]
    rw [hl] at this
    simp only [bw, List.getElem?_map, List.getElem?_range (show k - K < M by omega), Option.map_some, Option.some.injEq, Prod.mk.injEq] at this
    exact ⟨by rw [← this.1]; omega, this.2.symm⟩
/-- How an own slice of calls reads. -/
theorem calls_read {w : World} {B : Nat} {v : Value} {F : List CallM} (h : w.ownsRow B 46 4 v F.length (effCells F)) : ∃ va vc, v = .slice va F.length vc ∧
    ∀ k (hk : k < F.length), ∃ g, va = some ⟨g, 0, none⟩ ∧ (∃ o, w.heap[g]? = some o) ∧ ∀ w' : World, w'.heap[g]? = w.heap[g]? → cellOf w'.heap[g]? (k * 4) = some (.int .i64 F[k].saga) ∧ cellOf w'.heap[g]? (k * 4 + 1) = some (.int .i64 F[k].step) ∧
      cellOf w'.heap[g]? (k * 4 + 2) = some (.bool F[k].back) ∧ cellOf w'.heap[g]? (k * 4 + 3) = some (.string F[k].data) := by
  obtain ⟨o1, ⟨rfl, h0⟩ | ⟨g, cap, cur, rfl, hg, hh, _, _, _, htk⟩⟩ := h
  · exact ⟨none, 0, by rw [h0], fun k hk => by omega⟩
  · refine ⟨_, cap, rfl, fun k hk => ⟨g, rfl, ⟨_, hh⟩, fun w' hf => ?_⟩⟩
    have key : ∀ q, q < 4 → cellOf w'.heap[g]? (k * 4 + q) = F[k].cells[q]? := by
      intro q hq
      have := effCells_get F k hk q hq
      rw [hf, hh, cellOf_cells]
      rw [← htk, List.getElem?_take_of_lt (by omega)] at this
      simpa using this
    exact ⟨key 0 (by omega), key 1 (by omega), key 2 (by omega), key 3 (by omega)⟩
theorem Tryz.info46s' : (Tryz.prog.info? 46).map (·.size) = some 4 := by kernel_rfl
set_option maxRecDepth 100000 in
set_option maxHeartbeats 4000000 in
theorem straight_calls {w : World} {pb : Nat} {p : PartM} (h : PAt w pb p) (hl : p.effs.length < 2 ^ 30) (id : Int) (n K M : Nat) (hm : mineOf p.effs id = fw K ++ bw K M) (hK : K ≤ n) (hM : M ≤ K) (hKM : M = 0 ∨ K < n) (hn : n < 2 ^ 30) :
    Calls Tryz.prog 22 #[.pointer (some ⟨pb, 0, none⟩), .int .i64 id, .int .i64 n] w fun e w' => e = .returned (.bool true) ∧ New w w' := by
  obtain ⟨lv, va, vc, iv, h1, hrow⟩ := effs_read h
  generalize p.effs = effs at *
  obtain ⟨i0, hi, hz0, hz1, hz2⟩ := info_parts Tryz.info46
  have Hsh := Lib.hid (shape_at (F := effs.filter fun c => c.saga == id) hm)
  have Hrow := Lib.hid hrow
  have Hl := Lib.hid hl
  have H1 := Lib.hid h1
  have HK := Lib.hid hK
  have HM := Lib.hid hM
  have HKM := Lib.hid hKM
  have Hn := Lib.hid hn
  clear h h1 hrow hl hm hK hM hKM hn
  go_enter Tryz.func22, Tryz.ntmps22
  go_wp2_with fail
  go_loopw [7, 8] (fun sv i wr => ∃ k : Nat, k ≤ effs.length ∧ i = .int .i64 k ∧ wr.ownsRow w.heap.size 46 4 sv ((effs.take k).filter fun c => c.saga == id).length (effCells ((effs.take k).filter fun c => c.saga == id)) ∧ New w wr) (fun _ i _ => effs.length - (intOf i).toNat)
  case atStart => exact ⟨0, Nat.zero_le _, rfl, World.ownsRow_nil w w.heap.size 46 4, Fr.refl _ _⟩
  case round =>
    obtain ⟨k, hk, rfl, hown, hf⟩ := hrel
    have Hown := Lib.hid hown
    have Hf := Lib.hid hf
    have hcP := hf.get H1.out (fun f => f)
    have hl30 : effs.length < 1073741824 := Hl.out
    clear hown hf
    by_cases hlt : k < effs.length
    · obtain ⟨g, rfl, ⟨o, ho⟩, hcc⟩ := Hrow.out k hlt
      have hgr : wr.heap[g]? = w.heap[g]? := by rw [ho]; exact Hf.out.get ho (fun f => f)
      obtain ⟨x0, x1, x2, x3⟩ := hcc wr hgr
      have htk : effs.take (k + 1) = effs.take k ++ [effs[k]] := List.take_succ_eq_append_getElem hlt
      have Htk := Lib.hid htk
      generalize effs[k] = e at x0 x1 x2 x3 Htk
      obtain ⟨es, et, eb, ed⟩ := e
      rw [cellv] at x0 x1 x2 x3
      have hkI : (k : Int) < effs.length := by omega
      have hk0 : (0 : Int) ≤ k := by omega
      have hkl := Lib.hid hlt
      have hfl : Hid (((effs.take k).filter fun c => c.saga == id).length ≤ k) := Nat.le_trans (List.length_filter_le _ _) (by rw [List.length_take]; omega)
      clear hcc ho hgr htk hlt
      have hcv := cellv wr
      by_cases q1 : es = id
      · subst q1
        have q1' : (es == es) = true := by simp
        have hfe : Hid ((effs.take (k + 1)).filter (fun c => c.saga == es) = (effs.take k).filter (fun c => c.saga == es) ++ [⟨es, et, eb, ed⟩]) := by
          show _ = _
          rw [Htk.out, List.filter_append]; simp
        have hoA := Lib.hid (Hown.out.alloc (.cells #[.int .i64 es, .int .i64 et, .bool eb, .string ed] 46))
        have hnews : ∀ (j : Nat) (u : Value), (CallM.cells ⟨es, et, eb, ed⟩)[j]? = some u → (wr.alloc (.cells #[.int .i64 es, .int .i64 et, .bool eb, .string ed] 46)).cell? ((⟨wr.heap.size, 0, none⟩ : Addr).add j) = some u := World.news_of_block (heap_alloc_new wr _)
        have Hnews := Lib.hid hnews
        clear hnews
        go_wp2_with (first
          | (at_builtin; refine wpList_append_own _ rfl _ _ 42 rfl w.heap.size 46 i0 (.agg #[.int .i64 0, .int .i64 0, .bool false, .string ⟨#[]⟩]) 4 40 Tryz.underlying42 hi hz0 hz1 hz2 rfl (by decide) _ _ _ rfl hoA.out ⟨wr.heap.size, 0, none⟩ 1 1 (CallM.cells ⟨es, et, eb, ed⟩) rfl rfl Hnews.out (call_one ⟨es, et, eb, ed⟩) (by have := hfl.out; unfold maxLen; omega) (by have := hfl.out; omega) (by have := Hf.out.size; simp; omega) ?_; intro sv' w1 hown1 hg1 _; go_frame)
          | fail)
        go_roundw
        case rel =>
          refine ⟨k + 1, hkl.out, by go_num, ?_, ?_⟩
          · rw [hfe.out, List.length_append, show effCells ((effs.take k).filter (fun c => c.saga == es) ++ [⟨es, et, eb, ed⟩]) = effCells ((effs.take k).filter (fun c => c.saga == es)) ++ CallM.cells ⟨es, et, eb, ed⟩ by simp [effCells]]
            exact hown1
          · refine (Hf.out.alloc _).trans' (Fr.ofGrown hg1) (fun i hi e => ?_)
            have := (Hown.out.lt i e).1
            omega
        case measure => have := hkl.out; simp [intOf]; omega
      · have q1' : (es == id) = false := by simpa using q1
        have hfe : Hid ((effs.take (k + 1)).filter (fun c => c.saga == id) = (effs.take k).filter (fun c => c.saga == id)) := by
          show _ = _
          rw [Htk.out, List.filter_append]; simp [q1']
        go_wp2_with fail
        go_roundw
        case rel => exact ⟨k + 1, hkl.out, by go_num, by rw [hfe.out]; exact Hown.out, Hf.out⟩
        case measure => have := hkl.out; simp [intOf]; omega
    · obtain rfl : k = effs.length := by omega
      have hnk : ¬ ((effs.length : Int) < effs.length) := by omega
      have Hown := Hown
      rw [List.take_length] at Hown
      obtain ⟨ma, mc, rfl, hmr⟩ := calls_read Hown.out
      have Hmr := Lib.hid hmr
      have hFl : Hid ((effs.filter fun c => c.saga == id).length < 1073741824) := Nat.lt_of_le_of_lt (List.length_filter_le _ _) hl30
      clear hk hlt hmr
      generalize (effs.filter fun c => c.saga == id) = F at Hsh Hown Hmr hFl ⊢
      have hcv := cellv wr
      go_upto_region 8 with fail
      obtain ⟨wO, rfl⟩ : ∃ x, x = wr := ⟨wr, rfl⟩
      go_loopw [9] (fun i w2 => ∃ k : Nat, k ≤ K ∧ i = .int .i64 k ∧ New wO w2) (fun i _ => K - (intOf i).toNat)
      case atStart => exact ⟨0, Nat.zero_le _, rfl, Fr.refl _ _⟩
      case round =>
        obtain ⟨k, hk, rfl, hf2⟩ := hrel
        have Hf2 := Lib.hid hf2
        clear hf2
        have hlenF := Hsh.out.1
        have hl31 : F.length < 1073741824 := hFl.out
        have hn30 : n < 1073741824 := Hn.out
        have hKn := HK.out
        by_cases hkK : k < K
        · have hkF : k < F.length := by omega
          obtain ⟨g, rfl, ⟨o, ho⟩, hcc⟩ := Hmr.out k hkF
          have hgr : wr.heap[g]? = wO.heap[g]? := by rw [ho]; exact Hf2.out.get ho (fun f => f)
          obtain ⟨x0, x1, x2, x3⟩ := hcc wr hgr
          obtain ⟨s1, s2⟩ := Hsh.out.2.1 k hkF hkK
          rw [s1] at x1
          rw [s2] at x2
          have hkI : (k : Int) < F.length := by omega
          have hk0 : (0 : Int) ≤ k := by omega
          have hnI : ¬ ((n : Int) ≤ k) := by omega
          have hkl := Lib.hid hkK
          have hw1 : wrap64 ((k : Int) + 1) = (k : Int) + 1 := wrap_in _ (by omega)
          clear hcc ho hgr x0 x3 s1 s2 hlenF hkK
          have hcv := cellv wr
          go_wp2_with fail
          go_roundw
          case rel => exact ⟨k + 1, hkl.out, by go_num, Hf2.out⟩
          case measure => have := hkl.out; simp [intOf]; omega
        · obtain rfl : k = K := by omega
          by_cases hM0 : M = 0
          · have hFe : F.length = k := by omega
            have hnk2 : ¬ ((k : Int) < F.length) := by omega
            clear hFe hM0 hk hkK hlenF
            have hcv := cellv wr
            go_upto_region 15 with fail
            obtain ⟨wP, rfl⟩ : ∃ x, x = wr := ⟨wr, rfl⟩
            go_loopw [10] (fun i w3 => ∃ m : Nat, k ≤ m ∧ m ≤ F.length ∧ i = .int .i64 m ∧ New wP w3) (fun i _ => F.length - (intOf i).toNat)
            case atStart => exact ⟨k, Nat.le_refl _, by have := Hsh.out.1; omega, rfl, Fr.refl _ _⟩
            case round =>
              obtain ⟨m, hm1, hm2, rfl, hf3⟩ := hrel
              have Hf3 := Lib.hid hf3
              clear hf3 hcv
              by_cases hmF : m < F.length
              · obtain ⟨g', hg', ⟨o', ho'⟩, hcc'⟩ := Hmr.out m hmF
                have hgr' : wr.heap[g']? = wO.heap[g']? := by rw [ho']; exact (Hf2.out.trans Hf3.out).get ho' (fun f => f)
                obtain ⟨x0', x1', x2', x3'⟩ := hcc' wr hgr'
                obtain ⟨s1', s2'⟩ := Hsh.out.2.2 m hmF hm1
                rw [s1'] at x1'
                rw [s2'] at x2'
                first | subst hg' | (obtain rfl : g = g' := by simpa using hg')
                have hmI : (m : Int) < F.length := by omega
                have hm0 : (0 : Int) ≤ m := by omega
                have hml := Lib.hid hmF
                have hw3 : wrap64 ((m : Int) - k) = (m : Int) - k := wrap_in _ (by omega)
                have hw4 : wrap64 ((k : Int) - ((m : Int) - k)) = (k : Int) - ((m : Int) - k) := wrap_in _ (by omega)
                have hm1' := Lib.hid hm1
                clear hcc' ho' hgr' x0' x3' s1' s2' hm1 hm2 hmF
                have hcv := cellv wr
                go_wp2_with fail
                go_roundw
                case rel => exact ⟨m + 1, by have := hm1'.out; omega, hml.out, by go_num, Hf3.out⟩
                case measure => have := hml.out; simp [intOf]; omega
              · have hmI : ¬ ((m : Int) < F.length) := by omega
                have hw2 : wrap64 (2 * (k : Int)) = 2 * (k : Int) := wrap_in _ (by omega)
                have hle : (F.length : Int) ≤ 2 * (k : Int) := by have := Hsh.out.1; have := HM.out; omega
                have HFin := Lib.hid ((Hf.out.trans Hf2.out).trans Hf3.out)
                clear hmF hm1 hm2
                go_wp2_with fail
                go_ret
                exact ⟨rfl, by first | exact HFin.out | exact HFin.out.drewN _⟩
          · have hkF : k < F.length := by omega
            obtain ⟨g, rfl, ⟨o, ho⟩, hcc⟩ := Hmr.out k hkF
            have hgr : wr.heap[g]? = wO.heap[g]? := by rw [ho]; exact Hf2.out.get ho (fun f => f)
            obtain ⟨x0, x1, x2, x3⟩ := hcc wr hgr
            obtain ⟨s1, s2⟩ := Hsh.out.2.2 k hkF (Nat.le_refl _)
            rw [s2] at x2
            have hkI : (k : Int) < F.length := by omega
            have hk0 : (0 : Int) ≤ k := by omega
            have hnI : ((k : Int) == n) = false := by have := HKM.out; simp; omega
            clear hcc ho hgr x0 x1 x3 s1 s2 hM0 hkF
            have hcv := cellv wr
            go_upto_region 15 with fail
            obtain ⟨wP, rfl⟩ : ∃ x, x = wr := ⟨wr, rfl⟩
            go_loopw [10] (fun i w3 => ∃ m : Nat, k ≤ m ∧ m ≤ F.length ∧ i = .int .i64 m ∧ New wP w3) (fun i _ => F.length - (intOf i).toNat)
            case atStart => exact ⟨k, Nat.le_refl _, by have := Hsh.out.1; omega, rfl, Fr.refl _ _⟩
            case round =>
              obtain ⟨m, hm1, hm2, rfl, hf3⟩ := hrel
              have Hf3 := Lib.hid hf3
              clear hf3 hcv
              by_cases hmF : m < F.length
              · obtain ⟨g', hg', ⟨o', ho'⟩, hcc'⟩ := Hmr.out m hmF
                have hgr' : wr.heap[g']? = wO.heap[g']? := by rw [ho']; exact (Hf2.out.trans Hf3.out).get ho' (fun f => f)
                obtain ⟨x0', x1', x2', x3'⟩ := hcc' wr hgr'
                obtain ⟨s1', s2'⟩ := Hsh.out.2.2 m hmF hm1
                rw [s1'] at x1'
                rw [s2'] at x2'
                first | subst hg' | (obtain rfl : g = g' := by simpa using hg')
                have hmI : (m : Int) < F.length := by omega
                have hm0 : (0 : Int) ≤ m := by omega
                have hml := Lib.hid hmF
                have hw3 : wrap64 ((m : Int) - k) = (m : Int) - k := wrap_in _ (by omega)
                have hw4 : wrap64 ((k : Int) - ((m : Int) - k)) = (k : Int) - ((m : Int) - k) := wrap_in _ (by omega)
                have hm1' := Lib.hid hm1
                clear hcc' ho' hgr' x0' x3' s1' s2' hm1 hm2 hmF
                have hcv := cellv wr
                go_wp2_with fail
                go_roundw
                case rel => exact ⟨m + 1, by have := hm1'.out; omega, hml.out, by go_num, Hf3.out⟩
                case measure => have := hml.out; simp [intOf]; omega
              · have hmI : ¬ ((m : Int) < F.length) := by omega
                have hw2 : wrap64 (2 * (k : Int)) = 2 * (k : Int) := wrap_in _ (by omega)
                have hle : (F.length : Int) ≤ 2 * (k : Int) := by have := Hsh.out.1; have := HM.out; omega
                have HFin := Lib.hid ((Hf.out.trans Hf2.out).trans Hf3.out)
                clear hmF hm1 hm2
                go_wp2_with fail
                go_ret
                exact ⟨rfl, by first | exact HFin.out | exact HFin.out.drewN _⟩
end Go.Proofs.YtkafmfdipmhleaaGreatDoor
