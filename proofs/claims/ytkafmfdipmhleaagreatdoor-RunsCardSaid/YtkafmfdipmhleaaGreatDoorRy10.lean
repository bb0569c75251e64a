/-
  What is proved: the reference's With and Submits. a disk of a script that runs: what lies where, and what is known of it. a script's world whose disks run, and a step on what the caller owns. the script's status, told: what Status answers is the document's answer. a saga more in the reference's list, when it was submitted: the drawn region.
-/
import Derived.Test.YtkafmfdipmhleaaGreatDoorRy9
import Derived.Lib.AppendZeros

namespace Go.Proofs.YtkafmfdipmhleaaGreatDoor
open Go.RowKit Go.Maps
def submM (L : List SagaM) (id : Int) (l : List (ByteArray × ByteArray)) : Int × Bool :=
  if wholeB id l = false then (1, false) else if thereB L id = false then (0, true) else if ((L[findI L id]?).map (·.steps)) = some l then (0, false) else (2, false)
set_option maxRecDepth 100000 in
set_option maxHeartbeats 2000000 in
/-- Submits. -/
theorem SubmitsR_calls {w : World} {B : Nat} {lv sv : Value} {R : List RefM} {l : List (ByteArray × ByteArray)} (h : RefAt w B lv R) (ho : (sagasOf R).Pairwise (fun a b => a.id < b.id)) (hl : R.length ≤ 1000) (h6 : ∀ r ∈ R, r.1.steps.length ≤ 6) (pause clock id : Int) (hs : StpR w sv l) (hll : l.length ≤ 100000) :
    Calls Tryz.prog 139 #[engV pause clock lv, .int .i64 id, sv] w fun e w' => e = .returned (.tuple #[.int .i64 (submM (sagasOf R) id l).1, .bool (submM (sagasOf R) id l).2]) ∧ New w w' := by
  obtain ⟨a, c, rfl⟩ := h.shape
  obtain ⟨sa, sc, rfl⟩ := hs.shape
  have hN : New w (w.alloc (.cells #[.int .i64 pause, .int .i64 clock, .bool false, .slice a R.length c] 163)) := (Fr.refl _ w).alloc _
  have hb := heap_alloc_new w (.cells #[.int .i64 pause, .int .i64 clock, .bool false, .slice a R.length c] 163)
  have H1 := Lib.hid (h.new hN)
  have HS1 := Lib.hid (hs.new hN)
  have HN := Lib.hid hN
  have Ho := Lib.hid ho
  have Hl := Lib.hid hl
  have Hll := Lib.hid hll
  have H6 := Lib.hid h6
  unfold engV
  clear h hN ho hl hs hll h6
  go_enter Tryz.func139, Tryz.ntmps139
  go_upto_region 1 with fail
  generalize w.alloc (.cells #[.int .i64 pause, .int .i64 clock, .bool false, .slice a R.length c] 163) = w1 at H1 HS1 HN hb ⊢
  generalize w.heap.size = N at hb ⊢
  have Hb := Lib.hid hb
  have HW := Lib.hid (WholeR_calls id HS1.out Hll.out)
  clear hb
  go_upto_region 2 with (first
    | (go_at_call 156; refine Calls.mono HW.out ?_; rintro e w2 ⟨rfl, hf2⟩)
    | fail)
  have hb2 := hf2.get Hb.out (fun f => f)
  have HF := Lib.hid (Find_calls (H1.out.new hf2) Ho.out Hl.out pause clock id)
  unfold engV FindPost at HF
  have Hf2 := Lib.hid hf2
  have hcv := cellv w2
  clear hf2
  cases hw : wholeB id l
  · have Hd : Hid (submM (sagasOf R) id l = (1, false)) := by show _ = _; simp [submM, hw]
    go_wp2_with fail
    go_ret2
    exact ⟨by rw [Hd.out]; rfl, HN.out.trans Hf2.out⟩
  · have Hw := Lib.hid hw
    clear hw
    go_upto_region 7 with (first
      | (go_at_call 135; refine Calls.mono HF.out ?_; rintro e w3 ⟨rfl, hf3⟩)
      | fail)
    have hb3 := hf3.get hb2 (fun f => f)
    have Hf3 := Lib.hid (Hf2.out.trans hf3)
    clear hb2 hf3 hcv
    have hcv := cellv w3
    cases ht : thereB (sagasOf R) id
    · have Hd : Hid (submM (sagasOf R) id l = (0, true)) := by show _ = _; simp [submM, Hw.out, ht]
      go_wp2_with fail
      go_ret2
      exact ⟨by rw [Hd.out]; rfl, HN.out.trans Hf3.out⟩
    · obtain ⟨g, hg, hgi⟩ := there_get Ho.out ht
      obtain ⟨r, hr, hrg⟩ : ∃ r, R[findI (sagasOf R) id]? = some r ∧ r.1 = g := by
        unfold sagasOf at hg
        rw [List.getElem?_map] at hg
        unfold sagasOf
        cases hr : R[findI (R.map (·.1)) id]? with
        | none => rw [hr] at hg; cases hg
        | some r => rw [hr] at hg; exact ⟨r, rfl, by simpa using hg⟩
      have hlt := (List.getElem?_eq_some_iff.1 hr).1
      have hsub : submM (sagasOf R) id l = if g.steps = l then (0, false) else (2, false) := by
        simp only [submM, Hw.out, ht, hg]
        simp
      generalize findI (sagasOf R) id = k at hr hlt ⊢
      obtain ⟨ga, rfl, c0, c1, c2, c3, c4, c5, c6⟩ := (H1.out.new Hf3.out).at k r hr
      have hkI : (k : Int) < R.length := by omega
      have hk0 : (0 : Int) ≤ k := by omega
      have hstp := ((H1.out.new Hf3.out).ok r (List.mem_of_getElem? hr)).1
      have hl30 := Hl.out
      rw [hcv] at c1
      have HSm := Lib.hid (SameR_calls hstp (HS1.out.new Hf3.out) (by have := H6.out r (List.mem_of_getElem? hr); omega) Hll.out)
      rw [hrg] at HSm
      by_cases he : g.steps = l
      · rw [if_pos he] at hsub
        rw [decide_eq_true he] at HSm
        have Hd := Lib.hid hsub
        clear hsub c0 c2 c3 c4 c5 c6 hg hgi hr hrg he hstp
        go_wp2_with (first
          | (go_at_call 136; refine Calls.mono HSm.out ?_; rintro e w4 ⟨rfl, hf4⟩)
          | fail)
        go_ret2
        exact ⟨by rw [Hd.out]; rfl, (HN.out.trans Hf3.out).trans hf4⟩
      · rw [if_neg he] at hsub
        rw [decide_eq_false he] at HSm
        have Hd := Lib.hid hsub
        clear hsub c0 c2 c3 c4 c5 c6 hg hgi hr hrg he hstp
        go_wp2_with (first
          | (go_at_call 136; refine Calls.mono HSm.out ?_; rintro e w4 ⟨rfl, hf4⟩)
          | fail)
        go_ret2
        exact ⟨by rw [Hd.out]; rfl, (HN.out.trans Hf3.out).trans hf4⟩
theorem Tryz.info163s : (Tryz.prog.info? 163).map (·.size) = some 4 := by kernel_rfl
theorem Tryz.info223 : (Tryz.prog.info? 223).map (fun i => (i.zero, i.size, i.bytes)) = some (some (.agg #[.int .i64 0, .slice none 0 0, .int .i64 0, .int .i64 0, .int .i64 0, .int .i64 0, .slice none 0 0]), 7, 88) := by kernel_rfl
theorem rc_one (r : RefM) (h1 : ∃ a n c, r.2.1 = .slice a n c) (h2 : ∃ a n c, r.2.2 = .slice a n c) : ∀ u ∈ rCells r, u.oneCell' = true := by
  obtain ⟨a, n, c, h1⟩ := h1
  obtain ⟨a', n', c', h2⟩ := h2
  intro u hu
  simp [rCells, h1, h2] at hu
  rcases hu with rfl | rfl | rfl | rfl | rfl | rfl | rfl <;> rfl
theorem allR_take (R : List RefM) (i : Nat) : allR (R.take i) = (allR R).take (i * 7) := by
  induction R generalizing i with
  | nil => simp [allR]
  | cons a R ih =>
    have h7 : (rCells a).length = 7 := rfl
    have hc : allR (a :: R) = rCells a ++ allR R := by simp [allR]
    cases i with
    | zero => simp [allR]
    | succ i =>
      rw [hc, List.take_succ_cons, show allR (a :: R.take i) = rCells a ++ allR (R.take i) by simp [allR], ih, List.take_append, h7, show (i + 1) * 7 - 7 = i * 7 by omega, List.take_of_length_le (l := rCells a) (by omega)]
theorem allR_drop (R : List RefM) (i : Nat) : allR (R.drop i) = (allR R).drop (i * 7) := by
  induction R generalizing i with
  | nil => simp [allR]
  | cons a R ih =>
    have h7 : (rCells a).length = 7 := rfl
    have hc : allR (a :: R) = rCells a ++ allR R := by simp [allR]
    cases i with
    | zero => simp
    | succ i =>
      rw [hc, List.drop_succ_cons, ih, List.drop_append, h7, show (i + 1) * 7 - 7 = i * 7 by omega, List.drop_of_length_le (l := rCells a) (by omega), List.nil_append]
theorem RefAt.cellR {w : World} {B n c g : Nat} {R : List RefM} (h : RefAt w B (.slice (some ⟨g, 0, none⟩) n c) R) (j : Nat) (u : Value) (hu : (allR R)[j]? = some u) : w.cell? ⟨g, j, none⟩ = some u := by
  have hlt := (List.getElem?_eq_some_iff.1 hu).1
  rw [allR_len] at hlt
  rcases h.own.2 with ⟨h1, h2⟩ | ⟨g', cap, cur, h1, hg, hh, hn, hq1, hq2, htk⟩
  · cases h1
  · simp only [Value.slice.injEq, Option.some.injEq, Addr.mk.injEq] at h1
    obtain ⟨⟨rfl, _⟩, _⟩ := h1
    rw [cellv, hh, cellOf_cells]
    rw [← htk, List.getElem?_take_of_lt (by omega)] at hu
    simpa using hu
theorem RefAt.oneR {w : World} {B : Nat} {v : Value} {R : List RefM} (h : RefAt w B v R) : ∀ u ∈ allR R, u.oneCell' = true := by
  intro u hu
  simp only [allR, List.mem_flatMap] at hu
  obtain ⟨r, hr, hu⟩ := hu
  have h1 := h.ok r hr
  obtain ⟨a, c, e1⟩ := h1.1.shape
  obtain ⟨b, cap, _, e2, _⟩ := h1.2
  exact rc_one r ⟨_, _, _, e1⟩ ⟨_, _, _, e2⟩ u hu
theorem append_nil161 (v : Value) (hv : ∃ a n c, v = .slice a n c ∧ n ≤ c) (ty : TypeId) (w : World) : (Builtin.append_ #[161, 161] ty #[v, .slice none 0 0]).run Tryz.prog w = .ok v w := by
  obtain ⟨a, n, c, rfl, hn⟩ := hv
  obtain ⟨i0, hi, hz0, hz1, hz2⟩ := info_parts Tryz.info223
  simp [Builtin.append_, run_underlying Tryz.underlying161, sizeOf, typeInfo, hi, Builtin.lenOf, Builtin.firstCells, hn]
  cases a <;> simp [storeCells]
theorem own_baseW {w : World} {B C e size n : Nat} {v : Value} {xs : List Value} (h : w.ownsRow B e size v n xs) (hC : C ≤ B) : w.ownsRow C e size v n xs := by
  obtain ⟨h1, h2⟩ := h
  refine ⟨h1, ?_⟩
  rcases h2 with h2 | ⟨g, cap, cur, hv, hg, r⟩
  · exact .inl h2
  · exact .inr ⟨g, cap, cur, hv, Nat.le_trans hC hg, r⟩
def WithPost (w : World) (pause clock : Int) (R' : List RefM) (e : Ending) (w' : World) : Prop := ∃ lv', e = .returned (engV pause clock lv') ∧ w'.ownsRow w.heap.size 223 7 lv' R'.length (allR R') ∧ New w w'
set_option maxRecDepth 100000 in
set_option maxHeartbeats 4000000 in
/-- With. -/
theorem With_calls {w : World} {B : Nat} {lv : Value} {R : List RefM} (h : RefAt w B lv R) (ho : (sagasOf R).Pairwise (fun a b => a.id < b.id)) (hl : R.length ≤ 1000) (pause clock : Int) (r : RefM) (hr1 : ∃ a n c, r.2.1 = .slice a n c) (hr2 : ∃ a n c, r.2.2 = .slice a n c) :
    Calls Tryz.prog 141 #[engV pause clock lv, .agg (rCells r).toArray] w (WithPost w pause clock (R.take (findI (sagasOf R) r.1.id) ++ r :: R.drop (findI (sagasOf R) r.1.id))) := by
  obtain ⟨i0, hi, hz0, hz1, hz2⟩ := info_parts Tryz.info223
  obtain ⟨a, c, rfl⟩ := h.shape
  have hone := rc_one r hr1 hr2
  obtain ⟨g, sv, mv⟩ := r
  simp only [rCells] at hone
  have hN : New w (((w.alloc (.cells #[.int .i64 pause, .int .i64 clock, .bool false, .slice a R.length c] 163)).alloc (.cells #[.int .i64 g.id, sv, .int .i64 g.st, .int .i64 g.step, .int .i64 g.tries, .int .i64 g.due, mv] 223)).alloc (.cells #[.int .i64 0, .int .i64 0, .bool false, .slice none 0 0] 163)) := (((Fr.refl _ w).alloc _).alloc _).alloc _
  have hb0 := heap_alloc_keep (.cells #[.int .i64 0, .int .i64 0, .bool false, .slice none 0 0] 163) (heap_alloc_keep (.cells #[.int .i64 g.id, sv, .int .i64 g.st, .int .i64 g.step, .int .i64 g.tries, .int .i64 g.due, mv] 223) (heap_alloc_new w (.cells #[.int .i64 pause, .int .i64 clock, .bool false, .slice a R.length c] 163)))
  have hb1 := heap_alloc_keep (.cells #[.int .i64 0, .int .i64 0, .bool false, .slice none 0 0] 163) (heap_alloc_new (w.alloc (.cells #[.int .i64 pause, .int .i64 clock, .bool false, .slice a R.length c] 163)) (.cells #[.int .i64 g.id, sv, .int .i64 g.st, .int .i64 g.step, .int .i64 g.tries, .int .i64 g.due, mv] 223))
  have hb2 := heap_alloc_new ((w.alloc (.cells #[.int .i64 pause, .int .i64 clock, .bool false, .slice a R.length c] 163)).alloc (.cells #[.int .i64 g.id, sv, .int .i64 g.st, .int .i64 g.step, .int .i64 g.tries, .int .i64 g.due, mv] 223)) (.cells #[.int .i64 0, .int .i64 0, .bool false, .slice none 0 0] 163)
  simp only [sz_alloc] at hb1 hb2
  have H1 := Lib.hid (h.new hN)
  have HN := Lib.hid hN
  have Ho := Lib.hid ho
  have Hl := Lib.hid hl
  have Hone := Lib.hid hone
  unfold engV rCells
  clear h hN ho hl hr1 hr2 hone
  go_enter Tryz.func141, Tryz.ntmps141
  go_upto_region 1 with fail
  generalize ((w.alloc (.cells #[.int .i64 pause, .int .i64 clock, .bool false, .slice a R.length c] 163)).alloc (.cells #[.int .i64 g.id, sv, .int .i64 g.st, .int .i64 g.step, .int .i64 g.tries, .int .i64 g.due, mv] 223)).alloc (.cells #[.int .i64 0, .int .i64 0, .bool false, .slice none 0 0] 163) = w1 at H1 HN hb0 hb1 hb2 ⊢
  have HNw : Hid (w.heap.size + 2 < w1.heap.size) := lt_of_hp hb2
  generalize hNN : w.heap.size = N at hb0 hb1 hb2 HNw ⊢
  have HNN := Lib.hid hNN
  clear hNN
  have HF := Lib.hid (Find_calls H1.out Ho.out Hl.out pause clock g.id)
  unfold engV FindPost at HF
  have Hb0 := Lib.hid hb0
  have Hb1 := Lib.hid hb1
  have Hb2 := Lib.hid hb2
  have hcv := cellv w1
  go_upto_region 3 with (first
    | (go_at_call 135; refine Calls.mono HF.out ?_; rintro e w2 ⟨rfl, hf2⟩)
    | fail)
  have hil := findI_le (sagasOf R) g.id
  rw [show (sagasOf R).length = R.length by simp [sagasOf]] at hil
  have Hil := Lib.hid hil
  have hb0 := hf2.get Hb0.out (fun f => f)
  have hb1 := hf2.get Hb1.out (fun f => f)
  have hb2 := hf2.get Hb2.out (fun f => f)
  generalize hfi : findI (sagasOf R) g.id = i at Hil hil ⊢
  have Hfi := Lib.hid hfi
  clear hfi
  have Hf2 := Lib.hid (HN.out.trans hf2)
  have H2 := Lib.hid (H1.out.new hf2)
  have HN2 : Hid (N + 2 < w2.heap.size) := Nat.lt_of_lt_of_le HNw.out hf2.size
  clear hf2 hcv HF H1 HN HNw Hb0 Hb1 Hb2
  have hcv := cellv w2
  have hi0 : (0 : Int) ≤ i := by omega
  have HB0 := Lib.hid hb0
  have HB1 := Lib.hid hb1
  have HB2 := Lib.hid hb2
  have hlen1 : (allR (R.take i)).length = i * 7 := by rw [allR_len, List.length_take, Nat.min_eq_left hil]
  have hlen2 : (allR (R.drop i)).length = (R.length - i) * 7 := by rw [allR_len, List.length_drop]
  have Hlen1 := Lib.hid hlen1
  have Hlen2 := Lib.hid hlen2
  have hoR := H2.out.oneR
  have Hone1 : Hid (∀ u ∈ allR (R.take i), u.oneCell' = true) := by
    intro u hu; rw [allR_take] at hu; exact hoR u (List.mem_of_mem_take hu)
  have Hone2 : Hid (∀ u ∈ allR (R.drop i), u.oneCell' = true) := by
    intro u hu; rw [allR_drop] at hu; exact hoR u (List.mem_of_mem_drop hu)
  clear hlen1 hlen2 hoR
  rcases H2.out.own.2 with ⟨h1, h2⟩ | ⟨gb, cap, cur, h1, _, _, hcap, _⟩
  · obtain rfl := List.length_eq_zero_iff.1 h2
    simp only [List.length_nil, Value.slice.injEq] at h1
    obtain ⟨rfl, _, rfl⟩ := h1
    obtain rfl : i = 0 := by simpa using hil
    have hnl := fun ty w => append_nil161 (.slice none 0 0) ⟨_, _, _, rfl, Nat.le_refl _⟩ ty w
    have Hnl := Lib.hid hnl
    clear hnl
    go_upto_region 4 with (first
      | (at_builtin; refine Lib.wpList_append_run _ rfl _ _ _ _ rfl _ _ rfl rfl _ _ (Hnl.out _ _) ?_; go_frame)
      | fail)
    have hoA := Lib.hid ((World.ownsRow_nil w2 w2.heap.size 223 7).alloc (.cells #[.int .i64 g.id, sv, .int .i64 g.st, .int .i64 g.step, .int .i64 g.tries, .int .i64 g.due, mv] 223))
    have hnews2 : ∀ (j : Nat) (u : Value), [Value.int .i64 g.id, sv, Value.int .i64 g.st, Value.int .i64 g.step, Value.int .i64 g.tries, Value.int .i64 g.due, mv][j]? = some u → (w2.alloc (.cells #[.int .i64 g.id, sv, .int .i64 g.st, .int .i64 g.step, .int .i64 g.tries, .int .i64 g.due, mv] 223)).cell? ((⟨w2.heap.size, 0, none⟩ : Addr).add j) = some u := World.news_of_block (heap_alloc_new w2 _)
    have Hnews2 := Lib.hid hnews2
    clear hnews2
    go_upto_region 5 with (first
      | (at_builtin; refine wpList_append_own _ rfl _ _ 161 rfl w2.heap.size 223 i0 (.agg #[.int .i64 0, .slice none 0 0, .int .i64 0, .int .i64 0, .int .i64 0, .int .i64 0, .slice none 0 0]) 7 88 Tryz.underlying161 hi hz0 hz1 hz2 rfl (by decide) _ _ _ rfl hoA.out ⟨w2.heap.size, 0, none⟩ 1 1 [Value.int .i64 g.id, sv, Value.int .i64 g.st, Value.int .i64 g.step, Value.int .i64 g.tries, Value.int .i64 g.due, mv] rfl rfl Hnews2.out Hone.out (by unfold maxLen; omega) (by omega) (by simp) ?_; intro l2 w5 hown5 hg5 _; obtain ⟨a5, n5, c5, rfl⟩ := own_slice hown5; go_frame)
      | fail)
    have hnl5 : Hid (∃ a n c, Value.slice a5 n5 c5 = .slice a n c ∧ n ≤ c) := by
      rcases hown5.2 with ⟨e, _⟩ | ⟨g, cap, cur, e, _, _, hle, _⟩
      · simp only [Value.slice.injEq] at e
        obtain ⟨rfl, rfl, rfl⟩ := e
        exact ⟨_, _, _, rfl, Nat.le_refl _⟩
      · simp only [Value.slice.injEq] at e
        obtain ⟨rfl, rfl, rfl⟩ := e
        exact ⟨_, _, _, rfl, hle⟩
    have Hnl6 := Lib.hid (fun ty w => append_nil161 (.slice a5 n5 c5) hnl5.out ty w)
    have hf5 : New w2 w5 := ((Fr.refl _ w2).alloc _).trans' (Fr.ofGrown hg5) (fun i hi e => by cases e)
    have hb0 := hf5.get HB0.out (fun f => f)
    have hb2 := hf5.get HB2.out (fun f => f)
    have Hf5 := Lib.hid hf5
    have Hown5 := Lib.hid hown5
    have Hb2 := Lib.hid hb2
    have Hb0 := Lib.hid hb0
    clear hcv hf5 hown5 hg5
    have hcv := cellv w5
    have hfv := frozv w5
    go_wp2_with (first
      | (at_builtin; refine Lib.wpList_append_run _ rfl _ _ _ _ rfl _ _ rfl rfl _ _ (Hnl6.out _ _) ?_; go_frame)
      | fail)
    refine bodyPost_ret (results_cell_row rfl _ _ (N + 1 + 1) 163 #[.int .i64 pause, .int .i64 clock, .bool false, .slice a5 n5 c5] (0, 0) _ rfl (by
      simp only [hp_setCell, if_true, if_neg (show ¬ N + 1 + 1 = N by omega), Hb2.out]; rfl) Tryz.underlying163 rfl Tryz.info163s) rfl ?_
    rw [Hfi.out]
    have hFS : Fr (fun k => k = N ∨ k = N + 1 + 1) w5 (((((w5.setCell ⟨N, 3, none⟩ (.slice a5 n5 c5)).setCell ⟨N + 1 + 1, 0, none⟩ (.int .i64 pause)).setCell ⟨N + 1 + 1, 1, none⟩ (.int .i64 clock)).setCell ⟨N + 1 + 1, 2, none⟩ (.bool false)).setCell ⟨N + 1 + 1, 3, none⟩ (.slice a5 n5 c5)) := (((((Fr.refl _ w5).setCell (fun _ => .inl rfl) _ _).setCell (fun _ => .inr rfl) _ _).setCell (fun _ => .inr rfl) _ _).setCell (fun _ => .inr rfl) _ _).setCell (fun _ => .inr rfl) _ _
    refine ⟨_, rfl, own_baseW (ownsRow_fr (by
      have h := Hown5.out
      show w5.ownsRow w2.heap.size 223 7 (.slice a5 n5 c5) 1 (allR [(g, sv, mv)])
      exact h) hFS ?_) Hf2.out.size, (Hf2.out.trans Hf5.out).trans' hFS ?_⟩
    · rintro k (rfl | rfl)
      · exact ⟨_, Hb0.out, by simp [kindOf]⟩
      · exact ⟨_, Hb2.out, by simp [kindOf]⟩
    · have := HNN.out
      rintro k hk (rfl | rfl) <;> omega
  · simp only [Value.slice.injEq] at h1
    obtain ⟨rfl, _, rfl⟩ := h1
    have hnews1 : ∀ (j : Nat) (u : Value), (allR (R.take i))[j]? = some u → w2.cell? ((⟨gb, 0, none⟩ : Addr).add j) = some u := by
      intro j u hj
      rw [Addr.add_lit, Nat.zero_add]
      have hjl := (List.getElem?_eq_some_iff.1 hj).1
      rw [Hlen1.out] at hjl
      rw [allR_take, List.getElem?_take_of_lt hjl] at hj
      exact H2.out.cellR j u hj
    have Hnews1 := Lib.hid hnews1
    have hic : i ≤ c := by omega
    have Hcap := Lib.hid hcap
    have Hb0 := Lib.hid hb0
    have Hb1 := Lib.hid hb1
    have Hb2 := Lib.hid hb2
    clear hnews1
    go_upto_region 4 with (first
      | (at_builtin; refine wpList_append_own _ rfl _ _ 161 rfl w2.heap.size 223 i0 (.agg #[.int .i64 0, .slice none 0 0, .int .i64 0, .int .i64 0, .int .i64 0, .int .i64 0, .slice none 0 0]) 7 88 Tryz.underlying161 hi hz0 hz1 hz2 rfl (by decide) _ _ _ rfl (World.ownsRow_nil w2 w2.heap.size 223 7) ⟨gb, 0, none⟩ i c (allR (R.take i)) rfl Hlen1.out Hnews1.out Hone1.out (by have := Hl.out; have := Hil.out; unfold maxLen; omega) (by have := Hl.out; have := Hil.out; omega) (Nat.le_refl _) ?_; intro l1 w3 hown3 hg3 _; obtain ⟨a3, n3, c3, rfl⟩ := own_slice hown3; go_frame)
      | fail)
    have hf3 : New w2 w3 := (Fr.ofGrown hg3).mono (fun _ _ e => by cases e)
    rw [Nat.zero_add, List.nil_append] at hown3
    have hb0 := hf3.get Hb0.out (fun f => f)
    have hb1 := hf3.get Hb1.out (fun f => f)
    have hb2 := hf3.get Hb2.out (fun f => f)
    have Hf3 := Lib.hid hf3
    have Hown3 := Lib.hid hown3
    clear hf3 hown3 hg3 hcv Hb0 Hb1 Hb2 hic
    have hcv := cellv w3
    have hpA := heap_alloc_keep (.cells #[.int .i64 g.id, sv, .int .i64 g.st, .int .i64 g.step, .int .i64 g.tries, .int .i64 g.due, mv] 223) hb0
    have hoA := Lib.hid (Hown3.out.alloc (.cells #[.int .i64 g.id, sv, .int .i64 g.st, .int .i64 g.step, .int .i64 g.tries, .int .i64 g.due, mv] 223))
    have hnews2 : ∀ (j : Nat) (u : Value), [Value.int .i64 g.id, sv, Value.int .i64 g.st, Value.int .i64 g.step, Value.int .i64 g.tries, Value.int .i64 g.due, mv][j]? = some u → (w3.alloc (.cells #[.int .i64 g.id, sv, .int .i64 g.st, .int .i64 g.step, .int .i64 g.tries, .int .i64 g.due, mv] 223)).cell? ((⟨w3.heap.size, 0, none⟩ : Addr).add j) = some u := World.news_of_block (heap_alloc_new w3 _)
    have Hnews2 := Lib.hid hnews2
    have Hb0 := Lib.hid hb0
    have Hb1 := Lib.hid hb1
    have Hb2 := Lib.hid hb2
    clear hnews2 hpA
    go_upto_region 5 with (first
      | (at_builtin; refine wpList_append_own _ rfl _ _ 161 rfl w2.heap.size 223 i0 (.agg #[.int .i64 0, .slice none 0 0, .int .i64 0, .int .i64 0, .int .i64 0, .int .i64 0, .slice none 0 0]) 7 88 Tryz.underlying161 hi hz0 hz1 hz2 rfl (by decide) _ _ _ rfl hoA.out ⟨w3.heap.size, 0, none⟩ 1 1 [Value.int .i64 g.id, sv, Value.int .i64 g.st, Value.int .i64 g.step, Value.int .i64 g.tries, Value.int .i64 g.due, mv] rfl rfl Hnews2.out Hone.out (by have := Hl.out; have := Hil.out; unfold maxLen; omega) (by have := Hl.out; have := Hil.out; omega) (by have := Hf3.out.size; simp; omega) ?_; intro l2 w4 hown4 hg4 _; obtain ⟨a4, n4, c4, rfl⟩ := own_slice hown4; go_frame)
      | fail)
    have hf4 : New w2 w4 := (Hf3.out.alloc _).trans' (Fr.ofGrown hg4) (fun i hi e => by have := (Hown3.out.lt i e).1; omega)
    have hb0 := hf4.get HB0.out (fun f => f)
    have Hown4 := Lib.hid hown4
    have Hf4 := Lib.hid hf4
    have hic : i ≤ R.length := Hil.out
    have hcap : R.length ≤ c := Hcap.out
    have e1 : i + 1 + (R.length - i) ≤ maxLen := by have := Hl.out; have := Hil.out; unfold maxLen; omega
    have e2 : (i + 1 + (R.length - i)) * 88 ≤ 140737488355328 := by have := Hl.out; have := Hil.out; omega
    have E1 := Lib.hid e1
    have E2 := Lib.hid e2
    clear hb1 hb2 hcv hown4 hf4 hg4 hoA Hb0 Hb1 Hb2 e1 e2
    have hcv := cellv w4
    by_cases hci : c = i
    · obtain rfl : i = R.length := by omega
      obtain rfl : c = R.length := by omega
      go_upto_region 6 with (first
        | (at_builtin; refine wpList_append_own _ rfl _ _ 161 rfl w2.heap.size 223 i0 (.agg #[.int .i64 0, .slice none 0 0, .int .i64 0, .int .i64 0, .int .i64 0, .int .i64 0, .slice none 0 0]) 7 88 Tryz.underlying161 hi hz0 hz1 hz2 rfl (by decide) _ _ _ rfl Hown4.out ⟨gb, 0, none⟩ 0 0 [] rfl rfl (fun j u hu => by simp at hu) (fun u hu => by simp at hu) (by have := Hl.out; unfold maxLen; omega) (by have := Hl.out; omega) Hf4.out.size ?_; intro l3 w5 hown5 hg5 _; obtain ⟨a5, n5, c5, rfl⟩ := own_slice hown5; go_frame)
        | fail)
      have hf5 : New w2 w5 := Hf4.out.trans' (Fr.ofGrown hg5) (fun i hi e => by have := (Hown4.out.lt i e).1; omega)
      have hb0 := hf5.get HB0.out (fun f => f)
      have hb2 := hf5.get HB2.out (fun f => f)
      have Hf5 := Lib.hid hf5
      have Hown5 := Lib.hid hown5
      have Hb2 := Lib.hid hb2
      have Hb0 := Lib.hid hb0
      clear hcv hf5 hown5 hg5
      have hcv := cellv w5
      have hfv := frozv w5
      go_wp2_with fail
      refine bodyPost_ret (results_cell_row rfl _ _ (N + 1 + 1) 163 #[.int .i64 pause, .int .i64 clock, .bool false, .slice a5 n5 c5] (0, 0) _ rfl (by
        simp only [hp_setCell, if_true, if_neg (show ¬ N + 1 + 1 = N by omega), Hb2.out]; rfl) Tryz.underlying163 rfl Tryz.info163s) rfl ?_
      rw [Hfi.out]
      have hFS : Fr (fun k => k = N ∨ k = N + 1 + 1) w5 (((((w5.setCell ⟨N, 3, none⟩ (.slice a5 n5 c5)).setCell ⟨N + 1 + 1, 0, none⟩ (.int .i64 pause)).setCell ⟨N + 1 + 1, 1, none⟩ (.int .i64 clock)).setCell ⟨N + 1 + 1, 2, none⟩ (.bool false)).setCell ⟨N + 1 + 1, 3, none⟩ (.slice a5 n5 c5)) := (((((Fr.refl _ w5).setCell (fun _ => .inl rfl) _ _).setCell (fun _ => .inr rfl) _ _).setCell (fun _ => .inr rfl) _ _).setCell (fun _ => .inr rfl) _ _).setCell (fun _ => .inr rfl) _ _
      refine ⟨_, rfl, own_baseW (ownsRow_fr (by
        have h := Hown5.out
        rw [show (R.take R.length ++ (g, sv, mv) :: R.drop R.length).length = R.length + 1 + 0 by simp, show allR (R.take R.length ++ (g, sv, mv) :: R.drop R.length) = allR (R.take R.length) ++ [Value.int .i64 g.id, sv, Value.int .i64 g.st, Value.int .i64 g.step, Value.int .i64 g.tries, Value.int .i64 g.due, mv] ++ [] by simp [allR, rCells]]
        exact h) hFS ?_) Hf2.out.size, (Hf2.out.trans Hf5.out).trans' hFS ?_⟩
      · rintro k (rfl | rfl)
        · exact ⟨_, Hb0.out, by simp [kindOf]⟩
        · exact ⟨_, Hb2.out, by simp [kindOf]⟩
      · have := HNN.out
        rintro k hk (rfl | rfl) <;> omega
    have hnews3 : ∀ (j : Nat) (u : Value), (allR (R.drop i))[j]? = some u → w4.cell? ((⟨gb, i * 7, none⟩ : Addr).add j) = some u := by
      intro j u hj
      rw [Addr.add_lit]
      rw [allR_drop, List.getElem?_drop] at hj
      exact (H2.out.new Hf4.out).cellR _ u hj
    have Hnews3 := Lib.hid hnews3
    clear hnews3
    go_upto_region 6 with (first
      | (at_builtin; refine wpList_append_own _ rfl _ _ 161 rfl w2.heap.size 223 i0 (.agg #[.int .i64 0, .slice none 0 0, .int .i64 0, .int .i64 0, .int .i64 0, .int .i64 0, .slice none 0 0]) 7 88 Tryz.underlying161 hi hz0 hz1 hz2 rfl (by decide) _ _ _ rfl Hown4.out ⟨gb, i * 7, none⟩ (R.length - i) (c - i) (allR (R.drop i)) rfl Hlen2.out Hnews3.out Hone2.out E1.out E2.out Hf4.out.size ?_; intro l3 w5 hown5 hg5 _; obtain ⟨a5, n5, c5, rfl⟩ := own_slice hown5; go_frame)
      | fail)
    have hf5 : New w2 w5 := Hf4.out.trans' (Fr.ofGrown hg5) (fun i hi e => by have := (Hown4.out.lt i e).1; omega)
    have hb0 := hf5.get HB0.out (fun f => f)
    have hb2 := hf5.get HB2.out (fun f => f)
    have Hf5 := Lib.hid hf5
    have Hown5 := Lib.hid hown5
    have Hb2 := Lib.hid hb2
    have Hb0 := Lib.hid hb0
    clear hcv hf5 hown5 hg5
    have hcv := cellv w5
    have hfv := frozv w5
    go_wp2_with fail
    refine bodyPost_ret (results_cell_row rfl _ _ (N + 1 + 1) 163 #[.int .i64 pause, .int .i64 clock, .bool false, .slice a5 n5 c5] (0, 0) _ rfl (by
      simp only [hp_setCell, if_true, if_neg (show ¬ N + 1 + 1 = N by omega), Hb2.out]; rfl) Tryz.underlying163 rfl Tryz.info163s) rfl ?_
    rw [Hfi.out]
    have hFS : Fr (fun k => k = N ∨ k = N + 1 + 1) w5 (((((w5.setCell ⟨N, 3, none⟩ (.slice a5 n5 c5)).setCell ⟨N + 1 + 1, 0, none⟩ (.int .i64 pause)).setCell ⟨N + 1 + 1, 1, none⟩ (.int .i64 clock)).setCell ⟨N + 1 + 1, 2, none⟩ (.bool false)).setCell ⟨N + 1 + 1, 3, none⟩ (.slice a5 n5 c5)) := (((((Fr.refl _ w5).setCell (fun _ => .inl rfl) _ _).setCell (fun _ => .inr rfl) _ _).setCell (fun _ => .inr rfl) _ _).setCell (fun _ => .inr rfl) _ _).setCell (fun _ => .inr rfl) _ _
    refine ⟨_, rfl, own_baseW (ownsRow_fr (by
      have h := Hown5.out
      rw [show (R.take i ++ (g, sv, mv) :: R.drop i).length = i + 1 + (R.length - i) by have := Hil.out; simp; omega, show allR (R.take i ++ (g, sv, mv) :: R.drop i) = allR (R.take i) ++ [Value.int .i64 g.id, sv, Value.int .i64 g.st, Value.int .i64 g.step, Value.int .i64 g.tries, Value.int .i64 g.due, mv] ++ allR (R.drop i) by simp [allR, rCells]]
      exact h) hFS ?_) Hf2.out.size, (Hf2.out.trans Hf5.out).trans' hFS ?_⟩
    · rintro k (rfl | rfl)
      · exact ⟨_, Hb0.out, by simp [kindOf]⟩
      · exact ⟨_, Hb2.out, by simp [kindOf]⟩
    · have := HNN.out
      rintro k hk (rfl | rfl) <;> omega
end Go.Proofs.YtkafmfdipmhleaaGreatDoor

namespace Go.Proofs.YtkafmfdipmhleaaGreatDoor
open Go.RowKit Go.Maps
/-- The engine that is open. -/
structure EngR where
  xb : Nat
  jb : Nat
  mb : Nat
  bl : List Nat
  fresh : Bool
  cv : Value
  a : AskM
/-- A disk of a script. -/
structure RD where
  kb : Nat
  db : Nat
  bb : Nat
  pb : Nat
  n : Nat
  ep : Nat
  d : DiskM
  p : PartM
  evs : List Ev
  R : List RefM
  pz : Int
  ck : Int
  lv : Value
  pl : Value
  pe : Value
  pi : Value
  x : Option EngR
def xvOf (o : RD) : Value := match o.x with
  | none => .pointer none
  | some e => .pointer (some ⟨e.xb, 0, none⟩)
def rdCells (o : RD) : Array Value := #[.pointer (some ⟨o.db, 0, none⟩), .pointer (some ⟨o.pb, 0, none⟩), .int .i64 o.n, .bool (decide (o.ep = 0)), .bool false, xvOf o, .int .i64 o.pz, .int .i64 o.ck, .bool false, o.lv]
def RD.st (o : RD) (e : EngR) : StM := ⟨o.pz, o.ck, sagasOf o.R, ⟨o.ep, 1 + evLen o.evs, e.fresh⟩, o.d, o.p⟩
def RD.pl_ (o : RD) (e : EngR) : Pl := ⟨e.xb, e.jb, e.mb, o.db, o.bb, o.pb⟩
/-- What is the disk's own. -/
def RD.own (o : RD) (k : Nat) : Prop := k = o.kb ∨ k = o.db ∨ k = o.bb ∨ k = o.pb ∨ o.lv.ownBlock = some k ∨ o.pl.ownBlock = some k ∨ o.pe.ownBlock = some k ∨ (∃ a n c, o.pi = .slice (some a) n c ∧ a.block = k) ∨ ∃ e, o.x = some e ∧ (k = e.xb ∨ k = e.jb ∨ k = e.mb ∨ k ∈ e.bl)
structure RunAt (w : World) (B : Nat) (o : RD) : Prop where
  st : w.heap[o.kb]? = some (.cells (rdCells o) 165 (0, 0))
  dk : DiskAt w o.db o.bb o.d
  ps : w.heap[o.pb]? = some (.cells #[o.pl, o.pe, o.pi, .int .i64 o.p.at_] 44 (0, 0))
  pt : PAt w o.pb o.p
  pi : o.p.l = [] → o.pi = .slice none 0 0
  ref : RefAt w B o.lv o.R
  eng : ∀ e, o.x = some e → StV e.cv w (o.pl_ e) e.bl (o.st e) ∧ Asks e.cv o.pb e.a
  lo : ∀ k, o.own k → B ≤ k
structure RDok (m : Nat) (o : RD) : Prop where
  quiet : o.d.quiet
  pend : o.d.pend = none
  len : o.d.blocks.length = o.n
  nl : o.n < 1000
  cal : 0 ≤ o.d.calls ∧ o.d.calls + 20000 * m ≤ 2 ^ 40
  je : 0 < o.n → JE o.d.blocks o.ep o.evs
  ep : o.ep + m ≤ 100000
  core : coreL (sagasOf o.R) = o.evs.foldl applyEv []
  cap : (evLen o.evs : Int) + leftSum (sagasOf o.R) ≤ capSum (sagasOf o.R)
  ok : ∀ g ∈ sagasOf o.R, g.ok
  ord : (sagasOf o.R).Pairwise (fun a b => a.id < b.id)
  room : o.ep ≠ 0 → (1 + evLen o.evs : Nat) + leftSum (sagasOf o.R) ≤ o.n
  fits : o.ep ≠ 0 → 8 ≤ o.n ∧ o.n ≤ 400
  zero : o.ep = 0 → o.R = [] ∧ o.x = none
  fine : o.p.fine (2000 * m)
  tries : ∀ g ∈ sagasOf o.R, g.tries + 2000 * m < 2 ^ 30
  clock : 0 ≤ o.ck ∧ o.ck + m ≤ 2 ^ 30
  eng : ∀ e, o.x = some e → (1 ≤ o.pz ∧ o.pz ≤ 64) ∧ (e.a = askP ∨ e.a = askF)
theorem RDok.less {m k : Nat} {o : RD} (h : RDok m o) (hk : k ≤ m) : RDok k o :=
  ⟨h.quiet, h.pend, h.len, h.nl, ⟨h.cal.1, by have := h.cal.2; omega⟩, h.je, by have := h.ep; omega, h.core, h.cap, h.ok, h.ord, h.room, h.fits, h.zero, h.fine.less (by omega), fun g hg => by have := h.tries g hg; omega, ⟨h.clock.1, by have := h.clock.2; omega⟩, h.eng⟩
theorem RDok.epx {m : Nat} {o : RD} {e : EngR} (h : RDok m o) (hx : o.x = some e) : o.ep ≠ 0 := by
  intro h0
  have := (h.zero h0).2
  rw [hx] at this; cases this
theorem RDok.inv {m : Nat} {o : RD} {e : EngR} (h : RDok m o) (hx : o.x = some e) : (o.st e).inv := by
  have h1 := h.room (h.epx hx)
  exact ⟨h.quiet, h.pend, by show o.ep < _; have := h.ep; omega, h.ok, h.ord, by show ((1 + evLen o.evs : Nat) : Int) + leftSum (sagasOf o.R) ≤ o.d.blocks.length; rw [h.len]; exact h1, by show o.d.blocks.length ≤ 1000; rw [h.len]; have := h.nl; omega, (h.eng e hx).1⟩
theorem RDok.engJ {m : Nat} {o : RD} {e : EngR} (h : RDok m o) (hx : o.x = some e) : EngJ (o.st e) o.evs := ⟨h.je (by have := h.fits (h.epx hx); omega), h.epx hx, rfl, h.core, h.cap⟩
theorem RDok.lenR {m : Nat} {o : RD} (h : RDok m o) : o.R.length ≤ 1000 := by
  have := len_of_ord (sagasOf o.R) 0 1000 h.ord (fun g hg => by have := h.ok g hg; exact ⟨by have := this.1; omega, this.2.1⟩) (by omega)
  simp [sagasOf] at this
  omega
theorem RDok.steps6 {m : Nat} {o : RD} (h : RDok m o) : ∀ r ∈ o.R, r.1.steps.length ≤ 6 := fun r hr => (h.ok r.1 (List.mem_map.2 ⟨r, hr, rfl⟩)).2.2.1.2.1
def RO : List Nat := [55, 193, 221]
theorem own_cells {w : World} {B e size n : Nat} {v : Value} {xs : List Value} (h : w.ownsRow B e size v n xs) {k : Nat} (hk : v.ownBlock = some k) : ∃ c, w.heap[k]? = some (.cells c e (0, 0)) := by
  rcases h.2 with ⟨rfl, _⟩ | ⟨g, cap, cur, rfl, hg, hh, r⟩
  · simp [Value.ownBlock] at hk
  · obtain rfl : g = k := by simpa [Value.ownBlock] using hk
    exact ⟨_, hh⟩
theorem RunAt.parts {w : World} {B : Nat} {o : RD} (h : RunAt w B o) : w.ownsRow o.p.lo 48 5 o.pl o.p.log.length (logCells o.p.log) ∧ w.ownsRow o.p.lo 46 4 o.pe o.p.effs.length (effCells o.p.effs) ∧ IntsAt w o.pi o.p.l := by
  obtain ⟨⟨lv, ev, iv, C, h1, h2, h3, h4, h5, h6⟩⟩ := h.pt
  have h0 := h.ps
  rw [h1] at h0
  simp only [Option.some.injEq, Obj.cells.injEq, Array.mk.injEq, List.cons.injEq] at h0
  obtain ⟨⟨rfl, rfl, rfl, _⟩, _⟩ := h0
  obtain ⟨_, rfl, _⟩ := h5
  exact ⟨h2, h3, h4⟩
/-- What the disk's own blocks hold. -/
theorem RunAt.kinds {w : World} {B : Nat} {o : RD} (h : RunAt w B o) {k : Nat} (hk : o.own k) : ∃ ob, w.heap[k]? = some ob ∧ kindOf ob ∈ [166, 103, 104, 45, 224, 49, 47, 4, 80, 133, 0, 89] := by
  obtain ⟨h1, h2, h3⟩ := h.parts
  obtain ⟨_, _, _, _, e1, e2, _⟩ := h.dk
  rcases hk with rfl | rfl | rfl | rfl | hk | hk | hk | ⟨a, n, c, ha, rfl⟩ | ⟨e, he, hk⟩
  · exact ⟨_, h.st, by simp [kindOf]⟩
  · exact ⟨_, e1, by simp [kindOf]⟩
  · exact ⟨_, e2, by simp [kindOf]⟩
  · exact ⟨_, h.ps, by simp [kindOf]⟩
  · obtain ⟨c, hc⟩ := own_cells h.ref.own hk
    exact ⟨_, hc, by simp [kindOf]⟩
  · obtain ⟨c, hc⟩ := own_cells h1 hk
    exact ⟨_, hc, by simp [kindOf]⟩
  · obtain ⟨c, hc⟩ := own_cells h2 hk
    exact ⟨_, hc, by simp [kindOf]⟩
  · rcases h3 with ⟨hl, _⟩ | ⟨b, off, cap, c', e3, e4, _⟩
    · have := h.pi hl
      rw [ha] at this; cases this
    · rw [ha] at e3
      simp only [Value.slice.injEq, Option.some.injEq] at e3
      obtain ⟨rfl, _⟩ := e3
      exact ⟨_, e4, by simp [kindOf]⟩
  · obtain ⟨hs, _⟩ := h.eng e he
    rcases hk with rfl | rfl | rfl | hk
    · exact ⟨_, hs.eng, by simp [kindOf]⟩
    · exact ⟨_, hs.jn, by simp [kindOf]⟩
    · obtain ⟨es, clock, hb, _⟩ := hs.mp
      exact ⟨_, hb, by simp [kindOf]⟩
    · obtain ⟨i, hi⟩ := List.getElem?_of_mem hk
      have hil := (List.getElem?_eq_some_iff.1 hi).1
      rw [hs.len] at hil
      obtain ⟨_, e1, _⟩ := hs.sg i _ k (List.getElem?_eq_getElem hil) hi
      exact ⟨_, e1, by simp [kindOf]⟩
theorem RunAt.lt {w : World} {B : Nat} {o : RD} (h : RunAt w B o) {k : Nat} (hk : o.own k) : k < w.heap.size := by
  obtain ⟨ob, h1, _⟩ := h.kinds hk
  exact lt_of_hp h1
theorem RunAt.kRO {w : World} {B : Nat} {o : RD} (h : RunAt w B o) {k : Nat} (hk : o.own k) : ∃ ob, w.heap[k]? = some ob ∧ kindOf ob ∉ RO := by
  obtain ⟨ob, h1, h2⟩ := h.kinds hk
  refine ⟨ob, h1, fun h3 => ?_⟩
  simp [RO] at h2 h3
  omega
theorem SagaAt.fr {w w' : World} {b : Nat} {g : SagaM} {S : Nat → Prop} (h : SagaAt w b g) (hf : Fr S w w') (hb : ¬ S b) (hS : ∀ k, S k → ∃ ob, w.heap[k]? = some ob ∧ kindOf ob ∉ RO) : SagaAt w' b g :=
  h.frame hf (fun k hk => ⟨fun e => hb (e ▸ hk), by
    obtain ⟨ob, h1, h2⟩ := hS k hk
    exact ⟨ob, h1, fun e => h2 (by rw [e]; simp [RO])⟩⟩)
theorem map_fr {w w' : World} {S : Nat → Prop} {mb n : Nat} {D : DataW Unit} (h : w.ownsMap Tryz.prog 3 ptrR mb n D) (hf : Fr S w w') (h1 : ¬ S mb) : w'.ownsMap Tryz.prog 3 ptrR mb n D := by
  obtain ⟨es, clock, hb, r⟩ := h
  exact ⟨es, clock, hf.get hb h1, r⟩
theorem DiskAt.frP {w w' : World} {S : Nat → Prop} {db bb : Nat} {d : DiskM} (h : DiskAt w db bb d) (hf : Fr S w w') (hp : d.pend = none) (h1 : ¬ S db) (h2 : ¬ S bb) : DiskAt w' db bb d := by
  obtain ⟨hwf, cap, rest, cv, e1, e2, e3⟩ := h
  refine ⟨hwf, cap, rest, cv, hf.get e1 h1, hf.get e2 h2, ?_⟩
  rw [hp] at e3 ⊢; exact e3
/-- Nothing of the disk's own has turned. -/
theorem RunAt.fr {w w' : World} {B : Nat} {o : RD} {S : Nat → Prop} (h : RunAt w B o) (hp : o.d.pend = none) (hf : Fr S w w') (hS : ∀ k, S k → ¬ o.own k) (hR : ∀ k, S k → ∃ ob, w.heap[k]? = some ob ∧ kindOf ob ∉ RO) : RunAt w' B o := by
  have hn : ∀ k, o.own k → ¬ S k := fun k hk hs => hS k hs hk
  obtain ⟨p1, p2, p3⟩ := h.parts
  have hdb : ¬ S o.db := hn _ (.inr (.inl rfl))
  have hbb : ¬ S o.bb := hn _ (.inr (.inr (.inl rfl)))
  have hpb : ¬ S o.pb := hn _ (.inr (.inr (.inr (.inl rfl))))
  have hdk := h.dk.frP hf hp hdb hbb
  have hps := hf.get h.ps hpb
  have hpt : PAt w' o.pb o.p := by
    obtain ⟨⟨lv, ev, iv, C, h1, h2, h3, h4, h5, h6⟩⟩ := h.pt
    have h0 := h.ps
    rw [h1] at h0
    simp only [Option.some.injEq, Obj.cells.injEq, Array.mk.injEq, List.cons.injEq] at h0
    obtain ⟨⟨e1, e2, e3, _⟩, _⟩ := h0
    subst e1 e2 e3
    refine ⟨⟨_, _, _, C, hf.get h1 hpb, own_frS h2 hf (fun k hk => hn k (.inr (.inr (.inr (.inr (.inr (.inl hk))))))), own_frS h3 hf (fun k hk => hn k (.inr (.inr (.inr (.inr (.inr (.inr (.inl hk)))))))), ?_, ⟨Nat.le_trans h5.1 hf.size, h5.2⟩, h6⟩⟩
    rcases h4 with h4 | ⟨b, off, cap, c, e, e4, e5⟩
    · exact .inl h4
    · exact .inr ⟨b, off, cap, c, e, hf.get e4 (hn b (.inr (.inr (.inr (.inr (.inr (.inr (.inr (.inl ⟨_, _, _, e, rfl⟩))))))))), e5⟩
  refine ⟨hf.get h.st (hn _ (.inl rfl)), hdk, hps, hpt, h.pi, h.ref.fr hf (fun k hk => by obtain ⟨ob, h1, h2⟩ := hR k hk; exact ⟨ob, h1, fun e => h2 (by simp [RO] at e ⊢; omega)⟩) (fun k hk => hn k (.inr (.inr (.inr (.inr (.inl hk)))))), fun e he => ?_, h.lo⟩
  obtain ⟨hs, ha⟩ := h.eng e he
  have hx : ∀ k, (k = e.xb ∨ k = e.jb ∨ k = e.mb ∨ k ∈ e.bl) → ¬ S k := fun k hk => hn k (.inr (.inr (.inr (.inr (.inr (.inr (.inr (.inr ⟨e, he, hk⟩))))))))
  exact ⟨⟨hf.get hs.eng (hx _ (.inl rfl)), hf.get hs.jn (hx _ (.inr (.inl rfl))), hdk, hpt, map_fr hs.mp hf (hx _ (.inr (.inr (.inl rfl)))), hs.len, fun i g b hg hb => (hs.sg i g b hg hb).fr hf (hx _ (.inr (.inr (.inr (List.mem_of_getElem? hb))))) hR, hs.nd⟩, ha⟩
theorem RunAt.new {w w' : World} {B : Nat} {o : RD} (h : RunAt w B o) (hp : o.d.pend = none) (hf : New w w') : RunAt w' B o := h.fr hp hf (fun _ f => f.elim) (fun _ f => f.elim)
/-- What a step on a disk makes of it. -/
def Turned (w : World) (B m : Nat) (o : RD) (w' : World) : Prop := ∃ o', RunAt w' B o' ∧ RDok m o' ∧ (o'.kb = o.kb ∧ o'.db = o.db ∧ o'.bb = o.bb ∧ o'.pb = o.pb) ∧ (∀ k, o'.own k → o.own k ∨ w.heap.size ≤ k) ∧ Fr o.own w w'
theorem Turned.same {w w' : World} {B m k : Nat} {o : RD} (h : RunAt w B o) (hk : RDok k o) (hm : m ≤ k) (hf : New w w') : Turned w B m o w' :=
  ⟨o, h.new hk.pend hf, hk.less hm, ⟨rfl, rfl, rfl, rfl⟩, fun _ h => .inl h, hf.mono (fun _ _ f => f.elim)⟩
end Go.Proofs.YtkafmfdipmhleaaGreatDoor

namespace Go.Proofs.YtkafmfdipmhleaaGreatDoor
open Go.RowKit Go.Maps
def ptrsR (l : List RD) : List Value := l.map fun o => .pointer (some ⟨o.kb, 0, none⟩)
/-- The cells of a script's world. -/
structure WdR (w : World) (B wb m : Nat) (kv rv sv dv fv : Value) (ks rs : List Int) (ss : List (ByteArray × ByteArray)) (l : List RD) (fs : List Bool) : Prop where
  cells : w.heap[wb]? = some (.cells #[kv, rv, sv, dv, fv] 118 (0, 0))
  keep : w.ownsRow B 3 1 kv ks.length (ks.map encZ)
  reps : w.ownsRow B 3 1 rv rs.length (rs.map encZ)
  apart : ∀ k, kv.ownBlock = some k → rv.ownBlock ≠ some k
  stps : w.ownsRow B 192 2 sv ss.length (stepCells ss)
  dsks : w.ownsRow B 159 1 dv l.length (ptrsR l)
  fls : w.ownsRow B 4 1 fv fs.length (fs.map .bool)
  num : fs.length = l.length
  lk : ks.length + m ≤ 60000
  lr : rs.length + m ≤ 60000
  ls : ss.length + m ≤ 60000
  off : ∀ o ∈ l, ∀ k, (kv.ownBlock = some k ∨ rv.ownBlock = some k) → ¬ o.own k
def ApartR (a b : RD) : Prop := ∀ k, a.own k → ¬ b.own k
/-- A script's world. -/
structure RW (w : World) (B wb m : Nat) (l : List RD) (fs : List Bool) : Prop where
  wd : ∃ kv rv sv dv fv ks rs ss, WdR w B wb m kv rv sv dv fv ks rs ss l fs
  ds : ∀ o ∈ l, RunAt w B o
  ok : ∀ o ∈ l, RDok m o
  nd : l.Pairwise ApartR
  lo : B ≤ wb ∧ B ≤ w.heap.size
  len : l.length + m ≤ 60000
  fa : ∀ (i : Nat) (o : RD) (f : Bool), l[i]? = some o → fs[i]? = some f → ∀ e : EngR, o.x = some e → e.a = if f then askF else askP
def KO : List Nat := [119, 4, 160, 5]
/-- Blocks of these kinds, none of a disk's. -/
theorem rds_keep {w w' : World} {B m : Nat} {l : List RD} {S : Nat → Prop} (hd : ∀ o ∈ l, RunAt w B o) (hk : ∀ o ∈ l, RDok m o) (hf : Fr S w w') (hS : ∀ k, S k → ∃ ob, w.heap[k]? = some ob ∧ kindOf ob ∈ KO) (hn : ∀ o ∈ l, ∀ k, S k → ¬ o.own k) : ∀ o ∈ l, RunAt w' B o := by
  intro o ho
  refine (hd o ho).fr (hk o ho).pend hf (hn o ho) (fun k hs => ?_)
  obtain ⟨ob, h1, h2⟩ := hS k hs
  refine ⟨ob, h1, fun h3 => ?_⟩
  simp [KO, RO] at h2 h3
  omega
theorem RunAt.notK {w : World} {B : Nat} {o : RD} (h : RunAt w B o) {k : Nat} {ob : Obj} (hk : w.heap[k]? = some ob) (hb : kindOf ob ∈ [119, 160, 5, 193]) : ¬ o.own k := by
  intro ho
  obtain ⟨ob', h1, h2⟩ := h.kinds ho
  rw [hk] at h1; cases h1
  simp at h2 hb
  omega
theorem WdR.fr {w w' : World} {B wb m : Nat} {kv rv sv dv fv : Value} {ks rs : List Int} {ss : List (ByteArray × ByteArray)} {l : List RD} {fs : List Bool} {S : Nat → Prop} (h : WdR w B wb m kv rv sv dv fv ks rs ss l fs) (hf : Fr S w w') (hS : ∀ k, S k → k ≠ wb ∧ kv.ownBlock ≠ some k ∧ rv.ownBlock ≠ some k ∧ sv.ownBlock ≠ some k ∧ dv.ownBlock ≠ some k ∧ fv.ownBlock ≠ some k) : WdR w' B wb m kv rv sv dv fv ks rs ss l fs :=
  ⟨hf.get h.cells (fun s => (hS _ s).1 rfl), own_frS h.keep hf (fun k hk s => (hS _ s).2.1 hk), own_frS h.reps hf (fun k hk s => (hS _ s).2.2.1 hk), h.apart, own_frS h.stps hf (fun k hk s => (hS _ s).2.2.2.1 hk), own_frS h.dsks hf (fun k hk s => (hS _ s).2.2.2.2.1 hk), own_frS h.fls hf (fun k hk s => (hS _ s).2.2.2.2.2 hk), h.num, h.lk, h.lr, h.ls, h.off⟩
theorem WdR.new {w w' : World} {B wb m : Nat} {kv rv sv dv fv : Value} {ks rs : List Int} {ss : List (ByteArray × ByteArray)} {l : List RD} {fs : List Bool} (h : WdR w B wb m kv rv sv dv fv ks rs ss l fs) (hf : New w w') : WdR w' B wb m kv rv sv dv fv ks rs ss l fs := h.fr hf (fun _ f => f.elim)
theorem WdR.less {w : World} {B wb m k : Nat} {kv rv sv dv fv : Value} {ks rs : List Int} {ss : List (ByteArray × ByteArray)} {l : List RD} {fs : List Bool} (h : WdR w B wb m kv rv sv dv fv ks rs ss l fs) (hk : k ≤ m) : WdR w B wb k kv rv sv dv fv ks rs ss l fs :=
  ⟨h.cells, h.keep, h.reps, h.apart, h.stps, h.dsks, h.fls, h.num, by have := h.lk; omega, by have := h.lr; omega, by have := h.ls; omega, h.off⟩
theorem RW.less {w : World} {B wb m k : Nat} {l : List RD} {fs : List Bool} (h : RW w B wb m l fs) (hk : k ≤ m) : RW w B wb k l fs := by
  obtain ⟨kv, rv, sv, dv, fv, ks, rs, ss, hw⟩ := h.wd
  exact ⟨⟨kv, rv, sv, dv, fv, ks, rs, ss, hw.less hk⟩, h.ds, fun o ho => (h.ok o ho).less hk, h.nd, h.lo, by have := h.len; omega, h.fa⟩
theorem RW.new {w w' : World} {B wb m : Nat} {l : List RD} {fs : List Bool} (h : RW w B wb m l fs) (hf : New w w') : RW w' B wb m l fs := by
  obtain ⟨kv, rv, sv, dv, fv, ks, rs, ss, hw⟩ := h.wd
  exact ⟨⟨kv, rv, sv, dv, fv, ks, rs, ss, hw.new hf⟩, fun o ho => (h.ds o ho).new (h.ok o ho).pend hf, h.ok, h.nd, ⟨h.lo.1, Nat.le_trans h.lo.2 hf.size⟩, h.len, h.fa⟩
/-- The world's own cells have turned, and rows of its own. -/
theorem RW.turn {w w' : World} {B wb m : Nat} {l : List RD} {fs : List Bool} {kv rv sv dv fv : Value} {ks rs : List Int} {ss : List (ByteArray × ByteArray)} {S : Nat → Prop} (h : RW w B wb m l fs) (hf : Fr S w w') (hS : ∀ k, S k → ∃ ob, w.heap[k]? = some ob ∧ kindOf ob ∈ KO) (hn : ∀ o ∈ l, ∀ k, S k → ¬ o.own k) (hw : WdR w' B wb m kv rv sv dv fv ks rs ss l fs) : RW w' B wb m l fs :=
  ⟨⟨kv, rv, sv, dv, fv, ks, rs, ss, hw⟩, rds_keep h.ds h.ok hf hS hn, h.ok, h.nd, ⟨h.lo.1, Nat.le_trans h.lo.2 hf.size⟩, h.len, h.fa⟩
theorem RW.loLow {w w' : World} {B wb m : Nat} {l : List RD} {fs : List Bool} {S : Nat → Prop} (h : RW w B wb m l fs) (hf : Fr S w w') (hS : ∀ k, S k → B ≤ k) : Low B w w' := hf.low h.lo.2 hS
theorem own_inKO {w : World} {base : Nat} {e : TypeId} {size : Nat} {v : Value} {n : Nat} {xs : List Value} (h : w.ownsRow base e size v n xs) {k : Nat} (hk : v.ownBlock = some k) (he : e + 1 ∈ KO) : ∃ ob, w.heap[k]? = some ob ∧ kindOf ob ∈ KO := by
  obtain ⟨o, h1, h2⟩ := own_kind h hk
  exact ⟨o, h1, by rw [h2]; exact he⟩
theorem fr_KOR {w w' : World} {S : Nat → Prop} (hf : Fr S w w') (hS : ∀ k, S k → ∃ ob, w.heap[k]? = some ob ∧ kindOf ob ∈ KO) : FrK KO w w' :=
  hf.toK (fun k o hk ho => by
    obtain ⟨ob, h1, h2⟩ := hS k hk
    rw [ho] at h1; cases h1; exact h2)
/-- A disk more. -/
def newR (kb db bb pb n : Nat) (rs : List Int) (iv : Value) (A : Nat) : RD := ⟨kb, db, bb, pb, n, 0, DiskM.new n, ⟨[], [], rs, 0, A⟩, [], [], 0, 0, .slice none 0 0, .slice none 0 0, .slice none 0 0, iv, none⟩
theorem newR_own {kb db bb pb n A C : Nat} {rs : List Int} {iv : Value} (h : C ≤ kb ∧ C ≤ db ∧ C ≤ bb ∧ C ≤ pb) (hi : ∀ a n c, iv = .slice (some a) n c → C ≤ a.block) {k : Nat} (hk : (newR kb db bb pb n rs iv A).own k) : C ≤ k := by
  rcases hk with e | e | e | e | e | e | e | ⟨a, n, c, e, e2⟩ | ⟨_, e, _⟩
  · exact (show k = kb from e) ▸ h.1
  · exact (show k = db from e) ▸ h.2.1
  · exact (show k = bb from e) ▸ h.2.2.1
  · exact (show k = pb from e) ▸ h.2.2.2
  · cases e
  · cases e
  · cases e
  · exact e2 ▸ hi a n c e
  · cases e
theorem newR_at {w : World} {B kb db bb pb n A : Nat} {rs : List Int} (hst : w.heap[kb]? = some (.cells #[.pointer (some ⟨db, 0, none⟩), .pointer (some ⟨pb, 0, none⟩), .int .i64 n, .bool true, .bool false, .pointer none, .int .i64 0, .int .i64 0, .bool false, .slice none 0 0] 165 (0, 0))) (hd : DiskAt w db bb (DiskM.new n)) (hp : PFresh A w pb rs)
    (hB : A ≤ kb ∧ A ≤ db ∧ A ≤ bb ∧ A ≤ pb) (hA : B ≤ A) : ∃ iv, RunAt w B (newR kb db bb pb n rs iv A) ∧ ∀ k, (newR kb db bb pb n rs iv A).own k → A ≤ k := by
  obtain ⟨iv, h1, h2, h3, h4⟩ := hp
  exact ⟨iv, ⟨hst, hd, h1, h2, h3, ⟨World.ownsRow_nil _ _ _ _, fun r hr => by cases hr⟩, fun e he => (by cases he), fun k hk => Nat.le_trans hA (newR_own hB h4 hk)⟩, fun k hk => newR_own hB h4 hk⟩
theorem newR_ok {kb db bb pb n m A : Nat} {rs : List Int} {iv : Value} (hn : n < 1000) (hm : m ≤ 60000) (hr : rs.length ≤ 60000) : RDok m (newR kb db bb pb n rs iv A) := by
  refine ⟨new_quiet _, rfl, ?_, hn, ⟨by show (0 : Int) ≤ 0; omega, by show (0 : Int) + 20000 * m ≤ 2 ^ 40; omega⟩, fun h => JE.zero n h, by show 0 + m ≤ 100000; omega, rfl, by show ((0 : Nat) : Int) + 0 ≤ 0; omega, fun g hg => (by cases hg), List.Pairwise.nil, fun h => absurd rfl h, fun h => absurd rfl h, fun _ => ⟨rfl, rfl⟩, ⟨by show 0 + 2000 * m < 2 ^ 30; omega, by show 0 + 2000 * m < 2 ^ 30; omega, by show rs.length < 2 ^ 30; omega, by show (0 : Int) ≤ 0; omega, by show (0 : Int) + (2000 * m : Nat) < 2 ^ 30; omega⟩, fun g hg => (by cases hg), ⟨by show (0 : Int) ≤ 0; omega, by show (0 : Int) + m ≤ 2 ^ 30; omega⟩, fun _ e => by cases e⟩
  show (List.replicate n _).length = n
  simp
def OwnPostR (w : World) (B wb m : Nat) (o : OpM) (e : Ending) (w' : World) : Prop :=
  e = .returned (.bool (decide (1 ≤ o.k) && decide (o.k ≤ 6))) ∧ (∃ l' fs', RW w' B wb m l' fs') ∧ Low B w w' ∧ FrK KO w w'
set_option maxRecDepth 100000 in
set_option maxHeartbeats 8000000 in
theorem ownerR_calls {w : World} {B wb m : Nat} {l : List RD} {fs : List Bool} {o : OpM} (h : RW w B wb (m + 1) l fs) :
    Calls Tryz.prog 85 #[.pointer (some ⟨wb, 0, none⟩), .agg o.cells] w (OwnPostR w B wb m o) := by
  obtain ⟨k, x, a, b, s, t⟩ := o
  have hN0 : New w (w.alloc (.cells #[.int .i64 k, .int .i64 x, .int .i64 a, .int .i64 b, .string s, .string t] 112)) := (Fr.refl _ w).alloc _
  have hob := heap_alloc_new w (.cells #[.int .i64 k, .int .i64 x, .int .i64 a, .int .i64 b, .string s, .string t] 112)
  have h1 := (h.less (k := m) (by omega)).new hN0
  have hl0 := h.len
  have HLw : Hid (Low B w (w.alloc (.cells #[.int .i64 k, .int .i64 x, .int .i64 a, .int .i64 b, .string s, .string t] 112))) := hN0.low h.lo.2 (fun _ f => f.elim)
  have HKw : Hid (FrK KO w (w.alloc (.cells #[.int .i64 k, .int .i64 x, .int .i64 a, .int .i64 b, .string s, .string t] 112))) := hN0.toK (fun _ _ f _ => f.elim)
  obtain ⟨kv, rv, sv, dv, fv, ks, rs, ss, hw⟩ := h.wd
  have hw0 := hw.new hN0
  have Hl1 := Lib.hid hw0.lk
  have Hl2 := Lib.hid hw0.lr
  have Hl3 := Lib.hid hw0.ls
  have hd1 : Hid (∀ o ∈ l, RunAt (w.alloc (.cells #[.int .i64 k, .int .i64 x, .int .i64 a, .int .i64 b, .string s, .string t] 112)) B o) := h1.ds
  have hfa := Lib.hid h.fa
  have hok := Lib.hid h1.ok
  have hnd := Lib.hid h.nd
  have hnum := Lib.hid hw0.num
  have Hh := Lib.hid h
  simp only [OpM.cells]
  clear h hN0 hw
  go_enter Tryz.func85, Tryz.ntmps85
  go_upto_region 1 with fail
  generalize (w.alloc (.cells #[.int .i64 k, .int .i64 x, .int .i64 a, .int .i64 b, .string s, .string t] 112)) = w1 at *
  generalize w.heap.size = ob at *
  have hw1 := hw0.less (k := m) (by omega)
  have H1 := Lib.hid h1
  have Hw1 := Lib.hid hw1
  have Hob := Lib.hid hob
  have hp := hw1.cells
  have hBz : Hid (B ≤ w1.heap.size) := h1.lo.2
  clear h1 hw1 hw0
  have hcv := cellv w1
  have hfv := frozv w1
  by_cases k1 : k = 1
  · subst k1
    go_upto_region 4 with fail
    refine ow_r4 wb ob a _ _ _ _ _ ks kv rv sv dv fv B w1 hp hob Hw1.out.keep hBz.out (by have := Hl1.out; omega) ?_
    intros
    rename_i kv' w2 hf2 hp2 ho2 hnb2
    have hK := Hw1.out
    have hF := hf2
    have hS : ∀ k, (k = wb ∨ kv.ownBlock = some k) → ∃ ob, w1.heap[k]? = some ob ∧ kindOf ob ∈ KO := by
      rintro k (rfl | hk)
      · exact ⟨_, hp, by simp [kindOf, KO]⟩
      · exact own_inKO hK.keep hk (by simp [KO])
    have hne : ∀ j, j ∈ [193, 160, 5] → ∀ k, (k = wb ∨ kv.ownBlock = some k) → ∃ ob, w1.heap[k]? = some ob ∧ kindOf ob ≠ j := by
      rintro j hj k (rfl | hk)
      · exact ⟨_, hp, by simp [kindOf] at hj ⊢; omega⟩
      · obtain ⟨o, e1, e2⟩ := own_kind hK.keep hk
        exact ⟨o, e1, by rw [e2]; simp at hj; omega⟩
    have hW2 : WdR w2 B wb m kv' rv sv dv fv (ks ++ [a]) rs ss l fs := by
      refine ⟨hp2, ho2, own_frB hK.reps hf2 (fun k hk => ?_), fun k hk e => ?_, ownsRow_fr hK.stps hf2 (hne 193 (by simp)), ownsRow_fr hK.dsks hf2 (hne 160 (by simp)), ownsRow_fr hK.fls hf2 (hne 5 (by simp)), hK.num, by have := Hl1.out; simp; omega, hK.lr, hK.ls, fun o ho k hk => ?_⟩
      · rintro (rfl | h)
        · obtain ⟨o, e1, e2⟩ := own_kind hK.reps hk
          rw [hp] at e1; cases e1; simp [kindOf] at e2
        · exact hK.apart k h hk
      · rcases hnb2 k hk with h | h
        · exact hK.apart k h e
        · have := (hK.reps.lt k e).2; omega
      · rcases hk with hk | hk
        · rcases hnb2 k hk with h | h
          · exact hK.off o ho k (.inl h)
          · intro h2
            have := (hd1.out o ho).lt h2
            omega
        · exact hK.off o ho k (.inr hk)
    have hnn : ∀ o ∈ l, ∀ k, (k = wb ∨ kv.ownBlock = some k) → ¬ o.own k := by
      rintro o ho k (rfl | hk)
      · exact (hd1.out o ho).notK hp (by simp [kindOf])
      · exact hK.off o ho k (.inl hk)
    have hO2 := H1.out.turn hf2 hS hnn hW2
    have hL2 := HLw.out.trans (H1.out.loLow hf2 (by
      rintro k (rfl | hk)
      · exact H1.out.lo.1
      · exact (hK.keep.lt k hk).1))
    have HO2 := Lib.hid hO2
    have HL2 := Lib.hid hL2
    have HK2 := Lib.hid (HKw.out.trans (fr_KOR hf2 hS))
    clear hK hF hS hne hnn hW2 hO2 hL2 hf2 hp2 ho2 hnb2 hcv hfv
    go_wp2_with fail
    go_ret
    exact ⟨rfl, ⟨l, fs, HO2.out⟩, HL2.out, HK2.out⟩
  by_cases k2 : k = 2
  · subst k2
    go_wp2_with fail
    go_ret
    have hf2 := Fr.one wb w1 0 (.slice none 0 0)
    have hK := Hw1.out
    have hS : ∀ k, k = wb → ∃ ob, w1.heap[k]? = some ob ∧ kindOf ob ∈ KO := by
      rintro k rfl
      exact ⟨_, hp, by simp [kindOf, KO]⟩
    have hnw : ∀ o ∈ l, ∀ k, k = wb → ¬ o.own k := by rintro o ho k rfl; exact (hd1.out o ho).notK hp (by simp [kindOf])
    have hne : ∀ j, j ∈ [4, 193, 160, 5] → ∀ k, k = wb → ∃ ob, w1.heap[k]? = some ob ∧ kindOf ob ≠ j := by
      rintro j hj k rfl
      exact ⟨_, hp, by simp [kindOf] at hj ⊢; omega⟩
    refine ⟨rfl, ⟨l, fs, H1.out.turn hf2 hS hnw (kv := .slice none 0 0) (rv := rv) (sv := sv) (dv := dv) (fv := fv) (ks := []) (rs := rs) (ss := ss) ⟨by rw [hp_setCell, if_pos rfl, hp]; rfl, World.ownsRow_nil _ _ _ _, ownsRow_fr hK.reps hf2 (hne 4 (by simp)), fun k hk => by (cases hk), ownsRow_fr hK.stps hf2 (hne 193 (by simp)), ownsRow_fr hK.dsks hf2 (hne 160 (by simp)), ownsRow_fr hK.fls hf2 (hne 5 (by simp)), hK.num, by have := Hl1.out; show 0 + m ≤ 60000; omega, hK.lr, hK.ls, fun o ho k hk => hK.off o ho k (hk.elim (fun e => by cases e) .inr)⟩⟩, HLw.out.trans (H1.out.loLow hf2 (by rintro k rfl; exact H1.out.lo.1)), HKw.out.trans (fr_KOR hf2 hS)⟩
  by_cases k3 : k = 3
  · subst k3
    go_upto_region 8 with fail
    refine ow_r8 wb ob a _ _ _ _ _ rs rv kv sv dv fv B w1 hp hob Hw1.out.reps hBz.out (by have := Hl2.out; omega) ?_
    intros
    rename_i rv' w2 hf2 hp2 ho2 hnb2
    have hK := Hw1.out
    have hF := hf2
    have hS : ∀ k, (k = wb ∨ rv.ownBlock = some k) → ∃ ob, w1.heap[k]? = some ob ∧ kindOf ob ∈ KO := by
      rintro k (rfl | hk)
      · exact ⟨_, hp, by simp [kindOf, KO]⟩
      · exact own_inKO hK.reps hk (by simp [KO])
    have hne : ∀ j, j ∈ [193, 160, 5] → ∀ k, (k = wb ∨ rv.ownBlock = some k) → ∃ ob, w1.heap[k]? = some ob ∧ kindOf ob ≠ j := by
      rintro j hj k (rfl | hk)
      · exact ⟨_, hp, by simp [kindOf] at hj ⊢; omega⟩
      · obtain ⟨o, e1, e2⟩ := own_kind hK.reps hk
        exact ⟨o, e1, by rw [e2]; simp at hj; omega⟩
    have hW2 : WdR w2 B wb m kv rv' sv dv fv ks (rs ++ [a]) ss l fs := by
      refine ⟨hp2, own_frB hK.keep hf2 (fun k hk => ?_), ho2, fun k hk e => ?_, ownsRow_fr hK.stps hf2 (hne 193 (by simp)), ownsRow_fr hK.dsks hf2 (hne 160 (by simp)), ownsRow_fr hK.fls hf2 (hne 5 (by simp)), hK.num, hK.lk, by have := Hl2.out; simp; omega, hK.ls, fun o ho k hk => ?_⟩
      · rintro (rfl | h)
        · obtain ⟨o, e1, e2⟩ := own_kind hK.keep hk
          rw [hp] at e1; cases e1; simp [kindOf] at e2
        · exact hK.apart k hk h
      · rcases hnb2 k e with h | h
        · exact hK.apart k hk h
        · have := (hK.keep.lt k hk).2; omega
      · rcases hk with hk | hk
        · exact hK.off o ho k (.inl hk)
        · rcases hnb2 k hk with h | h
          · exact hK.off o ho k (.inr h)
          · intro h2
            have := (hd1.out o ho).lt h2
            omega
    have hnn : ∀ o ∈ l, ∀ k, (k = wb ∨ rv.ownBlock = some k) → ¬ o.own k := by
      rintro o ho k (rfl | hk)
      · exact (hd1.out o ho).notK hp (by simp [kindOf])
      · exact hK.off o ho k (.inr hk)
    have hO2 := H1.out.turn hf2 hS hnn hW2
    have hL2 := HLw.out.trans (H1.out.loLow hf2 (by
      rintro k (rfl | hk)
      · exact H1.out.lo.1
      · exact (hK.reps.lt k hk).1))
    have HO2 := Lib.hid hO2
    have HL2 := Lib.hid hL2
    have HK2 := Lib.hid (HKw.out.trans (fr_KOR hf2 hS))
    clear hK hF hS hne hnn hW2 hO2 hL2 hf2 hp2 ho2 hnb2 hcv hfv
    go_wp2_with fail
    go_ret
    exact ⟨rfl, ⟨l, fs, HO2.out⟩, HL2.out, HK2.out⟩
  by_cases k4 : k = 4
  · subst k4
    obtain ⟨i0, hi, hz0, hz1, hz2⟩ := info_parts Tryz.info192
    have hlc : (stepCells ss).length = ss.length * 2 := stp_len ss
    rcases Hw1.out.stps.2 with ⟨rfl, h0⟩ | ⟨g, cap, cur, hsv, hg, hh, hn, hq1, hq2, htk⟩
    · obtain rfl := List.length_eq_zero_iff.1 h0
      have hr : ∀ ty, (Builtin.append_ #[114, 114] ty #[.slice none 0 0, .slice none 0 0]).run Tryz.prog w1 = .ok (.slice none 0 0) w1 := by
        intro ty
        simp [Builtin.append_, run_underlying Tryz.underlying114, sizeOf, typeInfo, hi, Builtin.lenOf, Builtin.firstCells]
      go_upto_region 12 with (first
        | (at_builtin; refine Lib.wpList_append_run _ rfl _ _ _ _ rfl _ _ rfl rfl _ _ (hr _) ?_; go_frame)
        | fail)
      have hr1 : w1.ownsRow w1.heap.size 192 2 (.slice none 0 0) 0 [] := World.ownsRow_nil _ _ _ _
      have hf2 : New w1 w1 := Fr.refl _ _
      have hp2 := hf2.get hp (fun f => f)
      have hob2 := hf2.get Hob.out (fun f => f)
      have hoA := Lib.hid (hr1.alloc (.cells #[.string s, .string t] 192))
      have hnews : ∀ (j : Nat) (u : Value), [Value.string s, Value.string t][j]? = some u → (w1.alloc (.cells #[.string s, .string t] 192)).cell? ((⟨w1.heap.size, 0, none⟩ : Addr).add j) = some u := World.news_of_block (heap_alloc_new w1 _)
      have Hnews := Lib.hid hnews
      have Hf2 := Lib.hid hf2
      have Hp2 := Lib.hid hp2
      have Hr1 := Lib.hid hr1
      have hpA : (w1.alloc (.cells #[.string s, .string t] 192)).heap[wb]? = some (.cells #[kv, rv, .slice none 0 0, dv, fv] 118 (0, 0)) := heap_alloc_keep _ hp2
      have HpA := Lib.hid hpA
      clear hnews hf2 hr1 hpA hr
      go_wp2_with (first
        | (at_builtin; refine wpList_append_own _ rfl _ _ 114 rfl w1.heap.size 192 i0 (.agg #[.string ⟨#[]⟩, .string ⟨#[]⟩]) 2 32 Tryz.underlying114 hi hz0 hz1 hz2 rfl (by decide) _ _ _ rfl hoA.out ⟨w1.heap.size, 0, none⟩ 1 1 [Value.string s, Value.string t] rfl rfl Hnews.out (by intro u hu; simp at hu; rcases hu with rfl | rfl <;> rfl) (by unfold maxLen; omega) (by omega) (by simp) ?_; intro sv' w3 hown3 hg3 _; obtain ⟨vb, vm, vd, rfl⟩ := own_slice hown3; have hF3 := ((Fr.refl _ w1).alloc (.cells #[.string s, .string t] 192)).trans (Fr.ofGrown hg3); have hp3 := hF3.get Hp2.out (fun e => own_other Hr1.out Hp2.out (by simp [kindOf]) e); have hcv3 := cellv w3; have hfv3 := frozv w3; go_frame)
        | fail)
      go_ret
      have hK := Hw1.out
      have hN3 : New w1 w3 := Hf2.out.trans' hF3 (fun i hi e => by have := (Hr1.out.lt i e).1; omega)
      have hfS := Fr.one wb w3 2 (.slice vb vm vd)
      have hf4 : Fr (· = wb) w1 (w3.setCell ⟨wb, 2, none⟩ (.slice vb vm vd)) := (hN3.mono (fun _ _ f => f.elim)).trans hfS
      have hS : ∀ k, k = wb → ∃ ob, w1.heap[k]? = some ob ∧ kindOf ob ∈ KO := by
        rintro k rfl
        exact ⟨_, hp, by simp [kindOf, KO]⟩
      have hnw : ∀ o ∈ l, ∀ k, k = wb → ¬ o.own k := by rintro o ho k rfl; exact (hd1.out o ho).notK hp (by simp [kindOf])
      have hne : ∀ j, j ∈ [4, 193, 160, 5] → ∀ k, k = wb → ∃ ob, w1.heap[k]? = some ob ∧ kindOf ob ≠ j := by
        rintro j hj k rfl
        exact ⟨_, hp, by simp [kindOf] at hj ⊢; omega⟩
      have hst : (w3.setCell ⟨wb, 2, none⟩ (.slice vb vm vd)).ownsRow B 192 2 (.slice vb vm vd) ([] ++ [(s, t)]).length (stepCells ([] ++ [(s, t)])) := by
        refine own_baseM (ownsRow_fr ?_ hfS (by rintro k rfl; exact ⟨_, hp3, by simp [kindOf]⟩)) hBz.out
        exact hown3
      exact ⟨rfl, ⟨l, fs, H1.out.turn hf4 hS hnw (kv := kv) (rv := rv) (sv := .slice vb vm vd) (dv := dv) (fv := fv) (ks := ks) (rs := rs) (ss := [] ++ [(s, t)]) ⟨by rw [hp_setCell, if_pos rfl, hp3]; rfl, ownsRow_fr hK.keep hf4 (hne 4 (by simp)), ownsRow_fr hK.reps hf4 (hne 4 (by simp)), hK.apart, hst, ownsRow_fr hK.dsks hf4 (hne 160 (by simp)), ownsRow_fr hK.fls hf4 (hne 5 (by simp)), hK.num, hK.lk, hK.lr, by have := Hl3.out; simp; omega, hK.off⟩⟩, HLw.out.trans (H1.out.loLow hf4 (by rintro k rfl; exact H1.out.lo.1)), HKw.out.trans (fr_KOR hf4 hS)⟩
    · have hnews0 : ∀ (j : Nat) (u : Value), (stepCells ss)[j]? = some u → w1.cell? ((⟨g, 0, none⟩ : Addr).add j) = some u := by
        intro j u hj
        have hjl := (List.getElem?_eq_some_iff.1 hj).1
        rw [Addr.add_lit, cellv, hh, cellOf_cells, Nat.zero_add]
        rw [← htk, List.getElem?_take_of_lt (by omega)] at hj
        simpa using hj
      have Hnews0 := Lib.hid hnews0
      have hone : ∀ u ∈ stepCells ss, u.oneCell' = true := by
        intro u hu
        simp only [stepCells, List.mem_flatMap] at hu
        obtain ⟨p, _, hu⟩ := hu
        simp at hu
        rcases hu with rfl | rfl <;> rfl
      have Hone := Lib.hid hone
      subst hsv
      clear hnews0 hone hh htk
      go_upto_region 12 with (first
        | (at_builtin; refine wpList_append_own _ rfl _ _ 114 rfl w1.heap.size 192 i0 (.agg #[.string ⟨#[]⟩, .string ⟨#[]⟩]) 2 32 Tryz.underlying114 hi hz0 hz1 hz2 rfl (by decide) _ _ _ rfl (World.ownsRow_nil w1 w1.heap.size 192 2) ⟨g, 0, none⟩ ss.length cap (stepCells ss) rfl hlc Hnews0.out Hone.out (by have := Hl3.out; unfold maxLen; omega) (by have := Hl3.out; omega) (Nat.le_refl _) ?_; intro sv1 w2 hr1 hg1 _; obtain ⟨ua, um, uc, rfl⟩ := own_slice hr1; go_frame)
        | fail)
      have hf2 : New w1 w2 := (Fr.ofGrown hg1).mono (fun _ _ e => by cases e)
      rw [Nat.zero_add, List.nil_append] at hr1
      have hp2 := hf2.get hp (fun f => f)
      have hob2 := hf2.get Hob.out (fun f => f)
      have hoA := Lib.hid (hr1.alloc (.cells #[.string s, .string t] 192))
      have hnews : ∀ (j : Nat) (u : Value), [Value.string s, Value.string t][j]? = some u → (w2.alloc (.cells #[.string s, .string t] 192)).cell? ((⟨w2.heap.size, 0, none⟩ : Addr).add j) = some u := World.news_of_block (heap_alloc_new w2 _)
      have Hnews := Lib.hid hnews
      have Hf2 := Lib.hid hf2
      have Hp2 := Lib.hid hp2
      have Hr1 := Lib.hid hr1
      have hpA : (w2.alloc (.cells #[.string s, .string t] 192)).heap[wb]? = some (.cells #[kv, rv, .slice (some ⟨g, 0, none⟩) ss.length cap, dv, fv] 118 (0, 0)) := heap_alloc_keep _ hp2
      have HpA := Lib.hid hpA
      clear hnews hf2 hr1 hpA hcv hfv
      have hcv := cellv w2
      go_wp2_with (first
        | (at_builtin; refine wpList_append_own _ rfl _ _ 114 rfl w1.heap.size 192 i0 (.agg #[.string ⟨#[]⟩, .string ⟨#[]⟩]) 2 32 Tryz.underlying114 hi hz0 hz1 hz2 rfl (by decide) _ _ _ rfl hoA.out ⟨w2.heap.size, 0, none⟩ 1 1 [Value.string s, Value.string t] rfl rfl Hnews.out (by intro u hu; simp at hu; rcases hu with rfl | rfl <;> rfl) (by have := Hl3.out; unfold maxLen; omega) (by have := Hl3.out; omega) (by have := Hf2.out.size; simp; omega) ?_; intro sv' w3 hown3 hg3 _; obtain ⟨vb, vm, vd, rfl⟩ := own_slice hown3; have hF3 := ((Fr.refl _ w2).alloc (.cells #[.string s, .string t] 192)).trans (Fr.ofGrown hg3); have hp3 := hF3.get Hp2.out (fun e => own_other Hr1.out Hp2.out (by simp [kindOf]) e); have hcv3 := cellv w3; have hfv3 := frozv w3; go_frame)
        | fail)
      go_ret
      have hK := Hw1.out
      have hN3 : New w1 w3 := Hf2.out.trans' hF3 (fun i hi e => by have := (Hr1.out.lt i e).1; omega)
      have hfS := Fr.one wb w3 2 (.slice vb vm vd)
      have hf4 : Fr (· = wb) w1 (w3.setCell ⟨wb, 2, none⟩ (.slice vb vm vd)) := (hN3.mono (fun _ _ f => f.elim)).trans hfS
      have hS : ∀ k, k = wb → ∃ ob, w1.heap[k]? = some ob ∧ kindOf ob ∈ KO := by
        rintro k rfl
        exact ⟨_, hp, by simp [kindOf, KO]⟩
      have hnw : ∀ o ∈ l, ∀ k, k = wb → ¬ o.own k := by rintro o ho k rfl; exact (hd1.out o ho).notK hp (by simp [kindOf])
      have hne : ∀ j, j ∈ [4, 193, 160, 5] → ∀ k, k = wb → ∃ ob, w1.heap[k]? = some ob ∧ kindOf ob ≠ j := by
        rintro j hj k rfl
        exact ⟨_, hp, by simp [kindOf] at hj ⊢; omega⟩
      have hst : (w3.setCell ⟨wb, 2, none⟩ (.slice vb vm vd)).ownsRow B 192 2 (.slice vb vm vd) (ss ++ [(s, t)]).length (stepCells (ss ++ [(s, t)])) := by
        refine own_baseM (ownsRow_fr ?_ hfS (by rintro k rfl; exact ⟨_, hp3, by simp [kindOf]⟩)) hBz.out
        rw [List.length_append, show stepCells (ss ++ [(s, t)]) = stepCells ss ++ [.string s, .string t] by simp [stepCells]]
        exact hown3
      exact ⟨rfl, ⟨l, fs, H1.out.turn hf4 hS hnw (kv := kv) (rv := rv) (sv := .slice vb vm vd) (dv := dv) (fv := fv) (ks := ks) (rs := rs) (ss := ss ++ [(s, t)]) ⟨by rw [hp_setCell, if_pos rfl, hp3]; rfl, ownsRow_fr hK.keep hf4 (hne 4 (by simp)), ownsRow_fr hK.reps hf4 (hne 4 (by simp)), hK.apart, hst, ownsRow_fr hK.dsks hf4 (hne 160 (by simp)), ownsRow_fr hK.fls hf4 (hne 5 (by simp)), hK.num, hK.lk, hK.lr, by have := Hl3.out; simp; omega, hK.off⟩⟩, HLw.out.trans (H1.out.loLow hf4 (by rintro k rfl; exact H1.out.lo.1)), HKw.out.trans (fr_KOR hf4 hS)⟩
  by_cases k5 : k = 5
  · subst k5
    go_wp2_with fail
    go_ret
    have hf2 := Fr.one wb w1 2 (.slice none 0 0)
    have hK := Hw1.out
    have hS : ∀ k, k = wb → ∃ ob, w1.heap[k]? = some ob ∧ kindOf ob ∈ KO := by
      rintro k rfl
      exact ⟨_, hp, by simp [kindOf, KO]⟩
    have hnw : ∀ o ∈ l, ∀ k, k = wb → ¬ o.own k := by rintro o ho k rfl; exact (hd1.out o ho).notK hp (by simp [kindOf])
    have hne : ∀ j, j ∈ [4, 193, 160, 5] → ∀ k, k = wb → ∃ ob, w1.heap[k]? = some ob ∧ kindOf ob ≠ j := by
      rintro j hj k rfl
      exact ⟨_, hp, by simp [kindOf] at hj ⊢; omega⟩
    refine ⟨rfl, ⟨l, fs, H1.out.turn hf2 hS hnw (kv := kv) (rv := rv) (sv := .slice none 0 0) (dv := dv) (fv := fv) (ks := ks) (rs := rs) (ss := []) ⟨by rw [hp_setCell, if_pos rfl, hp]; rfl, ownsRow_fr hK.keep hf2 (hne 4 (by simp)), ownsRow_fr hK.reps hf2 (hne 4 (by simp)), hK.apart, World.ownsRow_nil _ _ _ _, ownsRow_fr hK.dsks hf2 (hne 160 (by simp)), ownsRow_fr hK.fls hf2 (hne 5 (by simp)), hK.num, hK.lk, hK.lr, by have := Hl1.out; show 0 + m ≤ 60000; omega, hK.off⟩⟩, HLw.out.trans (H1.out.loLow hf2 (by rintro k rfl; exact H1.out.lo.1)), HKw.out.trans (fr_KOR hf2 hS)⟩
  by_cases k6 : k = 6
  · subst k6
    obtain ⟨i1, hi1, hz1, hs1, hb1⟩ := info_parts Tryz.info159
    obtain ⟨i4, hi4, hz4, hs4, hb4⟩ := info_parts Tryz.info4b
    go_upto_region 16 with fail
    refine ow_r16R wb ob a _ _ _ _ _ rs kv rv sv dv fv w1 hp hob (own_ints Hw1.out.reps) (by have := Hl2.out; omega) ?_
    intros
    rename_i dvv pvv w3 hN3 hD3 hP3
    obtain ⟨db, bb, rfl, hdb, hbb, hdk⟩ := hD3
    obtain ⟨pb, rfl, hpb, hfp⟩ := hP3
    have hn4 := heap_alloc_new w3 (.cells #[.pointer (some ⟨db, 0, none⟩), .pointer (some ⟨pb, 0, none⟩), .int .i64 (blkM a), .bool true, .bool false, .pointer none, .int .i64 0, .int .i64 0, .bool false, .slice none 0 0] 165)
    have hN4 : New w3 (w3.alloc (.cells #[.pointer (some ⟨db, 0, none⟩), .pointer (some ⟨pb, 0, none⟩), .int .i64 (blkM a), .bool true, .bool false, .pointer none, .int .i64 0, .int .i64 0, .bool false, .slice none 0 0] 165)) := (Fr.refl _ w3).alloc _
    have hkb : w1.heap.size ≤ w3.heap.size := hN3.size
    generalize w3.alloc (.cells #[.pointer (some ⟨db, 0, none⟩), .pointer (some ⟨pb, 0, none⟩), .int .i64 (blkM a), .bool true, .bool false, .pointer none, .int .i64 0, .int .i64 0, .bool false, .slice none 0 0] 165) = w4 at hn4 hN4 ⊢
    generalize w3.heap.size = kb at hn4 hkb ⊢
    obtain ⟨iv, hA4, hOo⟩ := newR_at (B := B) hn4 (hdk.new hN4) (hfp.new hN4) ⟨hkb, hdb, hbb, hpb⟩ hBz.out
    have hN14 := hN3.trans hN4
    have HOo := Lib.hid hOo
    have Hok' := Lib.hid (newR_ok (kb := kb) (db := db) (bb := bb) (pb := pb) (n := blkM a) (m := m) (A := w1.heap.size) (rs := rs) (iv := iv) (blkM_lt a) (by omega) (by have := Hl2.out; omega))
    have hodk : (newR kb db bb pb (blkM a) rs iv w1.heap.size).kb = kb := rfl
    have hodx : (newR kb db bb pb (blkM a) rs iv w1.heap.size).x = none := rfl
    have Hodk := Lib.hid hodk
    have Hodx := Lib.hid hodx
    clear hodk hodx
    generalize newR kb db bb pb (blkM a) rs iv w1.heap.size = od at hA4 HOo Hok' Hodk Hodx
    have H4 : Hid (∀ o ∈ l ++ [od], RunAt w4 B o) := by
      intro o ho
      rcases List.mem_append.1 ho with h | h
      · exact (hd1.out o h).new (hok.out o h).pend hN14
      · simp at h; subst h; exact hA4
    have H4k : Hid (∀ o ∈ l ++ [od], RDok m o) := by
      intro o ho
      rcases List.mem_append.1 ho with h | h
      · exact hok.out o h
      · simp at h; subst h; exact Hok'.out
    clear hOo hA4
    have HN14 := Lib.hid hN14
    have hW4 := Hw1.out.new hN14
    have HW4 := Lib.hid hW4
    have hp4 := hW4.cells
    have Hp4 := Lib.hid hp4
    have hoA := Lib.hid (hW4.dsks.alloc (.cells #[.pointer (some ⟨kb, 0, none⟩)] 159))
    have hnews : ∀ (j : Nat) (u : Value), [Value.pointer (some ⟨kb, 0, none⟩)][j]? = some u → (w4.alloc (.cells #[.pointer (some ⟨kb, 0, none⟩)] 159)).cell? ((⟨w4.heap.size, 0, none⟩ : Addr).add j) = some u := World.news_of_block (heap_alloc_new w4 _)
    have Hnews := Lib.hid hnews
    have hBz4 : Hid (B ≤ w4.heap.size) := Nat.le_trans hBz.out hN14.size
    have hlen := Lib.hid hl0
    have HF : Hid (∀ w', Fr (fun k => dv.ownBlock = some k) w4 w' → w'.heap[wb]? = some (.cells #[kv, rv, sv, dv, fv] 118 (0, 0))) := fun w' hf => hf.get hp4 (fun e => own_other HW4.out.dsks hp4 (by simp [kindOf]) e)
    obtain ⟨da, dn, dc, hdv⟩ := own_slice hW4.dsks
    subst hdv
    clear hN14 hW4 hnews hdk hfp hn4 hN4 hN3 hkb hdb hbb hpb hcv hfv hob hp hl0
    have hcv := cellv w4
    have hfv := frozv w4
    go_upto_region 18 with (first
      | (at_builtin; refine wpList_append_own _ rfl _ _ 115 rfl B 159 i1 (.pointer none) 1 8 Tryz.underlying115 hi1 hz1 hs1 hb1 rfl (by decide) _ _ _ rfl hoA.out ⟨w4.heap.size, 0, none⟩ 1 1 [Value.pointer (some ⟨kb, 0, none⟩)] rfl rfl Hnews.out (by intro u hu; simp at hu; subst hu; rfl) (by have := hlen.out; unfold maxLen; omega) (by have := hlen.out; omega) (by have := hBz4.out; simp; omega) ?_; intro dv' w5 hown5 hg5 _; obtain ⟨vb, vm, vd, rfl⟩ := own_slice hown5; have hF5 := ((Fr.refl (fun k => (Value.slice da dn dc).ownBlock = some k) w4).alloc (.cells #[.pointer (some ⟨kb, 0, none⟩)] 159)).trans (Fr.ofGrown hg5); have hp5 := HF.out _ hF5; have hcv5 := cellv w5; have hfv5 := frozv w5; go_frame)
      | fail)
    have hS4 : ∀ k, (k = wb ∨ (Value.slice da dn dc).ownBlock = some k) → ∃ ob, w4.heap[k]? = some ob ∧ kindOf ob ∈ [119, 160] := by
      rintro k (rfl | hk)
      · exact ⟨_, Hp4.out, by simp [kindOf]⟩
      · obtain ⟨o, e1, e2⟩ := own_kind HW4.out.dsks hk
        exact ⟨o, e1, by rw [e2]; simp⟩
    have hF6 : Fr (fun k => k = wb ∨ (Value.slice da dn dc).ownBlock = some k) w4 (w5.setCell ⟨wb, 3, none⟩ (.slice vb vm vd)) := (hF5.mono (fun _ _ h => .inr h)).trans ((Fr.one wb w5 3 (.slice vb vm vd)).mono (fun _ _ e => .inl e))
    have hp6 : (w5.setCell ⟨wb, 3, none⟩ (.slice vb vm vd)).heap[wb]? = some (.cells #[kv, rv, sv, .slice vb vm vd, fv] 118 (0, 0)) := by
      rw [hp_setCell, if_pos rfl, hp5]; rfl
    have hd6 : (w5.setCell ⟨wb, 3, none⟩ (.slice vb vm vd)).ownsRow B 159 1 (.slice vb vm vd) (l.length + 1) (ptrsR l ++ [.pointer (some ⟨kb, 0, none⟩)]) := ownsRow_fr hown5 (Fr.one wb w5 3 (.slice vb vm vd)) (by rintro k rfl; exact ⟨_, hp5, by simp [kindOf]⟩)
    generalize w5.setCell ⟨wb, 3, none⟩ (.slice vb vm vd) = w6 at hF6 hp6 hd6 ⊢
    have hne4 : ∀ j, j ∈ [4, 193, 5] → ∀ k, (k = wb ∨ (Value.slice da dn dc).ownBlock = some k) → ∃ ob, w4.heap[k]? = some ob ∧ kindOf ob ≠ j := fun j hj k hk => by
      obtain ⟨o, e1, e2⟩ := hS4 k hk
      exact ⟨o, e1, by simp at hj e2; omega⟩
    have hfl6 := ownsRow_fr HW4.out.fls hF6 (hne4 5 (by simp))
    have hoB := Lib.hid (hfl6.alloc (.cells #[.bool false] 4))
    have hnewsB : ∀ (j : Nat) (u : Value), [Value.bool false][j]? = some u → (w6.alloc (.cells #[.bool false] 4)).cell? ((⟨w6.heap.size, 0, none⟩ : Addr).add j) = some u := World.news_of_block (heap_alloc_new w6 _)
    have HnewsB := Lib.hid hnewsB
    have hBz6 : Hid (B ≤ w6.heap.size) := Nat.le_trans hBz4.out hF6.size
    have HFB : Hid (∀ w', Fr (fun k => fv.ownBlock = some k) w6 w' → w'.heap[wb]? = some (.cells #[kv, rv, sv, .slice vb vm vd, fv] 118 (0, 0))) := fun w' hf => hf.get hp6 (fun e => own_other hfl6 hp6 (by simp [kindOf]) e)
    have HF6 := Lib.hid hF6
    have Hp6 := Lib.hid hp6
    have Hd6 := Lib.hid hd6
    have Hfl6 := Lib.hid hfl6
    have HS4 := Lib.hid hS4
    obtain ⟨fa, fn, fc, hfv'⟩ := own_slice hfl6
    subst hfv'
    clear hF5 hown5 hg5 hp5 hcv5 hfv5 hcv hfv hF6 hd6 hfl6 hnewsB hS4 hne4 hp4 HF hoA Hnews
    have hcv := cellv w6
    have hfv := frozv w6
    go_wp2_with (first
      | (at_builtin; refine wpList_append_own _ rfl _ _ 116 rfl B 4 i4 (.bool false) 1 1 Tryz.underlying116 hi4 hz4 hs4 hb4 rfl (by decide) _ _ _ rfl hoB.out ⟨w6.heap.size, 0, none⟩ 1 1 [Value.bool false] rfl rfl HnewsB.out (by intro u hu; simp at hu; subst hu; rfl) (by have := hlen.out; have := hnum.out; unfold maxLen; omega) (by have := hlen.out; have := hnum.out; omega) (by have := hBz6.out; simp; omega) ?_; intro fv' w7 hown7 hg7 _; obtain ⟨ga, gn, gc, rfl⟩ := own_slice hown7; have hF7 := ((Fr.refl (fun k => (Value.slice fa fn fc).ownBlock = some k) w6).alloc (.cells #[.bool false] 4)).trans (Fr.ofGrown hg7); have hp7 := HFB.out _ hF7; have hcv7 := cellv w7; have hfv7 := frozv w7; go_frame)
      | fail)
    go_ret
    have hF8 : Fr (fun k => k = wb ∨ (Value.slice fa fn fc).ownBlock = some k) w6 (w7.setCell ⟨wb, 4, none⟩ (.slice ga gn gc)) := (hF7.mono (fun _ _ h => .inr h)).trans ((Fr.one wb w7 4 (.slice ga gn gc)).mono (fun _ _ e => .inl e))
    have hp8 : (w7.setCell ⟨wb, 4, none⟩ (.slice ga gn gc)).heap[wb]? = some (.cells #[kv, rv, sv, .slice vb vm vd, .slice ga gn gc] 118 (0, 0)) := by
      rw [hp_setCell, if_pos rfl, hp7]; rfl
    have hf8 : (w7.setCell ⟨wb, 4, none⟩ (.slice ga gn gc)).ownsRow B 4 1 (.slice ga gn gc) (fs.length + 1) (fs.map .bool ++ [.bool false]) := ownsRow_fr hown7 (Fr.one wb w7 4 (.slice ga gn gc)) (by rintro k rfl; exact ⟨_, hp7, by simp [kindOf]⟩)
    generalize w7.setCell ⟨wb, 4, none⟩ (.slice ga gn gc) = w8 at hF8 hp8 hf8 ⊢
    have hS6 : ∀ k, (k = wb ∨ (Value.slice fa fn fc).ownBlock = some k) → ∃ ob, w6.heap[k]? = some ob ∧ kindOf ob ∈ [119, 5] := by
      rintro k (rfl | hk)
      · exact ⟨_, Hp6.out, by simp [kindOf]⟩
      · obtain ⟨o, e1, e2⟩ := own_kind Hfl6.out hk
        exact ⟨o, e1, by rw [e2]; simp⟩
    have hn4 : ∀ j, j ∈ [4, 193, 5] → ∀ k, (k = wb ∨ (Value.slice da dn dc).ownBlock = some k) → ∃ ob, w4.heap[k]? = some ob ∧ kindOf ob ≠ j := fun j hj k hk => by
      obtain ⟨o, e1, e2⟩ := HS4.out k hk
      exact ⟨o, e1, by simp at hj e2; omega⟩
    have hn6 : ∀ j, j ∈ [4, 193, 160] → ∀ k, (k = wb ∨ (Value.slice fa fn fc).ownBlock = some k) → ∃ ob, w6.heap[k]? = some ob ∧ kindOf ob ≠ j := fun j hj k hk => by
      obtain ⟨o, e1, e2⟩ := hS6 k hk
      exact ⟨o, e1, by simp at hj e2; omega⟩
    have hK := HW4.out
    have hds1 : ∀ o ∈ l ++ [od], RunAt w6 B o := by
      refine rds_keep H4.out H4k.out HF6.out ?_ (fun o ho k hk => ?_)
      · intro k hk
        obtain ⟨o, e1, e2⟩ := HS4.out k hk
        exact ⟨o, e1, by simp [KO] at e2 ⊢; omega⟩
      · obtain ⟨ob, e1, e2⟩ := HS4.out k hk
        exact (H4.out o ho).notK e1 (by simp at e2 ⊢; omega)
    have hds : ∀ o ∈ l ++ [od], RunAt w8 B o := by
      refine rds_keep hds1 H4k.out hF8 ?_ (fun o ho k hk => ?_)
      · intro k hk
        obtain ⟨o, e1, e2⟩ := hS6 k hk
        exact ⟨o, e1, by simp [KO] at e2 ⊢; omega⟩
      · obtain ⟨ob, e1, e2⟩ := hS6 k hk
        exact (hds1 o ho).notK e1 (by simp at e2 ⊢; omega)
    have hlow1 : Low B w1 w4 := HN14.out.low H1.out.lo.2 (fun _ f => f.elim)
    have hlow2 : Low B w4 w6 := HF6.out.low hBz4.out (by
      rintro k (rfl | hk)
      · exact H1.out.lo.1
      · exact (hK.dsks.lt k hk).1)
    have hlow3 : Low B w6 w8 := hF8.low hBz6.out (by
      rintro k (rfl | hk)
      · exact H1.out.lo.1
      · exact (Hfl6.out.lt k hk).1)
    have hko2 : FrK KO w4 w6 := by
      refine fr_KOR HF6.out ?_
      intro k hk
      obtain ⟨o, e1, e2⟩ := HS4.out k hk
      exact ⟨o, e1, by simp [KO] at e2 ⊢; omega⟩
    have hko3 : FrK KO w6 w8 := by
      refine fr_KOR hF8 ?_
      intro k hk
      obtain ⟨o, e1, e2⟩ := hS6 k hk
      exact ⟨o, e1, by simp [KO] at e2 ⊢; omega⟩
    refine ⟨rfl, ⟨l ++ [od], fs ++ [false], ⟨kv, rv, sv, .slice vb vm vd, .slice ga gn gc, ks, rs, ss, ?_⟩, hds, H4k.out, ?_, ⟨H1.out.lo.1, Nat.le_trans hBz6.out hF8.size⟩, ?_, ?_⟩, ((HLw.out.trans hlow1).trans hlow2).trans hlow3, ((HKw.out.trans (HN14.out.toK (fun _ _ f _ => f.elim))).trans hko2).trans hko3⟩
    · refine ⟨hp8, ownsRow_fr (ownsRow_fr hK.keep HF6.out (hn4 4 (by simp))) hF8 (hn6 4 (by simp)), ownsRow_fr (ownsRow_fr hK.reps HF6.out (hn4 4 (by simp))) hF8 (hn6 4 (by simp)), hK.apart, ownsRow_fr (ownsRow_fr hK.stps HF6.out (hn4 193 (by simp))) hF8 (hn6 193 (by simp)), ?_, ?_, by simp; exact hnum.out, hK.lk, hK.lr, hK.ls, fun o ho k hk => ?_⟩
      · have := ownsRow_fr Hd6.out hF8 (hn6 160 (by simp))
        rw [List.length_append, show ptrsR (l ++ [od]) = ptrsR l ++ [.pointer (some ⟨kb, 0, none⟩)] by simp [ptrsR, Hodk.out]]
        exact this
      · rw [List.length_append, List.map_append]
        exact hf8
      · rcases List.mem_append.1 ho with h | h
        · exact hK.off o h k hk
        · simp at h; subst h
          intro h2
          have h3 := HOo.out k h2
          rcases hk with hk | hk
          · have := (Hw1.out.keep.lt k hk).2; omega
          · have := (Hw1.out.reps.lt k hk).2; omega
    · rw [List.pairwise_append]
      refine ⟨hnd.out, List.pairwise_singleton _ _, fun x hx y hy k hk h2 => ?_⟩
      simp at hy; subst hy
      have h3 := HOo.out k h2
      have := (hd1.out x hx).lt hk
      omega
    · have := hlen.out
      simp; omega
    · intro i o f ho hf e he
      by_cases hi : i < l.length
      · rw [List.getElem?_append_left hi] at ho
        rw [List.getElem?_append_left (by rw [hnum.out]; exact hi)] at hf
        exact hfa.out i o f ho hf e he
      · rw [List.getElem?_append_right (by omega)] at ho
        have h0 : i - l.length = 0 := by
          have := (List.getElem?_eq_some_iff.1 ho).1
          simpa using this
        rw [h0] at ho
        simp at ho; subst ho
        rw [Hodx.out] at he; cases he
  · go_wp2_with fail
    go_ret
    refine ⟨?_, ⟨l, fs, H1.out⟩, HLw.out, HKw.out⟩
    show Ending.returned (.bool false) = .returned (.bool (decide (1 ≤ k) && decide (k ≤ 6)))
    have : (decide (1 ≤ k) && decide (k ≤ 6)) = false := by
      simp only [Bool.and_eq_false_iff, decide_eq_false_iff_not]; omega
    rw [this]
end Go.Proofs.YtkafmfdipmhleaaGreatDoor

namespace Go.Proofs.YtkafmfdipmhleaaGreatDoor
open Go.RowKit Go.Maps
set_option maxRecDepth 100000 in
set_option maxHeartbeats 4000000 in
theorem status_calls {w : World} {kb : Nat} {c0 c1 c2 c3 c4 c5 c6 c7 lv : Value} (hk : w.heap[kb]? = some (.cells #[c0, c1, c2, c3, c4, c5, c6, c7, .bool false, lv] 165 (0, 0))) (g : SagaM) (sv mv : Value) (hs : ∃ a c, sv = .slice a g.steps.length c) :
    Calls Tryz.prog 149 #[.pointer (some ⟨kb, 0, none⟩), .agg g.status, .agg (rCells (g, sv, mv)).toArray] w fun e w' => e = .returned (.bool true) ∧ New w w' := by
  obtain ⟨sa, sc, rfl⟩ := hs
  have hN : New w ((w.alloc (.cells g.status 38)).alloc (.cells #[.int .i64 g.id, .slice sa g.steps.length sc, .int .i64 g.st, .int .i64 g.step, .int .i64 g.tries, .int .i64 g.due, mv] 223)) := ((Fr.refl _ w).alloc _).alloc _
  have hb0 := heap_alloc_keep (.cells #[.int .i64 g.id, .slice sa g.steps.length sc, .int .i64 g.st, .int .i64 g.step, .int .i64 g.tries, .int .i64 g.due, mv] 223) (heap_alloc_new w (.cells g.status 38))
  have hb1 := heap_alloc_new (w.alloc (.cells g.status 38)) (.cells #[.int .i64 g.id, .slice sa g.steps.length sc, .int .i64 g.st, .int .i64 g.step, .int .i64 g.tries, .int .i64 g.due, mv] 223)
  have hk1 := hN.get hk (fun f => f)
  have hst : g.status = #[.int .i64 g.id, .int .i64 g.st, .int .i64 g.step, .int .i64 g.steps.length, .int .i64 g.tries, .int .i64 g.due] := rfl
  rw [hst] at hN hb0 hb1 hk1 ⊢
  rw [sz_alloc] at hb1
  have HN := Lib.hid hN
  clear hN hk hst
  unfold rCells
  go_enter Tryz.func149, Tryz.ntmps149
  go_upto_region 1 with fail
  generalize ((w.alloc (.cells #[.int .i64 g.id, .int .i64 g.st, .int .i64 g.step, .int .i64 g.steps.length, .int .i64 g.tries, .int .i64 g.due] 38)).alloc (.cells #[.int .i64 g.id, .slice sa g.steps.length sc, .int .i64 g.st, .int .i64 g.step, .int .i64 g.tries, .int .i64 g.due, mv] 223)) = w1 at HN hb0 hb1 hk1 ⊢
  generalize w.heap.size = N at hb0 hb1 ⊢
  have hcv := cellv w1
  have n0 : (g.id != g.id) = false := by simp
  have n1 : ((g.steps.length : Int) != (g.steps.length : Int)) = false := by simp
  have n2 : (g.st == g.st) = true := by simp
  have n3 : (g.step == g.step) = true := by simp
  have n4 : (g.tries == g.tries) = true := by simp
  have n5 : (g.due == g.due) = true := by simp
  go_wp2_with fail
  go_ret
  exact ⟨rfl, HN.out⟩
end Go.Proofs.YtkafmfdipmhleaaGreatDoor

namespace Go.Proofs.YtkafmfdipmhleaaGreatDoor
open Go.RowKit Go.Maps
noncomputable def subR38 : Code := ((Tryz.f112.body).bind (regionAt 38)).getD .skip
/-- The list with a saga more. -/
def insR (R : List RefM) (r : RefM) : List RefM := R.take (findI (sagasOf R) r.1.id) ++ r :: R.drop (findI (sagasOf R) r.1.id)
set_option maxRecDepth 100000 in
set_option maxHeartbeats 8000000 in
/-- d.r = d.r.With(..) -/
theorem sub_r38 (kb tb B : Nat) (pz ck id : Int) (c0 c1 c2 c3 c4 c5 lv sv : Value) (R : List RefM) (l : List (ByteArray × ByteArray)) (W : World)
    (hk : W.heap[kb]? = some (.cells #[c0, c1, c2, c3, c4, c5, .int .i64 pz, .int .i64 ck, .bool false, lv] 165 (0, 0))) (ht : W.heap[tb]? = some (.cells #[.int .i64 1, .int .i64 1] 220 (0, 0)))
    (hR : RefAt W B lv R) (ho : (sagasOf R).Pairwise (fun a b => a.id < b.id)) (hl : R.length ≤ 1000) (hs : StpR W sv l)
    {ds : List Deferred} {x3 x4 x5 x6 x7 x8 x9 x10 x11 x12 x13 x14 x15 x16 x17 x18 x19 x20 x22 x23 x24 x25 x26 x27 x28 x29 x30 x31 x32 x33 x34 x35 x36 x37 x38 x39 x40 x41 x42 x43 x44 x45 x46 x47 x48 x49 x50 x51 x52 x53 x54 x55 x56 x57 x58 x59 x60 x61 x62 x63 x64 x65 x66 x67 x68 x69 x70 x71 x72 x73 x74 x75 x76 x77 x78 x79 x80 x81 x82 x83 x84 x85 x86 x87 x88 x89 x90 x91 x92 x93 x94 x95 x96 x97 x98 x99 x100 x101 x102 x103 x104 x105 x106 x107 x108 x109 x110 x111 x112 x113 x114 x115 x116 x117 x118 x119 x120 x121 x122 x123 x124 x125 x126 x127 x128 x129 x130 x131 x132 x133 x134 x135 x136 x137 x138 x139 x140 x141 x142 x143 x144 x145 x146 x147 x148 x149 x150 x151 x152 x153 x154 x155 x156 x157 x158 x159 x160 x161 x162 x163 x164 x165 x166 x167 x168 x169 x170 x171 x172 x173 x174 x175 x176 x177 x178 x179 x180 x181 x182 x183 x184 x185 x186 x187 x188 x189 x190 x191 x192 x193 x194 x195 x196 x197 x198 x199 x200 x201 x202 x203 x204 x205 x206 x207 x208 x209 x210 x211 x212 x213 x214 x215 x216 x217 x218 x219 x220 x221 x222 x223 : Value} {Q : Exit → Act → World → Prop}
    (hQ : ∀ (y208 y209 y210 y211 y212 y213 y214 y215 y216 y217 y218 y219 y220 y221 lv2 : Value) (mb : Nat) (w3 : World), New W w3 → W.heap.size ≤ mb → w3.heap[mb]? = some (.cells #[.int .i64 1, .int .i64 1] 220 (0, 0)) → w3.ownsRow W.heap.size 223 7 lv2 (insR R (SagaM.new id l, sv, .slice (some ⟨mb, 0, none⟩) 1 1)).length (allR (insR R (SagaM.new id l, sv, .slice (some ⟨mb, 0, none⟩) 1 1))) → Q .normal ⟨#[.pointer (some ⟨kb, 0, none⟩), .int .i64 id, sv, x3,x4,x5,x6,x7,x8,x9,x10,x11,x12,x13,x14,x15,x16,x17,x18,x19,x20, .pointer (some ⟨tb, 0, none⟩), x22,x23,x24,x25,x26,x27,x28,x29,x30,x31,x32,x33,x34,x35,x36,x37,x38,x39,x40,x41,x42,x43,x44,x45,x46,x47,x48,x49,x50,x51,x52,x53,x54,x55,x56,x57,x58,x59,x60,x61,x62,x63,x64,x65,x66,x67,x68,x69,x70,x71,x72,x73,x74,x75,x76,x77,x78,x79,x80,x81,x82,x83,x84,x85,x86,x87,x88,x89,x90,x91,x92,x93,x94,x95,x96,x97,x98,x99,x100,x101,x102,x103,x104,x105,x106,x107,x108,x109,x110,x111,x112,x113,x114,x115,x116,x117,x118,x119,x120,x121,x122,x123,x124,x125,x126,x127,x128,x129,x130,x131,x132,x133,x134,x135,x136,x137,x138,x139,x140,x141,x142,x143,x144,x145,x146,x147,x148,x149,x150,x151,x152,x153,x154,x155,x156,x157,x158,x159,x160,x161,x162,x163,x164,x165,x166,x167,x168,x169,x170,x171,x172,x173,x174,x175,x176,x177,x178,x179,x180,x181,x182,x183,x184,x185,x186,x187,x188,x189,x190,x191,x192,x193,x194,x195,x196,x197,x198,x199,x200,x201,x202,x203,x204,x205,x206,x207,y208,y209,y210,y211,y212,y213,y214,y215,y216,y217,y218,y219,y220,y221,x222,x223], ds⟩ ((((w3.setCell ⟨kb, 6, none⟩ (.int .i64 pz)).setCell ⟨kb, 7, none⟩ (.int .i64 ck)).setCell ⟨kb, 8, none⟩ (.bool false)).setCell ⟨kb, 9, none⟩ lv2)) :
    Code.wp Tryz.prog subR38 Q ⟨#[.pointer (some ⟨kb, 0, none⟩), .int .i64 id, sv, x3,x4,x5,x6,x7,x8,x9,x10,x11,x12,x13,x14,x15,x16,x17,x18,x19,x20, .pointer (some ⟨tb, 0, none⟩), x22,x23,x24,x25,x26,x27,x28,x29,x30,x31,x32,x33,x34,x35,x36,x37,x38,x39,x40,x41,x42,x43,x44,x45,x46,x47,x48,x49,x50,x51,x52,x53,x54,x55,x56,x57,x58,x59,x60,x61,x62,x63,x64,x65,x66,x67,x68,x69,x70,x71,x72,x73,x74,x75,x76,x77,x78,x79,x80,x81,x82,x83,x84,x85,x86,x87,x88,x89,x90,x91,x92,x93,x94,x95,x96,x97,x98,x99,x100,x101,x102,x103,x104,x105,x106,x107,x108,x109,x110,x111,x112,x113,x114,x115,x116,x117,x118,x119,x120,x121,x122,x123,x124,x125,x126,x127,x128,x129,x130,x131,x132,x133,x134,x135,x136,x137,x138,x139,x140,x141,x142,x143,x144,x145,x146,x147,x148,x149,x150,x151,x152,x153,x154,x155,x156,x157,x158,x159,x160,x161,x162,x163,x164,x165,x166,x167,x168,x169,x170,x171,x172,x173,x174,x175,x176,x177,x178,x179,x180,x181,x182,x183,x184,x185,x186,x187,x188,x189,x190,x191,x192,x193,x194,x195,x196,x197,x198,x199,x200,x201,x202,x203,x204,x205,x206,x207,x208,x209,x210,x211,x212,x213,x214,x215,x216,x217,x218,x219,x220,x221,x222,x223], ds⟩ W := by
  have HS : Hid (∀ w', New W w' → w'.cell? ⟨kb, 6, none⟩ = some (.int .i64 pz) ∧ w'.cell? ⟨kb, 7, none⟩ = some (.int .i64 ck) ∧ w'.cell? ⟨kb, 8, none⟩ = some (.bool false) ∧ w'.cell? ⟨kb, 9, none⟩ = some lv ∧ w'.cell? ⟨tb, 0, none⟩ = some (.int .i64 1) ∧ w'.cell? ⟨tb, 1, none⟩ = some (.int .i64 1)) := by
    intro w' hf
    simp only [cellv, hf.get hk (fun f => f), hf.get ht (fun f => f)]
    exact ⟨rfl, rfl, rfl, rfl, rfl, rfl⟩
  have HK : Hid (∀ w', New W w' → w'.heap[kb]? = some (.cells #[c0, c1, c2, c3, c4, c5, .int .i64 pz, .int .i64 ck, .bool false, lv] 165 (0, 0))) := fun w' hf => hf.get hk (fun f => f)
  obtain ⟨sa, sc, rfl⟩ := hs.shape
  obtain ⟨la, lc, rfl⟩ := hR.shape
  have HW : Hid (∀ (w' : World) (mb : Nat), New W w' → Calls Tryz.prog 141 #[.agg #[.int .i64 pz, .int .i64 ck, .bool false, .slice la R.length lc], .agg #[.int .i64 id, .slice sa l.length sc, .int .i64 1, .int .i64 1, .int .i64 0, .int .i64 0, .slice (some ⟨mb, 0, none⟩) 1 1]] w' (WithPost w' pz ck (insR R (SagaM.new id l, .slice sa l.length sc, .slice (some ⟨mb, 0, none⟩) 1 1)))) :=
    fun w' mb hf => With_calls (hR.new hf) ho hl pz ck (SagaM.new id l, .slice sa l.length sc, .slice (some ⟨mb, 0, none⟩) 1 1) ⟨_, _, _, rfl⟩ ⟨_, _, _, rfl⟩
  have HQ := Lib.hid hQ
  have hn0 : New W W.drew := (Fr.refl _ W).drew
  clear hk ht hR ho hl hs hQ
  generalize hln : l.length = ln at *
  generalize hRn : R.length = Rn at *
  conv => arg 2; whnf
  have hcvN : Hid (∀ w', New W w' → ∀ b o, w'.cell? ⟨b, o, none⟩ = cellOf w'.heap[b]? o) := fun w' _ b o => cellv w' b o
  have a6 : W.cell? ⟨kb, 6, none⟩ = some (.int .i64 pz) := (HS.out W (Fr.refl _ W)).1
  have a7 : W.cell? ⟨kb, 7, none⟩ = some (.int .i64 ck) := (HS.out W (Fr.refl _ W)).2.1
  have a8 : W.cell? ⟨kb, 8, none⟩ = some (.bool false) := (HS.out W (Fr.refl _ W)).2.2.1
  have a9 : W.cell? ⟨kb, 9, none⟩ = some (.slice la Rn lc) := (HS.out W (Fr.refl _ W)).2.2.2.1
  have t0 : W.cell? ⟨tb, 0, none⟩ = some (.int .i64 1) := (HS.out W (Fr.refl _ W)).2.2.2.2.1
  have t1 : W.cell? ⟨tb, 1, none⟩ = some (.int .i64 1) := (HS.out W (Fr.refl _ W)).2.2.2.2.2
  have hn1 : New W ((W.alloc (.cells #[.int .i64 1, .int .i64 1] 220)).drew) := ((Fr.refl _ W).alloc _).drew
  have b6 : (W.alloc (.cells #[.int .i64 1, .int .i64 1] 220)).cell? ⟨kb, 6, none⟩ = some (.int .i64 pz) := (HS.out _ hn1).1
  have b7 : (W.alloc (.cells #[.int .i64 1, .int .i64 1] 220)).cell? ⟨kb, 7, none⟩ = some (.int .i64 ck) := (HS.out _ hn1).2.1
  have b8 : (W.alloc (.cells #[.int .i64 1, .int .i64 1] 220)).cell? ⟨kb, 8, none⟩ = some (.bool false) := (HS.out _ hn1).2.2.1
  have b9 : (W.alloc (.cells #[.int .i64 1, .int .i64 1] 220)).cell? ⟨kb, 9, none⟩ = some (.slice la Rn lc) := (HS.out _ hn1).2.2.2.1
  have u0 : (W.alloc (.cells #[.int .i64 1, .int .i64 1] 220)).cell? ⟨tb, 0, none⟩ = some (.int .i64 1) := (HS.out _ hn1).2.2.2.2.1
  have u1 : (W.alloc (.cells #[.int .i64 1, .int .i64 1] 220)).cell? ⟨tb, 1, none⟩ = some (.int .i64 1) := (HS.out _ hn1).2.2.2.2.2
  have Hn1 := Lib.hid hn1
  clear hn1
  refine wp_region_noPanic ?_
  go_region_law (first
    | (go_simp; go_at_call 141; refine Calls.mono (HW.out _ _ Hn1.out) ?_; rintro e w2 ⟨lv2, rfl, hown, hf2⟩; obtain ⟨a2, n2, c2, rfl⟩ := own_slice hown; simp only [engV]; have hk2 := HK.out _ (Hn1.out.trans hf2); have hcv2 := cellv w2; have hfv2 := frozv w2)
    | fail)
  all_goals
    refine NoPanic.normal (HQ.out _ _ _ _ _ _ _ _ _ _ _ _ _ _ (.slice a2 n2 c2) W.heap.size w2 (Hn1.out.trans hf2) (Nat.le_refl _) (hf2.get (heap_alloc_new W _) (fun f => f)) (own_baseW hown (by simp)))
end Go.Proofs.YtkafmfdipmhleaaGreatDoor
