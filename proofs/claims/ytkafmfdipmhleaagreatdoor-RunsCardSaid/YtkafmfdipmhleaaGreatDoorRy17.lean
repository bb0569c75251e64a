/-
  What is proved: the given statement of Runs: for every input it returns true, and each argument reads as it did. Conditions: those of the row (the listed variable starts as the program's text lays it: tied by the card).
-/
import Derived.Test.YtkafmfdipmhleaaGreatDoorRy16
import Derived.StillTailTactics
import Derived.Test.YtkafmfdipmhleaaGreatDoorRows
import Derived.ChangeSame
import Derived.ChangeVars
import Derived.ChangeSlices
import Derived.JoinedOf
import Derived.RowKit
import Derived.RowKitTokens
import Derived.LaidLaws
import Derived.LaidHandle
import Derived.Stop.Joined
import Derived.Carry
import Derived.Test.YtkafmfdipmhleaaGreatDoorCards
import Derived.Test.YtkafmfdipmhleaaGreatDoorTie

namespace Go.Proofs.YtkafmfdipmhleaaGreatDoor
open Go.RowKit Go.Maps
set_option maxRecDepth 100000 in
set_option maxHeartbeats 8000000 in
theorem failC : FailC := by
  intro w B wb m i l fs a h hil hg hB
  obtain ⟨kv, rv, sv, dv, fv, ks, rs, ss, hw⟩ := h.wd
  obtain ⟨od, hod⟩ : ∃ od, l[i]? = some od := ⟨l[i], List.getElem?_eq_getElem hil⟩
  obtain ⟨dg, dcap, dcur, rfl, hdh, hdc⟩ := own_cell hw.dsks hil (by unfold ptrsR; rw [List.getElem?_map, hod]; rfl)
  have hmem := List.mem_of_getElem? hod
  have hodR := h.ds od hmem
  have hodK := h.ok od hmem
  have h0 : 0 < od.kb ∧ 0 < od.db := by
    have h1 := hodR.lo _ (.inl rfl)
    have h2 := hodR.lo _ (.inr (.inl rfl))
    omega
  have hpe : od.d.pending = 0 := by unfold DiskM.pending; rw [hodK.pend]
  have HPe := Lib.hid (Pending_calls hodR.dk)
  rw [hpe] at HPe
  have HOp := Lib.hid (openedR_calls (pause := a) hodR hodK (fun he => hodK.opn he) hg h0)
  have hkb := hodR.st
  simp only [rdCells] at hkb
  have hwc := hw.cells
  have hdcell : cellOf w.heap[dg]? i = some (.pointer (some ⟨od.kb, 0, none⟩)) := by rw [hdh, cellOf_cells]; exact hdc
  have hiI : (i : Int) < l.length := by omega
  have hi0 : (0 : Int) ≤ i := by omega
  have H := Lib.hid h
  have Hod := Lib.hid hod
  have HodR := Lib.hid hodR
  have HodK := Lib.hid hodK
  have Hil := Lib.hid hil
  clear h hw hod hdh hdc hmem hodR hodK h0 hpe hg
  have hcv := cellv w
  go_enter Tryz.func90, Tryz.ntmps90
  go_upto_region 5 with (first
    | (go_at_call 31; refine Calls.mono HPe.out ?_; rintro e w1 ⟨rfl, rfl⟩)
    | (go_at_call 89; refine Calls.mono HOp.out ?_; rintro e w2 ⟨rfl, hT2⟩)
    | fail)
  have hlow := TurnedTo.low HodR.out hT2
  obtain ⟨o1, hR1, hO1, ⟨e1, e2, e3, e4⟩, hown1, hF1, hJ1⟩ := hT2
  obtain ⟨_, rfl, hW1⟩ := (H.out.less (k := m + 1) (by omega)).r0.disk Hod.out (Q := (· = o1)) ⟨o1, hR1, hO1, ⟨e1, e2, e3, e4⟩, hown1, hF1, rfl⟩
  rename_i o1
  have hkb2 : w2.heap[od.kb]? = some (.cells (rdCells o1) 165 (0, 0)) := by rw [← e1]; exact hR1.st
  simp only [rdCells] at hkb2
  rw [e2, e4] at hkb2
  have HW1 := Lib.hid hW1
  have HR1 := Lib.hid hR1
  have HO1 := Lib.hid hO1
  have HJ1 := Lib.hid hJ1
  have Hlow := Lib.hid hlow
  have He1 := Lib.hid e1
  have He2 := Lib.hid e2
  have He4 := Lib.hid e4
  clear hcv hkb hwc hdcell hiI hW1 hR1 hO1 hJ1 hlow e1 e2 e3 e4 hown1 hF1
  have hcv := cellv w2
  cases hx1 : o1.x with
  | none =>
    have hxv : xvOf o1 = .pointer none := by unfold xvOf; rw [hx1]
    rw [hxv] at hkb2
    have Hx1 := Lib.hid hx1
    clear hx1 hxv
    go_wp2_with fail
    go_ret
    have hW0 : RW0 w2 B wb m (l.set i o1) fs := by
      obtain ⟨kv, rv, sv, dv, fv, ks, rs, ss, hw⟩ := HW1.out.wd
      exact ⟨⟨kv, rv, sv, dv, fv, ks, rs, ss, hw.less (by omega)⟩, HW1.out.ds, fun o ho => (HW1.out.ok o ho).less (by omega), HW1.out.nd, HW1.out.lo, by have := HW1.out.len; omega⟩
    exact ⟨rfl, ⟨_, _, hW0.rw (fa_noX Hod.out H.out.fa Hx1.out)⟩, Hlow.out⟩
  | some e1 =>
    have hxv : xvOf o1 = .pointer (some ⟨e1.xb, 0, none⟩) := by unfold xvOf; rw [hx1]
    rw [hxv] at hkb2
    obtain ⟨_, hjp, _, _⟩ := HJ1.out e1 hx1
    have hpz := (HO1.out.eng e1 hx1).1
    rw [hjp] at hpz
    have HFl := Lib.hid (pFails_calls HO1.out (HO1.out.epx hx1) HR1.out.dk hpz)
    rw [He2.out] at HFl
    obtain ⟨kv2, rv2, sv2, dv2, fv2, ks2, rs2, ss2, hw2⟩ := HW1.out.wd
    obtain ⟨f, hf⟩ : ∃ f, fs[i]? = some f := ⟨fs[i]'(by rw [hw2.num, List.length_set]; exact Hil.out), List.getElem?_eq_getElem _⟩
    obtain ⟨fg, fcap, fcur, rfl, hfh, hfc⟩ := own_cell hw2.fls (show i < fs.length by rw [hw2.num, List.length_set]; exact Hil.out) (u := .bool f) (by rw [List.getElem?_map, hf]; rfl)
    have hfl : i < fs.length := by rw [hw2.num, List.length_set]; exact Hil.out
    have hBfg : B ≤ fg := (hw2.fls.lt fg rfl).1
    have Hw2 := Lib.hid hw2
    have Hfh := Lib.hid hfh
    have Hfc := Lib.hid hfc
    have Hx1 := Lib.hid hx1
    have HBfg := Lib.hid hBfg
    have Hkb2 := Lib.hid hkb2
    have hdk1 : ∃ c, w2.heap[od.db]? = some (.cells c 102 (0, 0)) := by
      obtain ⟨_, _, _, _, h1, _⟩ := HR1.out.dk
      rw [He2.out] at h1
      exact ⟨_, h1⟩
    obtain ⟨dkc, hdk1⟩ := hdk1
    have hn1 : ¬ od.kb = od.db := ne_of_kind hkb2 hdk1 (by simp [kindOf])
    have hn2 : ¬ wb = od.db := ne_of_kind hw2.cells hdk1 (by simp [kindOf])
    have hn3 : ¬ fg = od.db := ne_of_kind hfh hdk1 (by simp [kindOf])
    have hn4 : ¬ od.kb = fg := ne_of_kind hkb2 hfh (by simp [kindOf])
    have Hn1 := Lib.hid hn1
    have Hn2 := Lib.hid hn2
    have Hn3 := Lib.hid hn3
    have Hn4 := Lib.hid hn4
    clear hxv hjp hpz hw2 hf hfc hfh hBfg hdk1 hn1 hn2 hn3 hn4
    go_upto_region 9 with (first
      | (go_at_call 111; refine Calls.mono HFl.out ?_; rintro e w3 ⟨xb, jb, mb, bl, k, rfl, hxs, hk2, hxe, hjn, hd3, hmp, hlen, hsg, hnd, hbl, hf3⟩)
      | fail)
    have hkb3 := hf3.get Hkb2.out Hn1.out
    have hwc3 := hf3.get Hw2.out.cells Hn2.out
    have hfh3 := hf3.get Hfh.out Hn3.out
    have hstX : (w3.setCell ⟨od.kb, 5, none⟩ (.pointer (some ⟨xb, 0, none⟩))).heap[od.kb]? = some (.cells #[.pointer (some ⟨od.db, 0, none⟩), .pointer (some ⟨od.pb, 0, none⟩), .int .i64 o1.n, .bool (decide (o1.ep = 0)), .bool false, .pointer (some ⟨xb, 0, none⟩), .int .i64 o1.pz, .int .i64 o1.ck, .bool false, o1.lv] 165 (0, 0)) := by
      rw [hp_setCell, if_pos rfl, hkb3]; rfl
    have hT : TurnedTo (fun o' => ∀ e', o'.x = some e' → e'.a = askF) w2 B m o1 (w3.setCell ⟨od.kb, 5, none⟩ (.pointer (some ⟨xb, 0, none⟩))) :=
      TurnedTo.failed (w3 := w3) (xb := xb) (jb := jb) (mb := mb) (bl := bl) HR1.out HO1.out Hx1.out HJ1.out hk2 hxs hxe (by rw [He2.out]; exact hjn) (by rw [He2.out]; exact hd3) hmp hlen hsg hnd hbl (by rw [He2.out]; exact hf3) (by rw [He1.out]; exact Fr.one _ _ _ _) (by rw [He1.out, He2.out, He4.out]; exact hstX)
    have hlowX := TurnedTo.low HR1.out hT
    have hW1 : RW0 w2 B wb m (l.set i o1) fs := by
      obtain ⟨kv, rv, sv, dv, fv, ks, rs, ss, hw⟩ := HW1.out.wd
      exact ⟨⟨kv, rv, sv, dv, fv, ks, rs, ss, hw.less (by omega)⟩, HW1.out.ds, fun o ho => (HW1.out.ok o ho).less (by omega), HW1.out.nd, HW1.out.lo, by have := HW1.out.len; omega⟩
    obtain ⟨o2, hQ2, hW2⟩ := hW1.disk (k := i) (by rw [List.getElem?_set_self Hil.out]) hT
    rw [List.set_set] at hW2
    have hnwb : ¬ wb = od.kb := ne_of_kind hwc3 hkb3 (by simp [kindOf])
    obtain ⟨kvx, rvx, svx, dvx, fvx, ksx, rsx, ssx, hwx⟩ := hW2.wd
    have hfvx : fvx = .slice (some ⟨fg, 0, none⟩) fs.length fcap := by
      have h1 := hwx.cells
      rw [hp_setCell, if_neg hnwb, hwc3] at h1
      simp only [Option.some.injEq, Obj.cells.injEq, Array.mk.injEq, List.cons.injEq] at h1
      exact h1.1.2.2.2.2.1.symm
    subst hfvx
    have hW3 := hW2.setF hwx (k := i) true
    have hfa := fa_set (o' := o2) (b := true) Hod.out (by rw [Hw2.out.num, List.length_set]) H.out.fa (fun e he => hQ2 e he)
    have hW4 := hW3.rw hfa
    have HW4 := Lib.hid hW4
    have HlowX := Lib.hid hlowX
    have Hszx := Lib.hid (show B ≤ (w3.setCell ⟨od.kb, 5, none⟩ (.pointer (some ⟨xb, 0, none⟩))).heap.size from hW2.lo.2)
    clear hW1 hW2 hW3 hW4 hfa hwx hQ2 hT hlowX hstX hnwb hxs hk2 hxe hjn hd3 hmp hlen hsg hnd hbl hcv hkb2
    have hcv := cellv w3
    have hfv := frozv w3
    have hflI : (i : Int) < fs.length := by omega
    have hfcell : cellOf w3.heap[fg]? i = some (.bool f) := by rw [hfh3, cellOf_cells]; exact Hfc.out
    have hn4 := Hn4.out
    have hn4' : ¬ fg = od.kb := fun e => hn4 e.symm
    go_still_tail 8, (by kernel_rfl)
    change wpList _ _ _ _ _ w3.drew
    have hkb4 : w3.drew.heap[od.kb]? = _ := hkb3
    have hfh4 : w3.drew.heap[fg]? = _ := hfh3
    have hfcell4 : cellOf w3.drew.heap[fg]? i = some (.bool f) := hfcell
    have hD : New w3 w3.drew := (Fr.refl _ w3).drew
    have hwX : ∀ w4 : World, New w3 w4 → w4.heap.size = w3.heap.size → (∀ k : Nat, w4.heap[k]? = w3.heap[k]?) → New ((w3.setCell ⟨od.kb, 5, none⟩ (.pointer (some ⟨xb, 0, none⟩))).setCell ⟨fg, i, none⟩ (.bool true)) ((w4.setCell ⟨fg, i, none⟩ (.bool true)).setCell ⟨od.kb, 5, none⟩ (.pointer (some ⟨xb, 0, none⟩))) := by
      intro w4 hf4 hs4 hh4
      refine ⟨hf4.os, hf4.tape, hf4.output, by simp only [sz_setCell, hs4]; exact Nat.le_refl _, fun k _ _ => ?_⟩
      simp only [hp_setCell, hh4]
      by_cases c1 : k = od.kb
      · subst c1
        simp only [if_true, if_neg hn4]
      · simp only [if_neg c1]
    have hwX4 := hwX w3.drew hD rfl (fun _ => rfl)
    have HwX4 := Lib.hid hwX4
    clear hwX hwX4 hcv hfv hkb3 hwc3 hfh3 hfcell hD
    generalize w3.drew = w4 at hkb4 hfh4 hfcell4 HwX4 ⊢
    have hcv := cellv w4
    have hfv := frozv w4
    have hfcu : fcur[i]? = some (.bool f) := Hfc.out
    go_wp2_with fail
    go_ret
    have hF : Low B (w3.setCell ⟨od.kb, 5, none⟩ (.pointer (some ⟨xb, 0, none⟩))) ((w3.setCell ⟨od.kb, 5, none⟩ (.pointer (some ⟨xb, 0, none⟩))).setCell ⟨fg, i, none⟩ (.bool true)) := (Fr.one fg _ i (.bool true)).low Hszx.out (by rintro k rfl; exact HBfg.out)
    have hG : Low B ((w3.setCell ⟨od.kb, 5, none⟩ (.pointer (some ⟨xb, 0, none⟩))).setCell ⟨fg, i, none⟩ (.bool true)) ((w4.setCell ⟨fg, i, none⟩ (.bool true)).setCell ⟨od.kb, 5, none⟩ (.pointer (some ⟨xb, 0, none⟩))) := HwX4.out.low (by simp only [sz_setCell]; have := Hszx.out; simpa only [sz_setCell] using this) (fun _ f => f.elim)
    exact ⟨rfl, ⟨_, _, HW4.out.new HwX4.out⟩, ((Hlow.out.trans HlowX.out).trans hF).trans hG⟩
end Go.Proofs.YtkafmfdipmhleaaGreatDoor

namespace Go.Proofs.YtkafmfdipmhleaaGreatDoor
open Go.RowKit Go.Maps
theorem tickC : TickC := fun _ _ _ _ _ _ h hk hx hea _ _ => ticked_calls h hk hx hea
set_option maxRecDepth 100000 in
set_option maxHeartbeats 4000000 in
theorem Runs_calls {w : World} {v : Value} {L : List OpM} (h : ScrIn w v L) (hL : L.length ≤ maxLen) (hop : ∀ o ∈ L, o.ok) (hg : Handle w) (h0 : 0 < w.heap.size) :
    Calls Tryz.prog 11 #[v] w fun e w' => e = .returned (.bool true) ∧ Low w.heap.size w w' := by
  obtain ⟨a, c, rfl⟩ := h.shape
  have hN1 : New w (w.alloc (.cells #[.int .i64 10, .int .i64 11, .int .i64 12, .int .i64 13, .int .i64 14, .int .i64 15, .int .i64 16] 3)) := (Fr.refl _ w).alloc _
  have hl1 := hN1.low (Nat.le_refl w.heap.size) (fun _ f => f.elim)
  have HP := Lib.hid (playsR_calls (kl := [10, 11, 12, 13, 14, 15, 16]) (h.low hl1) hL (fun o ho hi => ⟨hop o ho, by
    simp [inK] at hi
    unfold stepKind; omega, fun _ => tickC, fun _ => failC⟩) (heap_alloc_new w _) (by decide) (hg.new hN1) (Nat.lt_of_lt_of_le h0 hN1.size))
  simp only [List.length_cons, List.length_nil, Nat.zero_add, Nat.reduceAdd] at HP
  have HL1 := Lib.hid hl1
  have Hs := Lib.hid hN1.size
  clear h hop hg h0 hN1 hl1 hL
  go_enter Tryz.func11, Tryz.ntmps11
  go_wp2_with (first
    | (go_at_call 35; refine Calls.mono HP.out ?_; rintro e w2 ⟨rfl, hl2⟩)
    | fail)
  go_ret
  exact ⟨rfl, HL1.out.trans (hl2.le Hs.out)⟩
end Go.Proofs.YtkafmfdipmhleaaGreatDoor

namespace Go.Proofs.YtkafmfdipmhleaaGreatDoor
open Go.ChangeShapes Go.WideShapes Go.RowKit
theorem Tryz.own : ownKnob Tryz.prog.godebug = none := by kernel_rfl
/-- A world that meets the condition: the settled one, the variable's cell laid. -/
noncomputable def laidWorld (os : Os) : World :=
  let w0 := World.holding Tryz.prog os ⟨#[], #[], []⟩
  { w0 with heap := w0.heap.modify 0 fun
      | .cells _ t frozen => .cells #[.iface 176 (.agg #[.pointer (some ⟨1, 32, none⟩)])] t frozen
      | o => o }
theorem laidWorld_met (os : Os) (args : Array Value) : laidMetH Tryz.prog [("errors.errorType", Rows.laid_errors_errorType)] ((laidWorld os).forCall (fun _ _ => 0) ⟨#[], args, []⟩).memory :=
  laidMetH_of_parts (laidMet_nil _ _) (by kernel_rfl)
theorem Tryz.et : Tryz.prog.globalNamed "errors.errorType" = some 0 := by kernel_rfl
theorem Tryz.rt : (Tryz.prog.cutTypes.find? (·.1 == "internal/reflectlite.rtype")).map (·.2) = some 176 := by kernel_rfl
set_option maxRecDepth 1000000 in
theorem Tryz.oneRow : ((List.range Tryz.prog.types.size).filter fun t => Tryz.prog.rowNamed t [101, 114, 114, 111, 114]) = [32] := by kernel_rfl
/-- What the condition gives a walk: the variable's one cell. -/
theorem handle_of_laid {W : World} (h : laidMetH Tryz.prog [("errors.errorType", Rows.laid_errors_errorType)] W) : W.cell? ⟨0, 0, none⟩ = some (.iface 176 (.agg #[.pointer (some ⟨1, 32, none⟩)])) := by
  have h' : laidMet Tryz.prog [] W ∧ handlesMet Tryz.prog [("errors.errorType", Rows.laid_errors_errorType)] W := h
  obtain ⟨name, u, ty, e1, e2, e3, e4, e5⟩ := h'.2 _ (List.mem_singleton.2 rfl)
  have en : name = [101, 114, 114, 111, 114] := (Option.some.inj e1).symm
  subst en
  obtain rfl := Option.some.inj (Tryz.rt.symm.trans e2)
  have hm : ty ∈ (List.range Tryz.prog.types.size).filter fun t => Tryz.prog.rowNamed t [101, 114, 114, 111, 114] := List.mem_filter.2 ⟨List.mem_range.2 e3, e4⟩
  rw [Tryz.oneRow] at hm
  obtain rfl := List.mem_singleton.1 hm
  have hh : typeHandle Tryz.prog 32 = .pointer (some ⟨1, 32, none⟩) := by kernel_rfl
  rw [hh] at e5
  simpa using World.var?_cell Tryz.et e5 0
end Go.Proofs.YtkafmfdipmhleaaGreatDoor

namespace Go.Proofs.YtkafmfdipmhleaaGreatDoor
open Go.ChangeShapes Go.WideShapes Go.RowKit
theorem cells112 : Tryz.prog.cellsOf 112 = 6 := by kernel_rfl
theorem cells3o : Tryz.prog.cellsOf 3 = 1 := by kernel_rfl
theorem cells9o : Tryz.prog.cellsOf 9 = 1 := by kernel_rfl
theorem list_all {α : Type} {P : Nat → α → Prop} (n : Nat) (h : ∀ i, i < n → ∃ o, P i o) : ∃ L : List α, L.length = n ∧ ∀ (i : Nat) (o : α), L[i]? = some o → P i o := by
  induction n with
  | zero => exact ⟨[], rfl, fun i o ho => by simp at ho⟩
  | succ n ih =>
    obtain ⟨L, h1, h2⟩ := ih (fun i hi => h i (by omega))
    obtain ⟨o, ho⟩ := h n (by omega)
    refine ⟨L ++ [o], by simp [h1], fun i x hx => ?_⟩
    by_cases hi : i < L.length
    · rw [List.getElem?_append_left hi] at hx; exact h2 i x hx
    · have : i = n := by
        have := (List.getElem?_eq_some_iff.1 hx).1
        simp at this; omega
      subst this
      rw [List.getElem?_append_right (by omega), h1] at hx
      simp at hx; subst hx; exact ho
theorem six_of {α : Type} {cs : List α} (h : cs.length = 6) : ∃ v0 v1 v2 v3 v4 v5, cs = [v0, v1, v2, v3, v4, v5] := by
  match cs, h with
  | [v0, v1, v2, v3, v4, v5], _ => exact ⟨v0, v1, v2, v3, v4, v5, rfl⟩
/-- A step that came in. -/
theorem open_op {H : Type} {enc : TypeId × Value → H} {W : World} {base : Nat} {sp : Nat → Bool} {held : Bool} {fuel : Nat} {cs : List Value} {y : DataW H × List MemPlace} (h : DataW.trod enc Tryz.prog W base sp held fuel 112 cs = some y) : ∃ o : OpM, o.ok ∧ cs = o.cells.toList := by
  obtain ⟨xs, n, _, _, hl, hlen, hf⟩ := DataW.trod_struct Tryz.underlying112 h
  rw [cells112] at hl
  have hxl : xs.length = 6 := hlen
  obtain ⟨v0, v1, v2, v3, v4, v5, rfl⟩ := six_of hl
  have hint : ∀ (i : Nat) (f : Field) (v : Value), (#[{ name := "Kind", type := 3, offset := 0, embedded := false, tag := "", pkgPath := "", byteOffset := 0 }, { name := "X", type := 3, offset := 1, embedded := false, tag := "", pkgPath := "", byteOffset := 8 }, { name := "A", type := 3, offset := 2, embedded := false, tag := "", pkgPath := "", byteOffset := 16 }, { name := "B", type := 3, offset := 3, embedded := false, tag := "", pkgPath := "", byteOffset := 24 }, { name := "S", type := 9, offset := 4, embedded := false, tag := "", pkgPath := "", byteOffset := 32 }, { name := "T", type := 9, offset := 5, embedded := false, tag := "", pkgPath := "", byteOffset := 48 }] : Array Field)[i]? = some f → f.type = 3 → ([v0, v1, v2, v3, v4, v5].drop f.offset).take 1 = [v] → ∃ z, v = .int .i64 z ∧ i64 z := by
    intro i f v hfi ht hv
    have h1 := hf i f hfi
    have hi : i < 6 := (Array.getElem?_eq_some_iff.1 hfi).1
    rw [ht, cells3o, hv, List.getElem?_eq_getElem (by omega)] at h1
    obtain ⟨z, hz, _, hw⟩ := DataW.trod_int Tryz.underlying3 h1
    exact ⟨z, by simpa using hz, by simp [Lit.wf] at hw; exact hw⟩
  have hstr : ∀ (i : Nat) (f : Field) (v : Value), (#[{ name := "Kind", type := 3, offset := 0, embedded := false, tag := "", pkgPath := "", byteOffset := 0 }, { name := "X", type := 3, offset := 1, embedded := false, tag := "", pkgPath := "", byteOffset := 8 }, { name := "A", type := 3, offset := 2, embedded := false, tag := "", pkgPath := "", byteOffset := 16 }, { name := "B", type := 3, offset := 3, embedded := false, tag := "", pkgPath := "", byteOffset := 24 }, { name := "S", type := 9, offset := 4, embedded := false, tag := "", pkgPath := "", byteOffset := 32 }, { name := "T", type := 9, offset := 5, embedded := false, tag := "", pkgPath := "", byteOffset := 48 }] : Array Field)[i]? = some f → f.type = 9 → ([v0, v1, v2, v3, v4, v5].drop f.offset).take 1 = [v] → ∃ z, v = .string z := by
    intro i f v hfi ht hv
    have h1 := hf i f hfi
    have hi : i < 6 := (Array.getElem?_eq_some_iff.1 hfi).1
    rw [ht, cells9o, hv, List.getElem?_eq_getElem (by omega)] at h1
    obtain ⟨z, hz, _, _⟩ := DataW.trod_string Tryz.underlying9 h1
    exact ⟨z, by simpa using hz⟩
  obtain ⟨z0, rfl, w0⟩ := hint 0 _ v0 rfl rfl rfl
  obtain ⟨z1, rfl, w1⟩ := hint 1 _ v1 rfl rfl rfl
  obtain ⟨z2, rfl, w2⟩ := hint 2 _ v2 rfl rfl rfl
  obtain ⟨z3, rfl, w3⟩ := hint 3 _ v3 rfl rfl rfl
  obtain ⟨z4, rfl⟩ := hstr 4 _ v4 rfl rfl rfl
  obtain ⟨z5, rfl⟩ := hstr 5 _ v5 rfl rfl rfl
  exact ⟨⟨z0, z1, z2, z3, z4, z5⟩, ⟨w0, w1, w2, w3⟩, rfl⟩
/-- A script that came in. -/
theorem script_open {H : Type} {enc : TypeId × Value → H} {W : World} {base : Nat} {a : Option Addr} {len cap : Nat} {d : DataW H} {p : List MemPlace} {sp : Nat → Bool} {held : Bool} (h : DataW.Trod enc Tryz.prog W base sp held 69 (.slice a len cap) d p) : ∃ L, ScrIn W (.slice a len cap) L ∧ L.length ≤ maxLen ∧ ∀ o ∈ L, o.ok := by
  obtain ⟨fuel, hf⟩ := h
  rcases DataW.trod_slice Tryz.underlying69 hf with ⟨hcs, _⟩ | ⟨ad, len', cap', elems, rest, n, _, hcs, _, hb, hl, hm, hlen, hel, _, _⟩
  · simp [Value.cells] at hcs
    obtain ⟨rfl, rfl, rfl⟩ := hcs
    exact ⟨[], .inl ⟨rfl, none, 0, rfl⟩, Nat.zero_le _, fun o ho => by simp at ho⟩
  · simp [Value.cells] at hcs
    obtain ⟨rfl, rfl, rfl⟩ := hcs
    have hone : ∀ i, i < len → ∃ o : OpM, o.ok ∧ ∀ j u, o.cells[j]? = some u → W.cell? (ad.add (i * 6 + j)) = some u := by
      intro i hi
      have h1 := hel i hi
      rw [cells112, List.getElem?_eq_getElem (by omega), Option.bind_eq_some_iff] at h1
      obtain ⟨cs, hcs, hy⟩ := h1
      obtain ⟨o, hok, rfl⟩ := open_op hy
      obtain ⟨_, _, hc⟩ := World.cells?_some hcs
      refine ⟨o, hok, fun j u hu => ?_⟩
      have hj : j < 6 := (Array.getElem?_eq_some_iff.1 hu).1
      have h2 := hc j hj
      rw [show ad.add (i * 6 + j) = (ad.add (i * 6)).add j from (Addr.add_add _ _ _).symm]
      rw [h2]; simpa using hu
    obtain ⟨L, hL, hLo⟩ := list_all len hone
    refine ⟨L, ?_, by omega, fun o ho => ?_⟩
    · by_cases h0 : len = 0
      · exact .inl ⟨List.length_eq_zero_iff.1 (by omega), some ad, cap, by rw [h0]⟩
      · obtain ⟨b, off, spot⟩ := ad
        obtain ⟨o0, ho0⟩ : ∃ o0, L[0]? = some o0 := ⟨L[0], List.getElem?_eq_getElem (by omega)⟩
        have hspot : spot = none := by simpa [Addr.add] using World.cell?_spot ((hLo 0 o0 ho0).2 0 _ rfl)
        subst hspot
        refine .inr ⟨b, off, cap, by rw [hL], fun i o ho j u hu => ?_⟩
        have := (hLo i o ho).2 j u hu
        rw [add_plain] at this
        rw [Nat.add_assoc]; exact this
    · obtain ⟨i, hi⟩ := List.getElem?_of_mem ho
      exact (hLo i o hi).1
end Go.Proofs.YtkafmfdipmhleaaGreatDoor

namespace Go.Proofs.YtkafmfdipmhleaaGreatDoor
open Go.ChangeShapes Go.WideShapes Go.RowKit
set_option maxRecDepth 100000 in
theorem runs_lifted (os : Os) (started : os.Started) (H : Type) (enc : TypeId × Value → H) :
    ReturnsInHanded {} Tryz.checked os 11 .any (fun w args => (Rows.runsSpec.pre enc Tryz.prog Tryz.f11 [] false w args ∧ laidMetH Tryz.prog [("errors.errorType", Rows.laid_errors_errorType)] w) ∧ sizedMet enc Tryz.prog Tryz.f11 (OpenSpec.ofChange Rows.runsSpec) false w args)
      (Rows.runsSpec.post enc Tryz.prog Tryz.f11 false true false false) := by
  refine returnsInHanded_of_change_and (C := Tryz.checked) (X := fun w _ => laidMetH Tryz.prog [("errors.errorType", Rows.laid_errors_errorType)] w) (fun _ _ _ hh h => h.of_heap hh) Tryz.own started (by kernel_rfl) Tryz.func11
    (ChangeSpec.witness_at (enc := enc) (C := Tryz.checked) (os := os) (X := fun w _ => laidMetH Tryz.prog [("errors.errorType", Rows.laid_errors_errorType)] w) false (laidWorld os) #[.slice none 0 0] 11 rfl (by kernel_rfl) (by kernel_rfl) (by kernel_rfl) (by kernel_rfl) (by kernel_rfl) (laidWorld_met os _)) ?_
  intro W base args ds gs before hval0 hW _ _ hL _
  have hval : ∀ (j : Nat) t v, Tryz.f11.params[j]? = some t → args[j]? = some v → Value.okWide Tryz.prog W .any base t v := hval0
  have hW' := hW
  obtain ⟨p, q, hA0, hV0, rfl, hfz, hnd⟩ := hW
  have hA : DataW.TrodAll enc Tryz.prog W 0 (fun _ => true) true Tryz.f11.params.toList args.toList ds p := hA0
  have hV : DataW.TrodVars enc Tryz.prog W (fun _ => true) [] gs q := hV0
  rw [Tryz.params11] at hA hval
  obtain ⟨v0, d0, rfl, rfl, h0⟩ := trodAll_one hA
  obtain ⟨a, len, cap, rfl⟩ := okWide_slice Tryz.underlying69 (hval 0 69 v0 rfl rfl)
  obtain ⟨L, hscr, hLm, hops⟩ := script_open h0
  obtain ⟨rfl, rfl⟩ : gs = [] ∧ q = [] := by
    cases gs with
    | nil => exact ⟨rfl, hV⟩
    | cons g r => exact absurd hV (by intro h; cases h)
  have e1 : Rows.runsSpec.fn H ([d0] ++ []) = { results := [.lit (.bool true)], args := [d0] } := rfl
  have hlt : ∀ x ∈ p, x.block < W.heap.size := fun x hx => hW'.lt x (by simp [hx])
  refine (Runs_calls hscr hLm hops (handle_of_laid hL) (by have := World.block_lt_of_cell? W _ (handle_of_laid hL); exact this)).mono fun e W' ⟨he, hlow⟩ => ?_
  subst he
  have hb := hlow.below
  refine ⟨_, rfl, _, _, _, [], p, [], hW', ?_, ?_, ?_, hb.frame _, fun h => by cases h⟩
  · rw [e1]; exact trodAll_mk1 (shut_bool Tryz.underlying4 true)
  · rw [e1]; exact trodAll_mk1 (Below.trod (by kernel_rfl) (by kernel_rfl) (of_decide_eq_true (by kernel_rfl)) h0 hb hlt)
  · rw [e1]; rfl
theorem runs_said : Rows.RunsSaid :=
  OpenClaim.holds_of_wide 11 Tryz.f11 rfl rfl rfl rfl rfl rfl rfl ⟨rfl, rfl, rfl, rfl, rfl⟩ rfl rfl rfl rfl rfl (by kernel_rfl) Tryz.func11 (by kernel_rfl)
    (of_decide_eq_true (by kernel_rfl)) (by unfold Func.isWrapper; rw [if_neg (of_decide_eq_false (by kernel_rfl))]; exact ⟨rfl, rfl⟩)
    (fun os started H enc _ => runs_lifted os started H enc)
/-- The given statement, tied to the program's text. -/
theorem runs_holds : Rows.RunsCardSaid :=
  Claim7.holds_tied_plain_at .later [] [.handle] true (true, "500ca5754671a5e02e1cafc7ae1f070d50fdff4f9b7bc823d05bb60165e94295") true
    runs_said (fun _ h => by cases h) (by kernel_rfl) (fun _ h => by cases h) runs_row_tie rfl ⟨rfl, rfl⟩ (by kernel_rfl) rfl
    (fun f fn hf hfn => by
      obtain rfl : f = 11 := Option.some.inj ((show Tryz.prog.funcNamed "sagas/sagaslaw.Runs" = some 11 by kernel_rfl).symm.trans hf) |>.symm
      obtain rfl : fn = Tryz.f11 := (Option.some.inj (Tryz.func11.symm.trans hfn)).symm
      exact ⟨by kernel_rfl, fun j t ht => by
        rw [Tryz.params11] at ht
        have hm : t ∈ [69] := by simpa using Array.mem_of_getElem? ht
        have hall : ([69].all fun u => !Tryz.prog.wantsStandIn u) = true := by kernel_rfl
        exact (show Tryz.prog.wantsStandIn t = false by simpa using List.all_eq_true.1 hall t hm)⟩)
    (by kernel_rfl)
#print axioms runs_holds
end Go.Proofs.YtkafmfdipmhleaaGreatDoor
