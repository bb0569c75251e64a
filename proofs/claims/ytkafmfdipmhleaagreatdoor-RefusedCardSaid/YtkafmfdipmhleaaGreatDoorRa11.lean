/-
  What is proved: plain facts for Refused: the steps with the first undo written anew; two statuses that are the same. the contract of Refused: it returns true, and leaves what was there as it was. a world in which the listed variable holds what the row lists.
-/
import Derived.Test.YtkafmfdipmhleaaGreatDoorRa10
import Derived.Test.YtkafmfdipmhleaaGreatDoorRows
import Derived.ChangeSame
import Derived.ChangeVars
import Derived.ChangeSlices
import Derived.JoinedOf
import Derived.RowKit
import Derived.RowKitTokens
import Derived.LaidLaws
import Derived.LaidHandle
import Derived.Stop.Joined
import Derived.Carry

namespace Go.Proofs.YtkafmfdipmhleaaGreatDoor
open Go.RowKit Go.Maps

theorem steps_shape {w : World} {B : Nat} {v : Value} {x : Int} {m : Nat} (h : StepsVal w B v (kSteps x m)) : ∃ a c, v = .slice a m c ∧ (m = 0 ∨ (1 ≤ m ∧ ∃ g cur, a = some ⟨g, 0, none⟩ ∧ B ≤ g ∧ w.heap[g]? = some (.cells cur 54 (0, 0)) ∧ m * 2 ≤ cur.size ∧ cur.toList.take (m * 2) = stepCells (kSteps x m))) := by
  have hl := kSteps_len x m
  obtain ⟨h1, h2⟩ := h
  rw [hl] at h2
  rcases h2 with ⟨rfl, h0⟩ | ⟨g, cap, cur, rfl, hg, hh, hmc, _, hsz, htk⟩
  · exact ⟨none, 0, by rw [h0], .inl h0⟩
  · by_cases hm : m = 0
    · subst hm
      exact ⟨_, _, rfl, .inl rfl⟩
    · exact ⟨_, cap, rfl, .inr ⟨by omega, g, cur, rfl, hg, hh, by rw [hsz]; omega, htk⟩⟩
/-- The first undo written anew. -/
def firstU (u : ByteArray) : List (ByteArray × ByteArray) → List (ByteArray × ByteArray)
  | [] => []
  | (a, _) :: t => (a, u) :: t
theorem firstU_len (u : ByteArray) (l : List (ByteArray × ByteArray)) : (firstU u l).length = l.length := by
  cases l with
  | nil => rfl
  | cons a t => rfl
theorem kSteps_cons (x : Int) (m : Nat) (hm : 1 ≤ m) : ∃ t, kSteps x m = kStep x 0 :: t ∧ anyLong t = false ∧ t.length + 1 = m := by
  obtain ⟨n, rfl⟩ : ∃ n, m = n + 1 := ⟨m - 1, by omega⟩
  refine ⟨(List.range n).map fun i => kStep x ((i + 1 : Nat) : Int), ?_, ?_, by simp⟩
  · simp [kSteps, List.range_succ_eq_map]
  · unfold anyLong
    rw [List.any_eq_false]
    intro y hy
    simp only [List.mem_map] at hy
    obtain ⟨i, _, rfl⟩ := hy
    have e1 : (kStep x ((i + 1 : Nat) : Int)).1.size = 3 := rfl
    have e2 : (kStep x ((i + 1 : Nat) : Int)).2.size = 3 := rfl
    simp only [longB, e1, e2]
    simp
theorem firstU_long (x : Int) (m : Nat) (hm : 1 ≤ m) (u : ByteArray) : anyLong (firstU u (kSteps x m)) = decide (8 < u.size) := by
  obtain ⟨t, h1, h2, _⟩ := kSteps_cons x m hm
  rw [h1]
  have key : ∀ (a : ByteArray), a.size = 3 → anyLong ((a, u) :: t) = decide (8 < u.size) := by
    intro a ha
    unfold anyLong at h2 ⊢
    rw [List.any_cons, h2]
    simp [longB, ha]
  exact key (kStep x 0).1 rfl
theorem firstU_same (x : Int) (m : Nat) (hm : 1 ≤ m) : firstU (kStep x 0).2 (kSteps x m) = kSteps x m := by
  obtain ⟨t, h1, _, _⟩ := kSteps_cons x m hm
  rw [h1]; rfl
theorem whole_of (id : Int) (x : Int) (m : Nat) (hm : 1 ≤ m) (u : ByteArray) : wholeB id (firstU u (kSteps x m)) = (decide (1 ≤ id) && decide (id ≤ 1000) && decide (m ≤ 6) && !decide (8 < u.size)) := by
  unfold wholeB
  rw [firstU_long x m hm u, firstU_len, kSteps_len, show decide (1 ≤ m) = true from decide_eq_true hm, Bool.and_true]
/-- The slice behind the store. -/
theorem stepsAt_set {w : World} {g c : Nat} {m : Nat} {x : Int} {cur : Array Value} (hm : 1 ≤ m) (hh : w.heap[g]? = some (.cells cur 54 (0, 0))) (hz : m * 2 ≤ cur.size) (ht : cur.toList.take (m * 2) = stepCells (kSteps x m)) (u : ByteArray) :
    StepsAt (w.setCell ⟨g, 1, none⟩ (.string u)) (.slice (some ⟨g, 0, none⟩) m c) (firstU u (kSteps x m)) := by
  obtain ⟨t, h1, _, h3⟩ := kSteps_cons x m hm
  refine ⟨g, 0, c, cur.setIfInBounds 1 (.string u), by rw [firstU_len, kSteps_len], ?_, fun j hj => ?_⟩
  · rw [hp_setCell, if_pos rfl, hh]; rfl
  · rw [firstU_len, kSteps_len] at hj
    have e : cur[j]? = (stepCells (kSteps x m))[j]? := by
      rw [← ht, List.getElem?_take_of_lt (by omega)]; simp
    rw [h1] at e ⊢
    rw [Nat.zero_add, Array.getElem?_setIfInBounds]
    rcases j with _ | _ | j
    · rw [if_neg (by omega), e]; rfl
    · rw [if_pos rfl, if_pos (by omega)]; rfl
    · rw [if_neg (by omega), e]; rfl
theorem stepsAt_own {w : World} {g c : Nat} {m : Nat} {x : Int} {cur : Array Value} (hh : w.heap[g]? = some (.cells cur 54 (0, 0))) (ht : cur.toList.take (m * 2) = stepCells (kSteps x m)) :
    StepsAt w (.slice (some ⟨g, 0, none⟩) m c) (kSteps x m) := by
  refine ⟨g, 0, c, cur, by rw [kSteps_len], hh, fun j hj => ?_⟩
  rw [kSteps_len] at hj
  rw [← ht, List.getElem?_take_of_lt (by omega)]; simp
theorem undo_cell {w : World} {g : Nat} {m : Nat} {x : Int} {cur : Array Value} (hm : 1 ≤ m) (hh : w.heap[g]? = some (.cells cur 54 (0, 0))) (ht : cur.toList.take (m * 2) = stepCells (kSteps x m)) : w.cell? ⟨g, 1, none⟩ = some (.string (kStep x 0).2) := by
  obtain ⟨t, h1, _, _⟩ := kSteps_cons x m hm
  rw [cellv, hh, cellOf_cells]
  have e : cur[1]? = (stepCells (kSteps x m))[1]? := by
    rw [← ht, List.getElem?_take_of_lt (by omega)]; simp
  rw [e, h1]; rfl
theorem eq38 (a b c d e f : Int) (w : World) : (Op.equalIn 10000 38 (.agg #[.int .i64 a, .int .i64 b, .int .i64 c, .int .i64 d, .int .i64 e, .int .i64 f]) (.agg #[.int .i64 a, .int .i64 b, .int .i64 c, .int .i64 d, .int .i64 e, .int .i64 f])).run Tryz.prog w = .ok true w := by
  have hS : Tryz.prog.underlying 38 = some (.struct (Tryz.prog.fieldsOf 38)) := by kernel_rfl
  have hp : Tryz.prog.stoodInHeld 38 = false := by kernel_rfl
  have u3 := Tryz.underlying3
  rw [show (10000 : Nat) = 9999 + 1 from rfl, run_equalIn_agg w 9999 38 _ _ hS hp]
  simp only [Program.fieldsOf, Tryz.underlying38]
  go_simp
theorem Tryz.guard38 : Tryz.prog.eqGuardType Tryz.prog.depth 38 = false := by kernel_rfl
/-- The first p digits. -/
def digs (p : Nat) : ByteArray := (ByteArray.mk #[48, 49, 50, 51, 52, 53, 54, 55, 56, 57]).extract 0 p
theorem digs_size (p : Nat) (hp : p ≤ 10) : (digs p).size = p := by
  unfold digs
  rw [ByteArray.size_extract]
  show min p 10 - 0 = p
  omega
end Go.Proofs.YtkafmfdipmhleaaGreatDoor

namespace Go.Proofs.YtkafmfdipmhleaaGreatDoor
open Go.RowKit Go.Maps

theorem pb_log {w : World} {q : Pl} {bl : List Nat} {k lo pb : Nat} (hs : StAt w q bl (ref1 k lo)) (hq : q.pb = pb) : ∃ va vc, w.cell? ⟨pb, 0, none⟩ = some (.slice va 0 vc) := by
  obtain ⟨va, vc, ev, iv, h, _⟩ := log_read hs.pt
  rw [hq] at h
  exact ⟨va, vc, by rw [cellv, h]; rfl⟩
set_option maxRecDepth 100000 in
set_option maxHeartbeats 4000000 in
theorem Refused_calls {w : World} {c id n long : Int} (hg0 : w.cell? ⟨0, 0, none⟩ = some (.iface 176 (.agg #[.pointer (some ⟨1, 32, none⟩)]))) (hc : i64 c) (hid : i64 id) (hn : i64 n) (hlo : i64 long) :
    Calls Tryz.prog 4 #[.int .i64 c, .int .i64 id, .int .i64 n, .int .i64 long] w fun e w' => e = .returned (.bool true) ∧ Low w.heap.size w w' := by
  have hsz : 0 < w.heap.size := World.block_lt_of_cell? w _ hg0
  have Hg : Hid (∀ w', Low w.heap.size w w' → w'.cell? ⟨0, 0, none⟩ = some (.iface 176 (.agg #[.pointer (some ⟨1, 32, none⟩)]))) := by
    intro w' hl
    rw [← hg0]
    exact World.cell?_of_block (hl.block 0 hsz)
  have HNP := Lib.hid (NewPartner_calls (w := w) (v := .slice none 0 0) (l := []) (.inl ⟨rfl, none, 0, rfl⟩) (by simp) w.heap.size (Nat.le_refl _))
  have hkr := manyM_range c 1
  obtain ⟨k, hk⟩ : ∃ k : Nat, manyM c 1 = (k : Int) := ⟨(manyM c 1).toNat, by omega⟩
  have hk6 : Hid (1 ≤ k ∧ k ≤ 6) := by show _ ∧ _; omega
  have HMany := Lib.hid (fun w' => many_calls w' c 1 hc (by omega))
  rw [hk] at HMany
  have hmr := pickM_range n 9 (by omega)
  obtain ⟨m, hm⟩ : ∃ m : Nat, pickM n 9 = (m : Int) := ⟨(pickM n 9).toNat, by omega⟩
  have hm8 : Hid (m ≤ 8) := by show _ ≤ _; omega
  have HPick := Lib.hid (fun w' => pick_calls w' n 9 hn (by omega))
  rw [hm] at HPick
  have HPl := Lib.hid (fun w' => pick_calls w' long 11 hlo (by omega))
  clear hsz hg0 hkr hmr hk hm hc hn
  go_enter Tryz.func4, Tryz.ntmps4
  go_upto_region 2 with (first
    | (go_at_call 15; refine Calls.mono HNP.out ?_; rintro e w3 ⟨pb, rfl, hpb, hp3, hf3⟩)
    | fail)
  have HB := Lib.hid (begun_calls (n := 120) hp3 (by omega) (pause := 2) (by omega))
  have HL3 := Lib.hid (hf3.low (Nat.le_refl _) (fun _ f => f.elim))
  clear hpb hp3 hf3
  go_upto_region 5 with (first
    | (go_at_call 17; refine Calls.mono HB.out ?_; rintro e w6 ⟨q, hqp, rfl, hs6, hl6, hz6⟩)
    | fail)
  have HS := Lib.hid (steps_calls w6 1 k (by omega) (by have := hk6.out; omega))
  have HSub := Lib.hid (fun (w7 : World) (v : Value) (hf7 : New w6 w7) (hv : StepsAt w7 v (kSteps 1 k)) => ref1_sub (hs6.keepK (hf7.toK (K := []) (fun _ _ f _ => f.elim)) (by simp)) hv hk6.out)
  have HL6 := Lib.hid (HL3.out.trans hl6)
  clear hs6 hl6 hz6
  go_upto_region 7 with (first
    | (go_at_call 24; refine Calls.mono (HMany.out _) ?_; rintro e w7 ⟨rfl, rfl⟩)
    | (go_at_call 19; refine Calls.mono HS.out ?_; rintro e w7 ⟨sv, rfl, hsv, hf7⟩; obtain ⟨sa, sn, sc, rfl⟩ := own_slice hsv)
    | (go_at_call 18; refine Calls.mono (HSub.out _ _ hf7 (hsv.at (by rw [kSteps_len]; have := hk6.out; omega))) ?_; rintro e w8 ⟨rfl, ⟨bl, hs8⟩, hk8, hl8⟩)
    | fail)
  have HL8 := Lib.hid ((HL6.out.trans (hf7.low HL6.out.size (fun _ f => f.elim))).trans hl8)
  have Hs8 := Lib.hid hs8
  have HSt := Lib.hid (fun (wx : World) (hf : New w8 wx) => hs8.keepK (hf.toK (K := []) (fun _ _ f _ => f.elim)) (by simp))
  have HBy := Lib.hid (fun (wx : World) (hf : New w8 wx) => Bytes_calls (hs8.dk.new hf) (ref1_inv k w.heap.size hk6.out).size)
  generalize hby : (ref1 k w.heap.size).d.bytes = by_ at HBy
  clear hsv hf7 hs8 hk8 hl8 hby
  go_upto_region 9 with (first
    | (go_at_call 25; refine Calls.mono (HBy.out _ (Fr.refl _ _)) ?_; rintro e w9 ⟨rfl, hf9⟩)
    | (go_at_call 21; refine Calls.mono (ref1_status (HSt.out _ hf9) hk6.out) ?_; rintro e w10 ⟨rfl, hf10⟩)
    | fail)
  have HF11 := Lib.hid (hf9.trans (hf10.alloc (.cells #[.int .i64 7, .int .i64 1, .int .i64 1, .int .i64 k, .int .i64 0, .int .i64 0] 38)))
  have hc11 := heap_alloc_new w10 (.cells #[.int .i64 7, .int .i64 1, .int .i64 1, .int .i64 k, .int .i64 0, .int .i64 0] 38)
  have Hc11 := Lib.hid hc11
  clear hf9 hf10 hc11
  generalize w10.alloc (.cells #[.int .i64 7, .int .i64 1, .int .i64 1, .int .i64 k, .int .i64 0, .int .i64 0] 38) = w11 at HF11 Hc11 ⊢
  generalize w10.heap.size = N11 at Hc11 ⊢
  have HS1 := Lib.hid (steps_calls w11 1 k (by omega) (by have := hk6.out; omega))
  go_upto_region 10 with (first
    | (go_at_call 19; refine Calls.mono HS1.out ?_; rintro e w12 ⟨sv2, rfl, hsv2, hf12⟩; obtain ⟨sa2, sn2, sc2, rfl⟩ := own_slice hsv2)
    | (go_at_call 18; refine Calls.mono (ref1_again (HSt.out _ (HF11.out.trans hf12)) (hsv2.at (by rw [kSteps_len]; have := hk6.out; omega)) hk6.out) ?_; rintro e w13 ⟨rfl, hf13⟩)
    | fail)
  have HF13 := Lib.hid (HF11.out.trans (hf12.trans hf13))
  have Hc13 := Lib.hid ((hf12.trans hf13).get Hc11.out (fun f => f))
  have HS2 := Lib.hid (steps_calls w13 2 k (by omega) (by have := hk6.out; omega))
  clear hsv2 hf12 hf13
  go_upto_region 11 with (first
    | (go_at_call 19; refine Calls.mono HS2.out ?_; rintro e w14 ⟨sv3, rfl, hsv3, hf14⟩; obtain ⟨sa3, sn3, sc3, rfl⟩ := own_slice hsv3)
    | (go_at_call 18; refine Calls.mono (ref1_other (HSt.out _ (HF13.out.trans hf14)) (hsv3.at (by rw [kSteps_len]; have := hk6.out; omega)) hk6.out) ?_; rintro e w15 ⟨hf15, x15, rfl, fb, hfb1, rfl, hfb2⟩)
    | fail)
  have HF15 := Lib.hid (HF13.out.trans (hf14.trans hf15))
  have Hc15 := Lib.hid ((hf14.trans hf15).get Hc13.out (fun f => f))
  have Hfb15 := Lib.hid hfb2
  have HS3 := Lib.hid (steps_calls w15 3 m (by omega) (by have := hm8.out; omega))
  clear hsv3 hf14 hf15 hfb1 hfb2
  go_upto_region 13 with (first
    | (go_at_call 16; refine Calls.mono (HPick.out _) ?_; rintro e w16 ⟨rfl, rfl⟩)
    | (go_at_call 19; refine Calls.mono HS3.out ?_; rintro e w17 ⟨sv4, rfl, hsv4, hf17⟩; obtain ⟨sa4, sc4, rfl, hsa4⟩ := steps_shape hsv4)
    | fail)
  obtain ⟨p, hp, hp10⟩ : ∃ p : Nat, pickM long 11 = (p : Int) ∧ p ≤ 10 := by
    have := pickM_range long 11 (by omega)
    exact ⟨(pickM long 11).toNat, by omega, by omega⟩
  rw [hp] at HPl
  have HF17 := Lib.hid (HF15.out.trans hf17)
  have Hc17 := Lib.hid (hf17.get Hc15.out (fun f => f))
  have Hfb17 := Lib.hid (hf17.get Hfb15.out (fun f => f))
  have hsz8 := HF15.out.size
  have hsz17 := hf17.size
  by_cases hm1 : 1 ≤ m
  · rcases hsa4 with h0 | ⟨_, g, cur, rfl, hg, hh, hcz, htk⟩
    · omega
    · have hm1' : (0 : Int) < m := by omega
      clear hsv4
      by_cases hl1 : 0 < long
      · have Hst := Lib.hid (stepsAt_set (c := sc4) hm1 hh hcz htk (digs p))
        have hcu := undo_cell hm1 hh htk
        clear htk hf17
        have hcv := cellv w17
        have hfv := frozv w17
        go_upto_region 15 with (first
          | (go_at_call 16; refine Calls.mono (HPl.out _) ?_; rintro e w18 ⟨rfl, rfl⟩)
          | fail)
        have HW := Lib.hid (HF17.out.setCell (b := g) (fun h => absurd h (by omega)) 1 (.string (digs p)))
        have HcW := Lib.hid (((Fr.refl (· = g) w18).setCell (fun _ => rfl) 1 (.string (digs p))).get Hc17.out (fun e => by
          have h3 := Hc17.out; rw [show N11 = g from e, hh] at h3; injection h3 with h3; injection h3 with _ h4; exact absurd h4 (by decide)))
        have HfW := Lib.hid (((Fr.refl (· = g) w18).setCell (fun _ => rfl) 1 (.string (digs p))).get Hfb17.out (fun e => by
          have h3 := Hfb17.out; rw [show fb = g from e, hh] at h3; injection h3 with h3; injection h3 with _ h4; exact absurd h4 (by decide)))
        have Hwh := Lib.hid (whole_of id 3 m hm1 (digs p))
        have Hul := Lib.hid (show (firstU (digs p) (kSteps 3 m)).length = m by rw [firstU_len, kSteps_len])
        have hcU : (w18.setCell ⟨g, 1, none⟩ (.string (digs p))).cell? ⟨g, 1, none⟩ = some (.string (digs p)) := by
          rw [cellv, hp_setCell, if_pos rfl, hh]
          simp only [objSet_cells, cellOf_cells]
          rw [Array.getElem?_setIfInBounds, if_pos rfl, if_pos (by omega)]
        clear hh hcz hcu hcv hfv hsz8 hsz17 HF17 Hc17 Hfb17
        change Code.wp _ _ _ _ (w18.setCell ⟨g, 1, none⟩ (.string (digs p)))
        generalize w18.setCell ⟨g, 1, none⟩ (.string (digs p)) = W at HW HcW HfW Hst hcU ⊢
        generalize digs p = U at Hwh Hul Hst hcU
        generalize firstU U (kSteps 3 m) = L at Hwh Hul Hst

        have Hsl : Hid (SlAt W (.slice (some ⟨g, 0, none⟩) m sc4) L) := .inr Hst.out
        have Hm := Lib.hid hm1
        clear Hst HPl hp hp10 hg hl1
        have hlf : id < 1 ∨ (1 ≤ id ∧ 1000 < id) ∨ (1 ≤ id ∧ id ≤ 1000 ∧ 6 < m) ∨ (1 ≤ id ∧ id ≤ 1000 ∧ m ≤ 6 ∧ 8 < U.size) ∨ (1 ≤ id ∧ id ≤ 1000 ∧ m ≤ 6 ∧ U.size ≤ 8) := by omega
        rcases hlf with h1 | ⟨h1, h2⟩ | ⟨h1, h2, h3⟩ | ⟨h1, h2, h3, h4⟩ | ⟨h1, h2, h3, h4⟩
        · have Hbad : Hid (wholeB id L = false) := by show _ = _; rw [Hwh.out]; simp; omega
          go_upto_region 16 with fail
          have HSb := Lib.hid (Submit_bad (HSt.out W HW.out) Hsl.out (by rw [Hul.out]; have := hm8.out; omega) Hbad.out)
          clear Hbad hid
          go_upto_region 19 with (first
            | (go_at_call 18; refine Calls.mono HSb.out ?_; rintro e w20 ⟨x20, rfl, ⟨gb, hgb1, rfl, hgb2⟩, hf20⟩)
            | fail)
          have HW20 := Lib.hid (HW.out.trans hf20)
          have Hc20 := Lib.hid (hf20.get HcW.out (fun f => f))
          have Hg20 := Lib.hid hgb2
          have HT1 := Lib.hid (toldP_fault fb subStr 2 w20 (Hg.out w20 (HL8.out.trans (HW20.out.low HL8.out.size (fun _ f => f.elim)))) (hf20.get HfW.out (fun f => f)))
          clear hf20 hgb2 hgb1 HW HcW HfW hcU
          go_upto_region 20 with (first
            | (go_at_call 26; refine Calls.mono HT1.out ?_; rintro e w21 ⟨rfl, hf21⟩)
            | fail)
          have HW21 := Lib.hid (HW20.out.trans hf21)
          have Hc21 := Lib.hid (hf21.get Hc20.out (fun f => f))
          have HT2 := Lib.hid (toldP_fault gb subStr 1 w21 (Hg.out w21 (HL8.out.trans (HW21.out.low HL8.out.size (fun _ f => f.elim)))) (hf21.get Hg20.out (fun f => f)))
          clear hf21
          go_upto_region 21 with (first
            | (go_at_call 26; refine Calls.mono HT2.out ?_; rintro e w22 ⟨rfl, hf22⟩)
            | fail)
          have HW22 := Lib.hid (HW21.out.trans hf22)
          have Hc22 := Lib.hid (hf22.get Hc21.out (fun f => f))
          clear hf22

          have HSs := Lib.hid (ref1_status (HSt.out _ HW22.out) hk6.out)
          go_upto_region 22 with (first
            | (go_at_call 21; refine Calls.mono HSs.out ?_; rintro e w23 ⟨rfl, hf23⟩)
            | fail)
          have HW24 := Lib.hid (HW22.out.trans (hf23.alloc (.cells #[.int .i64 7, .int .i64 1, .int .i64 1, .int .i64 k, .int .i64 0, .int .i64 0] 38)))
          have hcn := heap_alloc_new w23 (.cells #[.int .i64 7, .int .i64 1, .int .i64 1, .int .i64 k, .int .i64 0, .int .i64 0] 38)
          have hco := heap_alloc_keep (.cells #[.int .i64 7, .int .i64 1, .int .i64 1, .int .i64 k, .int .i64 0, .int .i64 0] 38) (hf23.get Hc22.out (fun f => f))
          generalize w23.alloc (.cells #[.int .i64 7, .int .i64 1, .int .i64 1, .int .i64 k, .int .i64 0, .int .i64 0] 38) = w24 at HW24 hcn hco ⊢
          generalize w23.heap.size = N24 at hcn ⊢
          clear hf23 h1
          have a0 : w24.cell? ⟨N11, 0, none⟩ = some (.int .i64 7) := by rw [cellv, hco]; rfl
          have a1 : w24.cell? ⟨N11, 1, none⟩ = some (.int .i64 1) := by rw [cellv, hco]; rfl
          have a2 : w24.cell? ⟨N11, 2, none⟩ = some (.int .i64 1) := by rw [cellv, hco]; rfl
          have a3 : w24.cell? ⟨N11, 3, none⟩ = some (.int .i64 k) := by rw [cellv, hco]; rfl
          have a4 : w24.cell? ⟨N11, 4, none⟩ = some (.int .i64 0) := by rw [cellv, hco]; rfl
          have a5 : w24.cell? ⟨N11, 5, none⟩ = some (.int .i64 0) := by rw [cellv, hco]; rfl
          have b0 : w24.cell? ⟨N24, 0, none⟩ = some (.int .i64 7) := by rw [cellv, hcn]; rfl
          have b1 : w24.cell? ⟨N24, 1, none⟩ = some (.int .i64 1) := by rw [cellv, hcn]; rfl
          have b2 : w24.cell? ⟨N24, 2, none⟩ = some (.int .i64 1) := by rw [cellv, hcn]; rfl
          have b3 : w24.cell? ⟨N24, 3, none⟩ = some (.int .i64 k) := by rw [cellv, hcn]; rfl
          have b4 : w24.cell? ⟨N24, 4, none⟩ = some (.int .i64 0) := by rw [cellv, hcn]; rfl
          have b5 : w24.cell? ⟨N24, 5, none⟩ = some (.int .i64 0) := by rw [cellv, hcn]; rfl
          have hg38 := Tryz.guard38
          have he38 := eq38
          clear hcn hco
          go_upto_region 24 with fail
          clear a0 a1 a2 a3 a4 a5 b0 b1 b2 b3 b4 b5 hg38 he38
          have hbe : (by_ == by_) = true := by rw [ba_beq]; simp
          have HB2 := Lib.hid (fun (X : World) (hx : New w8 X) => (pb_log (HSt.out X hx) hqp))
          have HL24 := Lib.hid (HL8.out.trans (HW24.out.low HL8.out.size (fun _ f => f.elim)))
          have HBX := Lib.hid (HBy.out _ HW24.out)
          go_wp2_with (first
            | (go_at_call 25; refine Calls.mono HBX.out ?_; rintro e w25 ⟨rfl, hf25⟩; obtain ⟨va, vc, hva⟩ := HB2.out w25 (HW24.out.trans hf25); have HL25 := Lib.hid (HL24.out.trans (hf25.low HL24.out.size (fun _ f => f.elim))); clear hf25)
            | fail)
          go_ret
          exact ⟨rfl, HL25.out⟩
        · have Hbad : Hid (wholeB id L = false) := by show _ = _; rw [Hwh.out]; simp; omega
          go_upto_region 16 with fail
          have HSb := Lib.hid (Submit_bad (HSt.out W HW.out) Hsl.out (by rw [Hul.out]; have := hm8.out; omega) Hbad.out)
          clear Hbad hid
          go_upto_region 19 with (first
            | (go_at_call 18; refine Calls.mono HSb.out ?_; rintro e w20 ⟨x20, rfl, ⟨gb, hgb1, rfl, hgb2⟩, hf20⟩)
            | fail)
          have HW20 := Lib.hid (HW.out.trans hf20)
          have Hc20 := Lib.hid (hf20.get HcW.out (fun f => f))
          have Hg20 := Lib.hid hgb2
          have HT1 := Lib.hid (toldP_fault fb subStr 2 w20 (Hg.out w20 (HL8.out.trans (HW20.out.low HL8.out.size (fun _ f => f.elim)))) (hf20.get HfW.out (fun f => f)))
          clear hf20 hgb2 hgb1 HW HcW HfW hcU
          go_upto_region 20 with (first
            | (go_at_call 26; refine Calls.mono HT1.out ?_; rintro e w21 ⟨rfl, hf21⟩)
            | fail)
          have HW21 := Lib.hid (HW20.out.trans hf21)
          have Hc21 := Lib.hid (hf21.get Hc20.out (fun f => f))
          have HT2 := Lib.hid (toldP_fault gb subStr 1 w21 (Hg.out w21 (HL8.out.trans (HW21.out.low HL8.out.size (fun _ f => f.elim)))) (hf21.get Hg20.out (fun f => f)))
          clear hf21
          go_upto_region 21 with (first
            | (go_at_call 26; refine Calls.mono HT2.out ?_; rintro e w22 ⟨rfl, hf22⟩)
            | fail)
          have HW22 := Lib.hid (HW21.out.trans hf22)
          have Hc22 := Lib.hid (hf22.get Hc21.out (fun f => f))
          clear hf22

          have HSs := Lib.hid (ref1_status (HSt.out _ HW22.out) hk6.out)
          go_upto_region 22 with (first
            | (go_at_call 21; refine Calls.mono HSs.out ?_; rintro e w23 ⟨rfl, hf23⟩)
            | fail)
          have HW24 := Lib.hid (HW22.out.trans (hf23.alloc (.cells #[.int .i64 7, .int .i64 1, .int .i64 1, .int .i64 k, .int .i64 0, .int .i64 0] 38)))
          have hcn := heap_alloc_new w23 (.cells #[.int .i64 7, .int .i64 1, .int .i64 1, .int .i64 k, .int .i64 0, .int .i64 0] 38)
          have hco := heap_alloc_keep (.cells #[.int .i64 7, .int .i64 1, .int .i64 1, .int .i64 k, .int .i64 0, .int .i64 0] 38) (hf23.get Hc22.out (fun f => f))
          generalize w23.alloc (.cells #[.int .i64 7, .int .i64 1, .int .i64 1, .int .i64 k, .int .i64 0, .int .i64 0] 38) = w24 at HW24 hcn hco ⊢
          generalize w23.heap.size = N24 at hcn ⊢
          clear hf23 h1
          have a0 : w24.cell? ⟨N11, 0, none⟩ = some (.int .i64 7) := by rw [cellv, hco]; rfl
          have a1 : w24.cell? ⟨N11, 1, none⟩ = some (.int .i64 1) := by rw [cellv, hco]; rfl
          have a2 : w24.cell? ⟨N11, 2, none⟩ = some (.int .i64 1) := by rw [cellv, hco]; rfl
          have a3 : w24.cell? ⟨N11, 3, none⟩ = some (.int .i64 k) := by rw [cellv, hco]; rfl
          have a4 : w24.cell? ⟨N11, 4, none⟩ = some (.int .i64 0) := by rw [cellv, hco]; rfl
          have a5 : w24.cell? ⟨N11, 5, none⟩ = some (.int .i64 0) := by rw [cellv, hco]; rfl
          have b0 : w24.cell? ⟨N24, 0, none⟩ = some (.int .i64 7) := by rw [cellv, hcn]; rfl
          have b1 : w24.cell? ⟨N24, 1, none⟩ = some (.int .i64 1) := by rw [cellv, hcn]; rfl
          have b2 : w24.cell? ⟨N24, 2, none⟩ = some (.int .i64 1) := by rw [cellv, hcn]; rfl
          have b3 : w24.cell? ⟨N24, 3, none⟩ = some (.int .i64 k) := by rw [cellv, hcn]; rfl
          have b4 : w24.cell? ⟨N24, 4, none⟩ = some (.int .i64 0) := by rw [cellv, hcn]; rfl
          have b5 : w24.cell? ⟨N24, 5, none⟩ = some (.int .i64 0) := by rw [cellv, hcn]; rfl
          have hg38 := Tryz.guard38
          have he38 := eq38
          clear hcn hco
          go_upto_region 24 with fail
          clear a0 a1 a2 a3 a4 a5 b0 b1 b2 b3 b4 b5 hg38 he38
          have hbe : (by_ == by_) = true := by rw [ba_beq]; simp
          have HB2 := Lib.hid (fun (X : World) (hx : New w8 X) => (pb_log (HSt.out X hx) hqp))
          have HL24 := Lib.hid (HL8.out.trans (HW24.out.low HL8.out.size (fun _ f => f.elim)))
          have HBX := Lib.hid (HBy.out _ HW24.out)
          go_wp2_with (first
            | (go_at_call 25; refine Calls.mono HBX.out ?_; rintro e w25 ⟨rfl, hf25⟩; obtain ⟨va, vc, hva⟩ := HB2.out w25 (HW24.out.trans hf25); have HL25 := Lib.hid (HL24.out.trans (hf25.low HL24.out.size (fun _ f => f.elim))); clear hf25)
            | fail)
          go_ret
          exact ⟨rfl, HL25.out⟩
        · have Hbad : Hid (wholeB id L = false) := by show _ = _; rw [Hwh.out]; simp; omega
          have h3' : (6 : Int) < m := by omega
          go_upto_region 16 with fail
          have HSb := Lib.hid (Submit_bad (HSt.out W HW.out) Hsl.out (by rw [Hul.out]; have := hm8.out; omega) Hbad.out)
          clear Hbad hid
          go_upto_region 19 with (first
            | (go_at_call 18; refine Calls.mono HSb.out ?_; rintro e w20 ⟨x20, rfl, ⟨gb, hgb1, rfl, hgb2⟩, hf20⟩)
            | fail)
          have HW20 := Lib.hid (HW.out.trans hf20)
          have Hc20 := Lib.hid (hf20.get HcW.out (fun f => f))
          have Hg20 := Lib.hid hgb2
          have HT1 := Lib.hid (toldP_fault fb subStr 2 w20 (Hg.out w20 (HL8.out.trans (HW20.out.low HL8.out.size (fun _ f => f.elim)))) (hf20.get HfW.out (fun f => f)))
          clear hf20 hgb2 hgb1 HW HcW HfW hcU
          go_upto_region 20 with (first
            | (go_at_call 26; refine Calls.mono HT1.out ?_; rintro e w21 ⟨rfl, hf21⟩)
            | fail)
          have HW21 := Lib.hid (HW20.out.trans hf21)
          have Hc21 := Lib.hid (hf21.get Hc20.out (fun f => f))
          have HT2 := Lib.hid (toldP_fault gb subStr 1 w21 (Hg.out w21 (HL8.out.trans (HW21.out.low HL8.out.size (fun _ f => f.elim)))) (hf21.get Hg20.out (fun f => f)))
          clear hf21
          go_upto_region 21 with (first
            | (go_at_call 26; refine Calls.mono HT2.out ?_; rintro e w22 ⟨rfl, hf22⟩)
            | fail)
          have HW22 := Lib.hid (HW21.out.trans hf22)
          have Hc22 := Lib.hid (hf22.get Hc21.out (fun f => f))
          clear hf22

          have HSs := Lib.hid (ref1_status (HSt.out _ HW22.out) hk6.out)
          go_upto_region 22 with (first
            | (go_at_call 21; refine Calls.mono HSs.out ?_; rintro e w23 ⟨rfl, hf23⟩)
            | fail)
          have HW24 := Lib.hid (HW22.out.trans (hf23.alloc (.cells #[.int .i64 7, .int .i64 1, .int .i64 1, .int .i64 k, .int .i64 0, .int .i64 0] 38)))
          have hcn := heap_alloc_new w23 (.cells #[.int .i64 7, .int .i64 1, .int .i64 1, .int .i64 k, .int .i64 0, .int .i64 0] 38)
          have hco := heap_alloc_keep (.cells #[.int .i64 7, .int .i64 1, .int .i64 1, .int .i64 k, .int .i64 0, .int .i64 0] 38) (hf23.get Hc22.out (fun f => f))
          generalize w23.alloc (.cells #[.int .i64 7, .int .i64 1, .int .i64 1, .int .i64 k, .int .i64 0, .int .i64 0] 38) = w24 at HW24 hcn hco ⊢
          generalize w23.heap.size = N24 at hcn ⊢
          clear hf23 h1
          have a0 : w24.cell? ⟨N11, 0, none⟩ = some (.int .i64 7) := by rw [cellv, hco]; rfl
          have a1 : w24.cell? ⟨N11, 1, none⟩ = some (.int .i64 1) := by rw [cellv, hco]; rfl
          have a2 : w24.cell? ⟨N11, 2, none⟩ = some (.int .i64 1) := by rw [cellv, hco]; rfl
          have a3 : w24.cell? ⟨N11, 3, none⟩ = some (.int .i64 k) := by rw [cellv, hco]; rfl
          have a4 : w24.cell? ⟨N11, 4, none⟩ = some (.int .i64 0) := by rw [cellv, hco]; rfl
          have a5 : w24.cell? ⟨N11, 5, none⟩ = some (.int .i64 0) := by rw [cellv, hco]; rfl
          have b0 : w24.cell? ⟨N24, 0, none⟩ = some (.int .i64 7) := by rw [cellv, hcn]; rfl
          have b1 : w24.cell? ⟨N24, 1, none⟩ = some (.int .i64 1) := by rw [cellv, hcn]; rfl
          have b2 : w24.cell? ⟨N24, 2, none⟩ = some (.int .i64 1) := by rw [cellv, hcn]; rfl
          have b3 : w24.cell? ⟨N24, 3, none⟩ = some (.int .i64 k) := by rw [cellv, hcn]; rfl
          have b4 : w24.cell? ⟨N24, 4, none⟩ = some (.int .i64 0) := by rw [cellv, hcn]; rfl
          have b5 : w24.cell? ⟨N24, 5, none⟩ = some (.int .i64 0) := by rw [cellv, hcn]; rfl
          have hg38 := Tryz.guard38
          have he38 := eq38
          clear hcn hco
          go_upto_region 24 with fail
          clear a0 a1 a2 a3 a4 a5 b0 b1 b2 b3 b4 b5 hg38 he38
          have hbe : (by_ == by_) = true := by rw [ba_beq]; simp
          have HB2 := Lib.hid (fun (X : World) (hx : New w8 X) => (pb_log (HSt.out X hx) hqp))
          have HL24 := Lib.hid (HL8.out.trans (HW24.out.low HL8.out.size (fun _ f => f.elim)))
          have HBX := Lib.hid (HBy.out _ HW24.out)
          go_wp2_with (first
            | (go_at_call 25; refine Calls.mono HBX.out ?_; rintro e w25 ⟨rfl, hf25⟩; obtain ⟨va, vc, hva⟩ := HB2.out w25 (HW24.out.trans hf25); have HL25 := Lib.hid (HL24.out.trans (hf25.low HL24.out.size (fun _ f => f.elim))); clear hf25)
            | fail)
          go_ret
          exact ⟨rfl, HL25.out⟩
        · have Hbad : Hid (wholeB id L = false) := by show _ = _; rw [Hwh.out]; simp; omega
          have h3' : (m : Int) ≤ 6 := by omega
          have h4' : (8 : Int) < U.size := by omega
          go_upto_region 16 with fail
          have HSb := Lib.hid (Submit_bad (HSt.out W HW.out) Hsl.out (by rw [Hul.out]; have := hm8.out; omega) Hbad.out)
          clear Hbad hid
          go_upto_region 19 with (first
            | (go_at_call 18; refine Calls.mono HSb.out ?_; rintro e w20 ⟨x20, rfl, ⟨gb, hgb1, rfl, hgb2⟩, hf20⟩)
            | fail)
          have HW20 := Lib.hid (HW.out.trans hf20)
          have Hc20 := Lib.hid (hf20.get HcW.out (fun f => f))
          have Hg20 := Lib.hid hgb2
          have HT1 := Lib.hid (toldP_fault fb subStr 2 w20 (Hg.out w20 (HL8.out.trans (HW20.out.low HL8.out.size (fun _ f => f.elim)))) (hf20.get HfW.out (fun f => f)))
          clear hf20 hgb2 hgb1 HW HcW HfW hcU
          go_upto_region 20 with (first
            | (go_at_call 26; refine Calls.mono HT1.out ?_; rintro e w21 ⟨rfl, hf21⟩)
            | fail)
          have HW21 := Lib.hid (HW20.out.trans hf21)
          have Hc21 := Lib.hid (hf21.get Hc20.out (fun f => f))
          have HT2 := Lib.hid (toldP_fault gb subStr 1 w21 (Hg.out w21 (HL8.out.trans (HW21.out.low HL8.out.size (fun _ f => f.elim)))) (hf21.get Hg20.out (fun f => f)))
          clear hf21
          go_upto_region 21 with (first
            | (go_at_call 26; refine Calls.mono HT2.out ?_; rintro e w22 ⟨rfl, hf22⟩)
            | fail)
          have HW22 := Lib.hid (HW21.out.trans hf22)
          have Hc22 := Lib.hid (hf22.get Hc21.out (fun f => f))
          clear hf22

          have HSs := Lib.hid (ref1_status (HSt.out _ HW22.out) hk6.out)
          go_upto_region 22 with (first
            | (go_at_call 21; refine Calls.mono HSs.out ?_; rintro e w23 ⟨rfl, hf23⟩)
            | fail)
          have HW24 := Lib.hid (HW22.out.trans (hf23.alloc (.cells #[.int .i64 7, .int .i64 1, .int .i64 1, .int .i64 k, .int .i64 0, .int .i64 0] 38)))
          have hcn := heap_alloc_new w23 (.cells #[.int .i64 7, .int .i64 1, .int .i64 1, .int .i64 k, .int .i64 0, .int .i64 0] 38)
          have hco := heap_alloc_keep (.cells #[.int .i64 7, .int .i64 1, .int .i64 1, .int .i64 k, .int .i64 0, .int .i64 0] 38) (hf23.get Hc22.out (fun f => f))
          generalize w23.alloc (.cells #[.int .i64 7, .int .i64 1, .int .i64 1, .int .i64 k, .int .i64 0, .int .i64 0] 38) = w24 at HW24 hcn hco ⊢
          generalize w23.heap.size = N24 at hcn ⊢
          clear hf23 h1
          have a0 : w24.cell? ⟨N11, 0, none⟩ = some (.int .i64 7) := by rw [cellv, hco]; rfl
          have a1 : w24.cell? ⟨N11, 1, none⟩ = some (.int .i64 1) := by rw [cellv, hco]; rfl
          have a2 : w24.cell? ⟨N11, 2, none⟩ = some (.int .i64 1) := by rw [cellv, hco]; rfl
          have a3 : w24.cell? ⟨N11, 3, none⟩ = some (.int .i64 k) := by rw [cellv, hco]; rfl
          have a4 : w24.cell? ⟨N11, 4, none⟩ = some (.int .i64 0) := by rw [cellv, hco]; rfl
          have a5 : w24.cell? ⟨N11, 5, none⟩ = some (.int .i64 0) := by rw [cellv, hco]; rfl
          have b0 : w24.cell? ⟨N24, 0, none⟩ = some (.int .i64 7) := by rw [cellv, hcn]; rfl
          have b1 : w24.cell? ⟨N24, 1, none⟩ = some (.int .i64 1) := by rw [cellv, hcn]; rfl
          have b2 : w24.cell? ⟨N24, 2, none⟩ = some (.int .i64 1) := by rw [cellv, hcn]; rfl
          have b3 : w24.cell? ⟨N24, 3, none⟩ = some (.int .i64 k) := by rw [cellv, hcn]; rfl
          have b4 : w24.cell? ⟨N24, 4, none⟩ = some (.int .i64 0) := by rw [cellv, hcn]; rfl
          have b5 : w24.cell? ⟨N24, 5, none⟩ = some (.int .i64 0) := by rw [cellv, hcn]; rfl
          have hg38 := Tryz.guard38
          have he38 := eq38
          clear hcn hco
          go_upto_region 24 with fail
          clear a0 a1 a2 a3 a4 a5 b0 b1 b2 b3 b4 b5 hg38 he38
          have hbe : (by_ == by_) = true := by rw [ba_beq]; simp
          have HB2 := Lib.hid (fun (X : World) (hx : New w8 X) => (pb_log (HSt.out X hx) hqp))
          have HL24 := Lib.hid (HL8.out.trans (HW24.out.low HL8.out.size (fun _ f => f.elim)))
          have HBX := Lib.hid (HBy.out _ HW24.out)
          go_wp2_with (first
            | (go_at_call 25; refine Calls.mono HBX.out ?_; rintro e w25 ⟨rfl, hf25⟩; obtain ⟨va, vc, hva⟩ := HB2.out w25 (HW24.out.trans hf25); have HL25 := Lib.hid (HL24.out.trans (hf25.low HL24.out.size (fun _ f => f.elim))); clear hf25)
            | fail)
          go_ret
          exact ⟨rfl, HL25.out⟩
        · have h3' : (m : Int) ≤ 6 := by omega
          have h4' : (U.size : Int) ≤ 8 := by omega
          have hq : (decide (id < 1) || decide (1000 < id) || decide ((m : Int) < 1) || decide (6 < (m : Int)) || decide (8 < (U.size : Int))) = false := by simp; omega
          go_upto_region 16 with fail
          clear hq
          have HT1 := Lib.hid (toldP_fault fb subStr 2 W (Hg.out W (HL8.out.trans (HW.out.low HL8.out.size (fun _ f => f.elim)))) HfW.out)
          clear hcU hid
          go_upto_region 20 with (first
            | (go_at_call 26; refine Calls.mono HT1.out ?_; rintro e w21 ⟨rfl, hf21⟩)
            | fail)
          have HW21 := Lib.hid (HW.out.trans hf21)
          have Hc21 := Lib.hid (hf21.get HcW.out (fun f => f))
          have HT2 := Lib.hid (toldP_nil w21)
          clear hf21
          go_upto_region 21 with (first
            | (go_at_call 26; refine Calls.mono HT2.out ?_; rintro e w22 ⟨rfl, rfl⟩)
            | fail)
          have HW22 := HW21
          have Hc22 := Hc21

          have HSs := Lib.hid (ref1_status (HSt.out _ HW22.out) hk6.out)
          go_upto_region 22 with (first
            | (go_at_call 21; refine Calls.mono HSs.out ?_; rintro e w23 ⟨rfl, hf23⟩)
            | fail)
          have HW24 := Lib.hid (HW22.out.trans (hf23.alloc (.cells #[.int .i64 7, .int .i64 1, .int .i64 1, .int .i64 k, .int .i64 0, .int .i64 0] 38)))
          have hcn := heap_alloc_new w23 (.cells #[.int .i64 7, .int .i64 1, .int .i64 1, .int .i64 k, .int .i64 0, .int .i64 0] 38)
          have hco := heap_alloc_keep (.cells #[.int .i64 7, .int .i64 1, .int .i64 1, .int .i64 k, .int .i64 0, .int .i64 0] 38) (hf23.get Hc22.out (fun f => f))
          generalize w23.alloc (.cells #[.int .i64 7, .int .i64 1, .int .i64 1, .int .i64 k, .int .i64 0, .int .i64 0] 38) = w24 at HW24 hcn hco ⊢
          generalize w23.heap.size = N24 at hcn ⊢
          clear hf23 h1
          have a0 : w24.cell? ⟨N11, 0, none⟩ = some (.int .i64 7) := by rw [cellv, hco]; rfl
          have a1 : w24.cell? ⟨N11, 1, none⟩ = some (.int .i64 1) := by rw [cellv, hco]; rfl
          have a2 : w24.cell? ⟨N11, 2, none⟩ = some (.int .i64 1) := by rw [cellv, hco]; rfl
          have a3 : w24.cell? ⟨N11, 3, none⟩ = some (.int .i64 k) := by rw [cellv, hco]; rfl
          have a4 : w24.cell? ⟨N11, 4, none⟩ = some (.int .i64 0) := by rw [cellv, hco]; rfl
          have a5 : w24.cell? ⟨N11, 5, none⟩ = some (.int .i64 0) := by rw [cellv, hco]; rfl
          have b0 : w24.cell? ⟨N24, 0, none⟩ = some (.int .i64 7) := by rw [cellv, hcn]; rfl
          have b1 : w24.cell? ⟨N24, 1, none⟩ = some (.int .i64 1) := by rw [cellv, hcn]; rfl
          have b2 : w24.cell? ⟨N24, 2, none⟩ = some (.int .i64 1) := by rw [cellv, hcn]; rfl
          have b3 : w24.cell? ⟨N24, 3, none⟩ = some (.int .i64 k) := by rw [cellv, hcn]; rfl
          have b4 : w24.cell? ⟨N24, 4, none⟩ = some (.int .i64 0) := by rw [cellv, hcn]; rfl
          have b5 : w24.cell? ⟨N24, 5, none⟩ = some (.int .i64 0) := by rw [cellv, hcn]; rfl
          have hg38 := Tryz.guard38
          have he38 := eq38
          clear hcn hco
          go_upto_region 24 with fail
          clear a0 a1 a2 a3 a4 a5 b0 b1 b2 b3 b4 b5 hg38 he38
          have hbe : (by_ == by_) = true := by rw [ba_beq]; simp
          have HB2 := Lib.hid (fun (X : World) (hx : New w8 X) => (pb_log (HSt.out X hx) hqp))
          have HL24 := Lib.hid (HL8.out.trans (HW24.out.low HL8.out.size (fun _ f => f.elim)))
          have HBX := Lib.hid (HBy.out _ HW24.out)
          go_wp2_with (first
            | (go_at_call 25; refine Calls.mono HBX.out ?_; rintro e w25 ⟨rfl, hf25⟩; obtain ⟨va, vc, hva⟩ := HB2.out w25 (HW24.out.trans hf25); have HL25 := Lib.hid (HL24.out.trans (hf25.low HL24.out.size (fun _ f => f.elim))); clear hf25)
            | fail)
          go_ret
          exact ⟨rfl, HL25.out⟩
      · have Hst := Lib.hid (stepsAt_own (c := sc4) hh htk)
        have hcU := undo_cell hm1 hh htk
        clear htk hf17
        go_upto_region 15 with fail
        have HW := HF17
        have HcW := Hc17
        have HfW := Hfb17
        clear HF17 Hc17 Hfb17
        have Hwh := Lib.hid (whole_of id 3 m hm1 (kStep 3 0).2)
        have Hul := Lib.hid (kSteps_len 3 m)
        rw [firstU_same 3 m hm1] at Hwh
        clear hh hcz hsz8 hsz17
        generalize w17 = W at HW HcW HfW Hst hcU ⊢
        generalize (kStep 3 0).2 = U at Hwh hcU
        generalize kSteps 3 m = L at Hwh Hul Hst

        have Hsl : Hid (SlAt W (.slice (some ⟨g, 0, none⟩) m sc4) L) := .inr Hst.out
        have Hm := Lib.hid hm1
        clear Hst HPl hp hp10 hg hl1
        have hlf : id < 1 ∨ (1 ≤ id ∧ 1000 < id) ∨ (1 ≤ id ∧ id ≤ 1000 ∧ 6 < m) ∨ (1 ≤ id ∧ id ≤ 1000 ∧ m ≤ 6 ∧ 8 < U.size) ∨ (1 ≤ id ∧ id ≤ 1000 ∧ m ≤ 6 ∧ U.size ≤ 8) := by omega
        rcases hlf with h1 | ⟨h1, h2⟩ | ⟨h1, h2, h3⟩ | ⟨h1, h2, h3, h4⟩ | ⟨h1, h2, h3, h4⟩
        · have Hbad : Hid (wholeB id L = false) := by show _ = _; rw [Hwh.out]; simp; omega
          go_upto_region 16 with fail
          have HSb := Lib.hid (Submit_bad (HSt.out W HW.out) Hsl.out (by rw [Hul.out]; have := hm8.out; omega) Hbad.out)
          clear Hbad hid
          go_upto_region 19 with (first
            | (go_at_call 18; refine Calls.mono HSb.out ?_; rintro e w20 ⟨x20, rfl, ⟨gb, hgb1, rfl, hgb2⟩, hf20⟩)
            | fail)
          have HW20 := Lib.hid (HW.out.trans hf20)
          have Hc20 := Lib.hid (hf20.get HcW.out (fun f => f))
          have Hg20 := Lib.hid hgb2
          have HT1 := Lib.hid (toldP_fault fb subStr 2 w20 (Hg.out w20 (HL8.out.trans (HW20.out.low HL8.out.size (fun _ f => f.elim)))) (hf20.get HfW.out (fun f => f)))
          clear hf20 hgb2 hgb1 HW HcW HfW hcU
          go_upto_region 20 with (first
            | (go_at_call 26; refine Calls.mono HT1.out ?_; rintro e w21 ⟨rfl, hf21⟩)
            | fail)
          have HW21 := Lib.hid (HW20.out.trans hf21)
          have Hc21 := Lib.hid (hf21.get Hc20.out (fun f => f))
          have HT2 := Lib.hid (toldP_fault gb subStr 1 w21 (Hg.out w21 (HL8.out.trans (HW21.out.low HL8.out.size (fun _ f => f.elim)))) (hf21.get Hg20.out (fun f => f)))
          clear hf21
          go_upto_region 21 with (first
            | (go_at_call 26; refine Calls.mono HT2.out ?_; rintro e w22 ⟨rfl, hf22⟩)
            | fail)
          have HW22 := Lib.hid (HW21.out.trans hf22)
          have Hc22 := Lib.hid (hf22.get Hc21.out (fun f => f))
          clear hf22

          have HSs := Lib.hid (ref1_status (HSt.out _ HW22.out) hk6.out)
          go_upto_region 22 with (first
            | (go_at_call 21; refine Calls.mono HSs.out ?_; rintro e w23 ⟨rfl, hf23⟩)
            | fail)
          have HW24 := Lib.hid (HW22.out.trans (hf23.alloc (.cells #[.int .i64 7, .int .i64 1, .int .i64 1, .int .i64 k, .int .i64 0, .int .i64 0] 38)))
          have hcn := heap_alloc_new w23 (.cells #[.int .i64 7, .int .i64 1, .int .i64 1, .int .i64 k, .int .i64 0, .int .i64 0] 38)
          have hco := heap_alloc_keep (.cells #[.int .i64 7, .int .i64 1, .int .i64 1, .int .i64 k, .int .i64 0, .int .i64 0] 38) (hf23.get Hc22.out (fun f => f))
          generalize w23.alloc (.cells #[.int .i64 7, .int .i64 1, .int .i64 1, .int .i64 k, .int .i64 0, .int .i64 0] 38) = w24 at HW24 hcn hco ⊢
          generalize w23.heap.size = N24 at hcn ⊢
          clear hf23 h1
          have a0 : w24.cell? ⟨N11, 0, none⟩ = some (.int .i64 7) := by rw [cellv, hco]; rfl
          have a1 : w24.cell? ⟨N11, 1, none⟩ = some (.int .i64 1) := by rw [cellv, hco]; rfl
          have a2 : w24.cell? ⟨N11, 2, none⟩ = some (.int .i64 1) := by rw [cellv, hco]; rfl
          have a3 : w24.cell? ⟨N11, 3, none⟩ = some (.int .i64 k) := by rw [cellv, hco]; rfl
          have a4 : w24.cell? ⟨N11, 4, none⟩ = some (.int .i64 0) := by rw [cellv, hco]; rfl
          have a5 : w24.cell? ⟨N11, 5, none⟩ = some (.int .i64 0) := by rw [cellv, hco]; rfl
          have b0 : w24.cell? ⟨N24, 0, none⟩ = some (.int .i64 7) := by rw [cellv, hcn]; rfl
          have b1 : w24.cell? ⟨N24, 1, none⟩ = some (.int .i64 1) := by rw [cellv, hcn]; rfl
          have b2 : w24.cell? ⟨N24, 2, none⟩ = some (.int .i64 1) := by rw [cellv, hcn]; rfl
          have b3 : w24.cell? ⟨N24, 3, none⟩ = some (.int .i64 k) := by rw [cellv, hcn]; rfl
          have b4 : w24.cell? ⟨N24, 4, none⟩ = some (.int .i64 0) := by rw [cellv, hcn]; rfl
          have b5 : w24.cell? ⟨N24, 5, none⟩ = some (.int .i64 0) := by rw [cellv, hcn]; rfl
          have hg38 := Tryz.guard38
          have he38 := eq38
          clear hcn hco
          go_upto_region 24 with fail
          clear a0 a1 a2 a3 a4 a5 b0 b1 b2 b3 b4 b5 hg38 he38
          have hbe : (by_ == by_) = true := by rw [ba_beq]; simp
          have HB2 := Lib.hid (fun (X : World) (hx : New w8 X) => (pb_log (HSt.out X hx) hqp))
          have HL24 := Lib.hid (HL8.out.trans (HW24.out.low HL8.out.size (fun _ f => f.elim)))
          have HBX := Lib.hid (HBy.out _ HW24.out)
          go_wp2_with (first
            | (go_at_call 25; refine Calls.mono HBX.out ?_; rintro e w25 ⟨rfl, hf25⟩; obtain ⟨va, vc, hva⟩ := HB2.out w25 (HW24.out.trans hf25); have HL25 := Lib.hid (HL24.out.trans (hf25.low HL24.out.size (fun _ f => f.elim))); clear hf25)
            | fail)
          go_ret
          exact ⟨rfl, HL25.out⟩
        · have Hbad : Hid (wholeB id L = false) := by show _ = _; rw [Hwh.out]; simp; omega
          go_upto_region 16 with fail
          have HSb := Lib.hid (Submit_bad (HSt.out W HW.out) Hsl.out (by rw [Hul.out]; have := hm8.out; omega) Hbad.out)
          clear Hbad hid
          go_upto_region 19 with (first
            | (go_at_call 18; refine Calls.mono HSb.out ?_; rintro e w20 ⟨x20, rfl, ⟨gb, hgb1, rfl, hgb2⟩, hf20⟩)
            | fail)
          have HW20 := Lib.hid (HW.out.trans hf20)
          have Hc20 := Lib.hid (hf20.get HcW.out (fun f => f))
          have Hg20 := Lib.hid hgb2
          have HT1 := Lib.hid (toldP_fault fb subStr 2 w20 (Hg.out w20 (HL8.out.trans (HW20.out.low HL8.out.size (fun _ f => f.elim)))) (hf20.get HfW.out (fun f => f)))
          clear hf20 hgb2 hgb1 HW HcW HfW hcU
          go_upto_region 20 with (first
            | (go_at_call 26; refine Calls.mono HT1.out ?_; rintro e w21 ⟨rfl, hf21⟩)
            | fail)
          have HW21 := Lib.hid (HW20.out.trans hf21)
          have Hc21 := Lib.hid (hf21.get Hc20.out (fun f => f))
          have HT2 := Lib.hid (toldP_fault gb subStr 1 w21 (Hg.out w21 (HL8.out.trans (HW21.out.low HL8.out.size (fun _ f => f.elim)))) (hf21.get Hg20.out (fun f => f)))
          clear hf21
          go_upto_region 21 with (first
            | (go_at_call 26; refine Calls.mono HT2.out ?_; rintro e w22 ⟨rfl, hf22⟩)
            | fail)
          have HW22 := Lib.hid (HW21.out.trans hf22)
          have Hc22 := Lib.hid (hf22.get Hc21.out (fun f => f))
          clear hf22

          have HSs := Lib.hid (ref1_status (HSt.out _ HW22.out) hk6.out)
          go_upto_region 22 with (first
            | (go_at_call 21; refine Calls.mono HSs.out ?_; rintro e w23 ⟨rfl, hf23⟩)
            | fail)
          have HW24 := Lib.hid (HW22.out.trans (hf23.alloc (.cells #[.int .i64 7, .int .i64 1, .int .i64 1, .int .i64 k, .int .i64 0, .int .i64 0] 38)))
          have hcn := heap_alloc_new w23 (.cells #[.int .i64 7, .int .i64 1, .int .i64 1, .int .i64 k, .int .i64 0, .int .i64 0] 38)
          have hco := heap_alloc_keep (.cells #[.int .i64 7, .int .i64 1, .int .i64 1, .int .i64 k, .int .i64 0, .int .i64 0] 38) (hf23.get Hc22.out (fun f => f))
          generalize w23.alloc (.cells #[.int .i64 7, .int .i64 1, .int .i64 1, .int .i64 k, .int .i64 0, .int .i64 0] 38) = w24 at HW24 hcn hco ⊢
          generalize w23.heap.size = N24 at hcn ⊢
          clear hf23 h1
          have a0 : w24.cell? ⟨N11, 0, none⟩ = some (.int .i64 7) := by rw [cellv, hco]; rfl
          have a1 : w24.cell? ⟨N11, 1, none⟩ = some (.int .i64 1) := by rw [cellv, hco]; rfl
          have a2 : w24.cell? ⟨N11, 2, none⟩ = some (.int .i64 1) := by rw [cellv, hco]; rfl
          have a3 : w24.cell? ⟨N11, 3, none⟩ = some (.int .i64 k) := by rw [cellv, hco]; rfl
          have a4 : w24.cell? ⟨N11, 4, none⟩ = some (.int .i64 0) := by rw [cellv, hco]; rfl
          have a5 : w24.cell? ⟨N11, 5, none⟩ = some (.int .i64 0) := by rw [cellv, hco]; rfl
          have b0 : w24.cell? ⟨N24, 0, none⟩ = some (.int .i64 7) := by rw [cellv, hcn]; rfl
          have b1 : w24.cell? ⟨N24, 1, none⟩ = some (.int .i64 1) := by rw [cellv, hcn]; rfl
          have b2 : w24.cell? ⟨N24, 2, none⟩ = some (.int .i64 1) := by rw [cellv, hcn]; rfl
          have b3 : w24.cell? ⟨N24, 3, none⟩ = some (.int .i64 k) := by rw [cellv, hcn]; rfl
          have b4 : w24.cell? ⟨N24, 4, none⟩ = some (.int .i64 0) := by rw [cellv, hcn]; rfl
          have b5 : w24.cell? ⟨N24, 5, none⟩ = some (.int .i64 0) := by rw [cellv, hcn]; rfl
          have hg38 := Tryz.guard38
          have he38 := eq38
          clear hcn hco
          go_upto_region 24 with fail
          clear a0 a1 a2 a3 a4 a5 b0 b1 b2 b3 b4 b5 hg38 he38
          have hbe : (by_ == by_) = true := by rw [ba_beq]; simp
          have HB2 := Lib.hid (fun (X : World) (hx : New w8 X) => (pb_log (HSt.out X hx) hqp))
          have HL24 := Lib.hid (HL8.out.trans (HW24.out.low HL8.out.size (fun _ f => f.elim)))
          have HBX := Lib.hid (HBy.out _ HW24.out)
          go_wp2_with (first
            | (go_at_call 25; refine Calls.mono HBX.out ?_; rintro e w25 ⟨rfl, hf25⟩; obtain ⟨va, vc, hva⟩ := HB2.out w25 (HW24.out.trans hf25); have HL25 := Lib.hid (HL24.out.trans (hf25.low HL24.out.size (fun _ f => f.elim))); clear hf25)
            | fail)
          go_ret
          exact ⟨rfl, HL25.out⟩
        · have Hbad : Hid (wholeB id L = false) := by show _ = _; rw [Hwh.out]; simp; omega
          have h3' : (6 : Int) < m := by omega
          go_upto_region 16 with fail
          have HSb := Lib.hid (Submit_bad (HSt.out W HW.out) Hsl.out (by rw [Hul.out]; have := hm8.out; omega) Hbad.out)
          clear Hbad hid
          go_upto_region 19 with (first
            | (go_at_call 18; refine Calls.mono HSb.out ?_; rintro e w20 ⟨x20, rfl, ⟨gb, hgb1, rfl, hgb2⟩, hf20⟩)
            | fail)
          have HW20 := Lib.hid (HW.out.trans hf20)
          have Hc20 := Lib.hid (hf20.get HcW.out (fun f => f))
          have Hg20 := Lib.hid hgb2
          have HT1 := Lib.hid (toldP_fault fb subStr 2 w20 (Hg.out w20 (HL8.out.trans (HW20.out.low HL8.out.size (fun _ f => f.elim)))) (hf20.get HfW.out (fun f => f)))
          clear hf20 hgb2 hgb1 HW HcW HfW hcU
          go_upto_region 20 with (first
            | (go_at_call 26; refine Calls.mono HT1.out ?_; rintro e w21 ⟨rfl, hf21⟩)
            | fail)
          have HW21 := Lib.hid (HW20.out.trans hf21)
          have Hc21 := Lib.hid (hf21.get Hc20.out (fun f => f))
          have HT2 := Lib.hid (toldP_fault gb subStr 1 w21 (Hg.out w21 (HL8.out.trans (HW21.out.low HL8.out.size (fun _ f => f.elim)))) (hf21.get Hg20.out (fun f => f)))
          clear hf21
          go_upto_region 21 with (first
            | (go_at_call 26; refine Calls.mono HT2.out ?_; rintro e w22 ⟨rfl, hf22⟩)
            | fail)
          have HW22 := Lib.hid (HW21.out.trans hf22)
          have Hc22 := Lib.hid (hf22.get Hc21.out (fun f => f))
          clear hf22

          have HSs := Lib.hid (ref1_status (HSt.out _ HW22.out) hk6.out)
          go_upto_region 22 with (first
            | (go_at_call 21; refine Calls.mono HSs.out ?_; rintro e w23 ⟨rfl, hf23⟩)
            | fail)
          have HW24 := Lib.hid (HW22.out.trans (hf23.alloc (.cells #[.int .i64 7, .int .i64 1, .int .i64 1, .int .i64 k, .int .i64 0, .int .i64 0] 38)))
          have hcn := heap_alloc_new w23 (.cells #[.int .i64 7, .int .i64 1, .int .i64 1, .int .i64 k, .int .i64 0, .int .i64 0] 38)
          have hco := heap_alloc_keep (.cells #[.int .i64 7, .int .i64 1, .int .i64 1, .int .i64 k, .int .i64 0, .int .i64 0] 38) (hf23.get Hc22.out (fun f => f))
          generalize w23.alloc (.cells #[.int .i64 7, .int .i64 1, .int .i64 1, .int .i64 k, .int .i64 0, .int .i64 0] 38) = w24 at HW24 hcn hco ⊢
          generalize w23.heap.size = N24 at hcn ⊢
          clear hf23 h1
          have a0 : w24.cell? ⟨N11, 0, none⟩ = some (.int .i64 7) := by rw [cellv, hco]; rfl
          have a1 : w24.cell? ⟨N11, 1, none⟩ = some (.int .i64 1) := by rw [cellv, hco]; rfl
          have a2 : w24.cell? ⟨N11, 2, none⟩ = some (.int .i64 1) := by rw [cellv, hco]; rfl
          have a3 : w24.cell? ⟨N11, 3, none⟩ = some (.int .i64 k) := by rw [cellv, hco]; rfl
          have a4 : w24.cell? ⟨N11, 4, none⟩ = some (.int .i64 0) := by rw [cellv, hco]; rfl
          have a5 : w24.cell? ⟨N11, 5, none⟩ = some (.int .i64 0) := by rw [cellv, hco]; rfl
          have b0 : w24.cell? ⟨N24, 0, none⟩ = some (.int .i64 7) := by rw [cellv, hcn]; rfl
          have b1 : w24.cell? ⟨N24, 1, none⟩ = some (.int .i64 1) := by rw [cellv, hcn]; rfl
          have b2 : w24.cell? ⟨N24, 2, none⟩ = some (.int .i64 1) := by rw [cellv, hcn]; rfl
          have b3 : w24.cell? ⟨N24, 3, none⟩ = some (.int .i64 k) := by rw [cellv, hcn]; rfl
          have b4 : w24.cell? ⟨N24, 4, none⟩ = some (.int .i64 0) := by rw [cellv, hcn]; rfl
          have b5 : w24.cell? ⟨N24, 5, none⟩ = some (.int .i64 0) := by rw [cellv, hcn]; rfl
          have hg38 := Tryz.guard38
          have he38 := eq38
          clear hcn hco
          go_upto_region 24 with fail
          clear a0 a1 a2 a3 a4 a5 b0 b1 b2 b3 b4 b5 hg38 he38
          have hbe : (by_ == by_) = true := by rw [ba_beq]; simp
          have HB2 := Lib.hid (fun (X : World) (hx : New w8 X) => (pb_log (HSt.out X hx) hqp))
          have HL24 := Lib.hid (HL8.out.trans (HW24.out.low HL8.out.size (fun _ f => f.elim)))
          have HBX := Lib.hid (HBy.out _ HW24.out)
          go_wp2_with (first
            | (go_at_call 25; refine Calls.mono HBX.out ?_; rintro e w25 ⟨rfl, hf25⟩; obtain ⟨va, vc, hva⟩ := HB2.out w25 (HW24.out.trans hf25); have HL25 := Lib.hid (HL24.out.trans (hf25.low HL24.out.size (fun _ f => f.elim))); clear hf25)
            | fail)
          go_ret
          exact ⟨rfl, HL25.out⟩
        · have Hbad : Hid (wholeB id L = false) := by show _ = _; rw [Hwh.out]; simp; omega
          have h3' : (m : Int) ≤ 6 := by omega
          have h4' : (8 : Int) < U.size := by omega
          go_upto_region 16 with fail
          have HSb := Lib.hid (Submit_bad (HSt.out W HW.out) Hsl.out (by rw [Hul.out]; have := hm8.out; omega) Hbad.out)
          clear Hbad hid
          go_upto_region 19 with (first
            | (go_at_call 18; refine Calls.mono HSb.out ?_; rintro e w20 ⟨x20, rfl, ⟨gb, hgb1, rfl, hgb2⟩, hf20⟩)
            | fail)
          have HW20 := Lib.hid (HW.out.trans hf20)
          have Hc20 := Lib.hid (hf20.get HcW.out (fun f => f))
          have Hg20 := Lib.hid hgb2
          have HT1 := Lib.hid (toldP_fault fb subStr 2 w20 (Hg.out w20 (HL8.out.trans (HW20.out.low HL8.out.size (fun _ f => f.elim)))) (hf20.get HfW.out (fun f => f)))
          clear hf20 hgb2 hgb1 HW HcW HfW hcU
          go_upto_region 20 with (first
            | (go_at_call 26; refine Calls.mono HT1.out ?_; rintro e w21 ⟨rfl, hf21⟩)
            | fail)
          have HW21 := Lib.hid (HW20.out.trans hf21)
          have Hc21 := Lib.hid (hf21.get Hc20.out (fun f => f))
          have HT2 := Lib.hid (toldP_fault gb subStr 1 w21 (Hg.out w21 (HL8.out.trans (HW21.out.low HL8.out.size (fun _ f => f.elim)))) (hf21.get Hg20.out (fun f => f)))
          clear hf21
          go_upto_region 21 with (first
            | (go_at_call 26; refine Calls.mono HT2.out ?_; rintro e w22 ⟨rfl, hf22⟩)
            | fail)
          have HW22 := Lib.hid (HW21.out.trans hf22)
          have Hc22 := Lib.hid (hf22.get Hc21.out (fun f => f))
          clear hf22

          have HSs := Lib.hid (ref1_status (HSt.out _ HW22.out) hk6.out)
          go_upto_region 22 with (first
            | (go_at_call 21; refine Calls.mono HSs.out ?_; rintro e w23 ⟨rfl, hf23⟩)
            | fail)
          have HW24 := Lib.hid (HW22.out.trans (hf23.alloc (.cells #[.int .i64 7, .int .i64 1, .int .i64 1, .int .i64 k, .int .i64 0, .int .i64 0] 38)))
          have hcn := heap_alloc_new w23 (.cells #[.int .i64 7, .int .i64 1, .int .i64 1, .int .i64 k, .int .i64 0, .int .i64 0] 38)
          have hco := heap_alloc_keep (.cells #[.int .i64 7, .int .i64 1, .int .i64 1, .int .i64 k, .int .i64 0, .int .i64 0] 38) (hf23.get Hc22.out (fun f => f))
          generalize w23.alloc (.cells #[.int .i64 7, .int .i64 1, .int .i64 1, .int .i64 k, .int .i64 0, .int .i64 0] 38) = w24 at HW24 hcn hco ⊢
          generalize w23.heap.size = N24 at hcn ⊢
          clear hf23 h1
          have a0 : w24.cell? ⟨N11, 0, none⟩ = some (.int .i64 7) := by rw [cellv, hco]; rfl
          have a1 : w24.cell? ⟨N11, 1, none⟩ = some (.int .i64 1) := by rw [cellv, hco]; rfl
          have a2 : w24.cell? ⟨N11, 2, none⟩ = some (.int .i64 1) := by rw [cellv, hco]; rfl
          have a3 : w24.cell? ⟨N11, 3, none⟩ = some (.int .i64 k) := by rw [cellv, hco]; rfl
          have a4 : w24.cell? ⟨N11, 4, none⟩ = some (.int .i64 0) := by rw [cellv, hco]; rfl
          have a5 : w24.cell? ⟨N11, 5, none⟩ = some (.int .i64 0) := by rw [cellv, hco]; rfl
          have b0 : w24.cell? ⟨N24, 0, none⟩ = some (.int .i64 7) := by rw [cellv, hcn]; rfl
          have b1 : w24.cell? ⟨N24, 1, none⟩ = some (.int .i64 1) := by rw [cellv, hcn]; rfl
          have b2 : w24.cell? ⟨N24, 2, none⟩ = some (.int .i64 1) := by rw [cellv, hcn]; rfl
          have b3 : w24.cell? ⟨N24, 3, none⟩ = some (.int .i64 k) := by rw [cellv, hcn]; rfl
          have b4 : w24.cell? ⟨N24, 4, none⟩ = some (.int .i64 0) := by rw [cellv, hcn]; rfl
          have b5 : w24.cell? ⟨N24, 5, none⟩ = some (.int .i64 0) := by rw [cellv, hcn]; rfl
          have hg38 := Tryz.guard38
          have he38 := eq38
          clear hcn hco
          go_upto_region 24 with fail
          clear a0 a1 a2 a3 a4 a5 b0 b1 b2 b3 b4 b5 hg38 he38
          have hbe : (by_ == by_) = true := by rw [ba_beq]; simp
          have HB2 := Lib.hid (fun (X : World) (hx : New w8 X) => (pb_log (HSt.out X hx) hqp))
          have HL24 := Lib.hid (HL8.out.trans (HW24.out.low HL8.out.size (fun _ f => f.elim)))
          have HBX := Lib.hid (HBy.out _ HW24.out)
          go_wp2_with (first
            | (go_at_call 25; refine Calls.mono HBX.out ?_; rintro e w25 ⟨rfl, hf25⟩; obtain ⟨va, vc, hva⟩ := HB2.out w25 (HW24.out.trans hf25); have HL25 := Lib.hid (HL24.out.trans (hf25.low HL24.out.size (fun _ f => f.elim))); clear hf25)
            | fail)
          go_ret
          exact ⟨rfl, HL25.out⟩
        · have h3' : (m : Int) ≤ 6 := by omega
          have h4' : (U.size : Int) ≤ 8 := by omega
          have hq : (decide (id < 1) || decide (1000 < id) || decide ((m : Int) < 1) || decide (6 < (m : Int)) || decide (8 < (U.size : Int))) = false := by simp; omega
          go_upto_region 16 with fail
          clear hq
          have HT1 := Lib.hid (toldP_fault fb subStr 2 W (Hg.out W (HL8.out.trans (HW.out.low HL8.out.size (fun _ f => f.elim)))) HfW.out)
          clear hcU hid
          go_upto_region 20 with (first
            | (go_at_call 26; refine Calls.mono HT1.out ?_; rintro e w21 ⟨rfl, hf21⟩)
            | fail)
          have HW21 := Lib.hid (HW.out.trans hf21)
          have Hc21 := Lib.hid (hf21.get HcW.out (fun f => f))
          have HT2 := Lib.hid (toldP_nil w21)
          clear hf21
          go_upto_region 21 with (first
            | (go_at_call 26; refine Calls.mono HT2.out ?_; rintro e w22 ⟨rfl, rfl⟩)
            | fail)
          have HW22 := HW21
          have Hc22 := Hc21

          have HSs := Lib.hid (ref1_status (HSt.out _ HW22.out) hk6.out)
          go_upto_region 22 with (first
            | (go_at_call 21; refine Calls.mono HSs.out ?_; rintro e w23 ⟨rfl, hf23⟩)
            | fail)
          have HW24 := Lib.hid (HW22.out.trans (hf23.alloc (.cells #[.int .i64 7, .int .i64 1, .int .i64 1, .int .i64 k, .int .i64 0, .int .i64 0] 38)))
          have hcn := heap_alloc_new w23 (.cells #[.int .i64 7, .int .i64 1, .int .i64 1, .int .i64 k, .int .i64 0, .int .i64 0] 38)
          have hco := heap_alloc_keep (.cells #[.int .i64 7, .int .i64 1, .int .i64 1, .int .i64 k, .int .i64 0, .int .i64 0] 38) (hf23.get Hc22.out (fun f => f))
          generalize w23.alloc (.cells #[.int .i64 7, .int .i64 1, .int .i64 1, .int .i64 k, .int .i64 0, .int .i64 0] 38) = w24 at HW24 hcn hco ⊢
          generalize w23.heap.size = N24 at hcn ⊢
          clear hf23 h1
          have a0 : w24.cell? ⟨N11, 0, none⟩ = some (.int .i64 7) := by rw [cellv, hco]; rfl
          have a1 : w24.cell? ⟨N11, 1, none⟩ = some (.int .i64 1) := by rw [cellv, hco]; rfl
          have a2 : w24.cell? ⟨N11, 2, none⟩ = some (.int .i64 1) := by rw [cellv, hco]; rfl
          have a3 : w24.cell? ⟨N11, 3, none⟩ = some (.int .i64 k) := by rw [cellv, hco]; rfl
          have a4 : w24.cell? ⟨N11, 4, none⟩ = some (.int .i64 0) := by rw [cellv, hco]; rfl
          have a5 : w24.cell? ⟨N11, 5, none⟩ = some (.int .i64 0) := by rw [cellv, hco]; rfl
          have b0 : w24.cell? ⟨N24, 0, none⟩ = some (.int .i64 7) := by rw [cellv, hcn]; rfl
          have b1 : w24.cell? ⟨N24, 1, none⟩ = some (.int .i64 1) := by rw [cellv, hcn]; rfl
          have b2 : w24.cell? ⟨N24, 2, none⟩ = some (.int .i64 1) := by rw [cellv, hcn]; rfl
          have b3 : w24.cell? ⟨N24, 3, none⟩ = some (.int .i64 k) := by rw [cellv, hcn]; rfl
          have b4 : w24.cell? ⟨N24, 4, none⟩ = some (.int .i64 0) := by rw [cellv, hcn]; rfl
          have b5 : w24.cell? ⟨N24, 5, none⟩ = some (.int .i64 0) := by rw [cellv, hcn]; rfl
          have hg38 := Tryz.guard38
          have he38 := eq38
          clear hcn hco
          go_upto_region 24 with fail
          clear a0 a1 a2 a3 a4 a5 b0 b1 b2 b3 b4 b5 hg38 he38
          have hbe : (by_ == by_) = true := by rw [ba_beq]; simp
          have HB2 := Lib.hid (fun (X : World) (hx : New w8 X) => (pb_log (HSt.out X hx) hqp))
          have HL24 := Lib.hid (HL8.out.trans (HW24.out.low HL8.out.size (fun _ f => f.elim)))
          have HBX := Lib.hid (HBy.out _ HW24.out)
          go_wp2_with (first
            | (go_at_call 25; refine Calls.mono HBX.out ?_; rintro e w25 ⟨rfl, hf25⟩; obtain ⟨va, vc, hva⟩ := HB2.out w25 (HW24.out.trans hf25); have HL25 := Lib.hid (HL24.out.trans (hf25.low HL24.out.size (fun _ f => f.elim))); clear hf25)
            | fail)
          go_ret
          exact ⟨rfl, HL25.out⟩
  · obtain rfl : m = 0 := by omega
    go_upto_region 15 with fail
    have HW := HF17
    have HcW := Hc17
    have HfW := Hfb17
    have Hul : Hid ((kSteps 3 0).length = 0) := kSteps_len 3 0
    have Hbad : Hid (wholeB id (kSteps 3 0) = false) := by show _ = _; unfold wholeB; rw [kSteps_len]; simp
    have Hsl : Hid (SlAt w17 (.slice sa4 0 sc4) (kSteps 3 0)) := .inl ⟨rfl, _, _, rfl⟩
    clear HF17 Hc17 Hfb17 hsz8 hsz17 hsv4 hsa4 hf17 HPl hp hp10
    have hcU : True := trivial
    generalize w17 = W at HW HcW HfW Hsl ⊢
    generalize kSteps 3 0 = L at Hul Hsl Hbad
    have hlf : id < 1 ∨ (1 ≤ id ∧ 1000 < id) ∨ (1 ≤ id ∧ id ≤ 1000) := by omega
    rcases hlf with h1 | ⟨h1, h2⟩ | ⟨h1, h2⟩
    all_goals
      go_upto_region 16 with fail
      have HSb := Lib.hid (Submit_bad (HSt.out W HW.out) Hsl.out (by rw [Hul.out]; have := hm8.out; omega) Hbad.out)
      clear Hbad hid
      go_upto_region 19 with (first
        | (go_at_call 18; refine Calls.mono HSb.out ?_; rintro e w20 ⟨x20, rfl, ⟨gb, hgb1, rfl, hgb2⟩, hf20⟩)
        | fail)
      have HW20 := Lib.hid (HW.out.trans hf20)
      have Hc20 := Lib.hid (hf20.get HcW.out (fun f => f))
      have Hg20 := Lib.hid hgb2
      have HT1 := Lib.hid (toldP_fault fb subStr 2 w20 (Hg.out w20 (HL8.out.trans (HW20.out.low HL8.out.size (fun _ f => f.elim)))) (hf20.get HfW.out (fun f => f)))
      clear hf20 hgb2 hgb1 HW HcW HfW hcU
      go_upto_region 20 with (first
        | (go_at_call 26; refine Calls.mono HT1.out ?_; rintro e w21 ⟨rfl, hf21⟩)
        | fail)
      have HW21 := Lib.hid (HW20.out.trans hf21)
      have Hc21 := Lib.hid (hf21.get Hc20.out (fun f => f))
      have HT2 := Lib.hid (toldP_fault gb subStr 1 w21 (Hg.out w21 (HL8.out.trans (HW21.out.low HL8.out.size (fun _ f => f.elim)))) (hf21.get Hg20.out (fun f => f)))
      clear hf21
      go_upto_region 21 with (first
        | (go_at_call 26; refine Calls.mono HT2.out ?_; rintro e w22 ⟨rfl, hf22⟩)
        | fail)
      have HW22 := Lib.hid (HW21.out.trans hf22)
      have Hc22 := Lib.hid (hf22.get Hc21.out (fun f => f))
      clear hf22

      have HSs := Lib.hid (ref1_status (HSt.out _ HW22.out) hk6.out)
      go_upto_region 22 with (first
        | (go_at_call 21; refine Calls.mono HSs.out ?_; rintro e w23 ⟨rfl, hf23⟩)
        | fail)
      have HW24 := Lib.hid (HW22.out.trans (hf23.alloc (.cells #[.int .i64 7, .int .i64 1, .int .i64 1, .int .i64 k, .int .i64 0, .int .i64 0] 38)))
      have hcn := heap_alloc_new w23 (.cells #[.int .i64 7, .int .i64 1, .int .i64 1, .int .i64 k, .int .i64 0, .int .i64 0] 38)
      have hco := heap_alloc_keep (.cells #[.int .i64 7, .int .i64 1, .int .i64 1, .int .i64 k, .int .i64 0, .int .i64 0] 38) (hf23.get Hc22.out (fun f => f))
      generalize w23.alloc (.cells #[.int .i64 7, .int .i64 1, .int .i64 1, .int .i64 k, .int .i64 0, .int .i64 0] 38) = w24 at HW24 hcn hco ⊢
      generalize w23.heap.size = N24 at hcn ⊢
      clear hf23 h1
      have a0 : w24.cell? ⟨N11, 0, none⟩ = some (.int .i64 7) := by rw [cellv, hco]; rfl
      have a1 : w24.cell? ⟨N11, 1, none⟩ = some (.int .i64 1) := by rw [cellv, hco]; rfl
      have a2 : w24.cell? ⟨N11, 2, none⟩ = some (.int .i64 1) := by rw [cellv, hco]; rfl
      have a3 : w24.cell? ⟨N11, 3, none⟩ = some (.int .i64 k) := by rw [cellv, hco]; rfl
      have a4 : w24.cell? ⟨N11, 4, none⟩ = some (.int .i64 0) := by rw [cellv, hco]; rfl
      have a5 : w24.cell? ⟨N11, 5, none⟩ = some (.int .i64 0) := by rw [cellv, hco]; rfl
      have b0 : w24.cell? ⟨N24, 0, none⟩ = some (.int .i64 7) := by rw [cellv, hcn]; rfl
      have b1 : w24.cell? ⟨N24, 1, none⟩ = some (.int .i64 1) := by rw [cellv, hcn]; rfl
      have b2 : w24.cell? ⟨N24, 2, none⟩ = some (.int .i64 1) := by rw [cellv, hcn]; rfl
      have b3 : w24.cell? ⟨N24, 3, none⟩ = some (.int .i64 k) := by rw [cellv, hcn]; rfl
      have b4 : w24.cell? ⟨N24, 4, none⟩ = some (.int .i64 0) := by rw [cellv, hcn]; rfl
      have b5 : w24.cell? ⟨N24, 5, none⟩ = some (.int .i64 0) := by rw [cellv, hcn]; rfl
      have hg38 := Tryz.guard38
      have he38 := eq38
      clear hcn hco
      go_upto_region 24 with fail
      clear a0 a1 a2 a3 a4 a5 b0 b1 b2 b3 b4 b5 hg38 he38
      have hbe : (by_ == by_) = true := by rw [ba_beq]; simp
      have HB2 := Lib.hid (fun (X : World) (hx : New w8 X) => (pb_log (HSt.out X hx) hqp))
      have HL24 := Lib.hid (HL8.out.trans (HW24.out.low HL8.out.size (fun _ f => f.elim)))
      have HBX := Lib.hid (HBy.out _ HW24.out)
      go_wp2_with (first
        | (go_at_call 25; refine Calls.mono HBX.out ?_; rintro e w25 ⟨rfl, hf25⟩; obtain ⟨va, vc, hva⟩ := HB2.out w25 (HW24.out.trans hf25); have HL25 := Lib.hid (HL24.out.trans (hf25.low HL24.out.size (fun _ f => f.elim))); clear hf25)
        | fail)
      go_ret
      exact ⟨rfl, HL25.out⟩
end Go.Proofs.YtkafmfdipmhleaaGreatDoor

namespace Go.Proofs.YtkafmfdipmhleaaGreatDoor
open Go.ChangeShapes Go.WideShapes Go.RowKit

theorem Tryz.own : ownKnob Tryz.prog.godebug = none := by kernel_rfl
/-- A world that meets the condition: the settled one, the variable's cell laid. -/
noncomputable def laidWorld (os : Os) : World :=
  let w0 := World.holding Tryz.prog os ⟨#[], #[], []⟩
  { w0 with heap := w0.heap.modify 0 fun
      | .cells _ t frozen => .cells #[.iface 176 (.agg #[.pointer (some ⟨1, 32, none⟩)])] t frozen
      | o => o }
theorem laidWorld_met (os : Os) (args : Array Value) : laidMetH Tryz.prog [("errors.errorType", Rows.laid_errors_errorType)] ((laidWorld os).forCall (fun _ _ => 0) ⟨#[], args, []⟩).memory :=
  laidMetH_of_parts (laidMet_nil _ _) (by kernel_rfl)
theorem Tryz.et : Tryz.prog.globalNamed "errors.errorType" = some 0 := by kernel_rfl
theorem Tryz.rt : (Tryz.prog.cutTypes.find? (·.1 == "internal/reflectlite.rtype")).map (·.2) = some 176 := by kernel_rfl
set_option maxRecDepth 1000000 in
theorem Tryz.oneRow : ((List.range Tryz.prog.types.size).filter fun t => Tryz.prog.rowNamed t [101, 114, 114, 111, 114]) = [32] := by kernel_rfl
/-- What the condition gives a walk: the variable's one cell. -/
theorem handle_of_laid {W : World} (h : laidMetH Tryz.prog [("errors.errorType", Rows.laid_errors_errorType)] W) : W.cell? ⟨0, 0, none⟩ = some (.iface 176 (.agg #[.pointer (some ⟨1, 32, none⟩)])) := by
  have h' : laidMet Tryz.prog [] W ∧ handlesMet Tryz.prog [("errors.errorType", Rows.laid_errors_errorType)] W := h
  obtain ⟨name, u, ty, e1, e2, e3, e4, e5⟩ := h'.2 _ (List.mem_singleton.2 rfl)
  have en : name = [101, 114, 114, 111, 114] := (Option.some.inj e1).symm
  subst en
  obtain rfl := Option.some.inj (Tryz.rt.symm.trans e2)
  have hm : ty ∈ (List.range Tryz.prog.types.size).filter fun t => Tryz.prog.rowNamed t [101, 114, 114, 111, 114] := List.mem_filter.2 ⟨List.mem_range.2 e3, e4⟩
  rw [Tryz.oneRow] at hm
  obtain rfl := List.mem_singleton.1 hm
  have hh : typeHandle Tryz.prog 32 = .pointer (some ⟨1, 32, none⟩) := by kernel_rfl
  rw [hh] at e5
  simpa using World.var?_cell Tryz.et e5 0
end Go.Proofs.YtkafmfdipmhleaaGreatDoor
