/-
  What is proved: the contract of a Submit that is taken, on a disk that tells no errors. the contract of a journal's at, on a disk that tells no errors.
-/
import Derived.Test.YtkafmfdipmhleaaGreatDoorRa7
import Derived.Maps.OwnSet
import Derived.Maps.RangeWalk
import Derived.StillTailTactics
import Derived.Deep.RegionHeld3
import Derived.RegionTactic
import Derived.BigRegion
import Derived.BigQuiet

namespace Go.Proofs.YtkafmfdipmhleaaGreatDoor
open Go.RowKit Go.Maps

theorem Tryz.keyed : Keyed Tryz.prog 3 := int_keyed Tryz.underlying3
def ptrV : Option Nat → Value
  | some b => .pointer (some ⟨b, 0, none⟩)
  | none => .pointer none
theorem ptrR_shape (v : Value) (y : DataW Unit × List MemPlace) (h : ptrR v = some y) : ∃ c, v = ptrV c := by
  unfold ptrR at h
  split at h
  · exact ⟨some _, rfl⟩
  · exact ⟨none, rfl⟩
  · cases h
theorem key_shape (key : Value) (kl : Lit) (h : keyOf Tryz.prog 3 key = some kl) : ∃ x : Int, key = .int .i64 x := by
  obtain ⟨x, rfl, _⟩ := Maps.keyOf_int_inv Tryz.underlying3 h
  exact ⟨x, rfl⟩
theorem has_of_mem {l : List SagaM} {bl : List Nat} (hl : bl.length = l.length) {g : SagaM} (hg : g ∈ l) : Maps.has (dataOf (ilOf l bl)) (.int .i64 g.id) = true := by
  have hm : g.id ∈ (ilOf l bl).map (·.1) := by
    unfold ilOf
    rw [List.map_fst_zip (by simp; omega)]
    exact List.mem_map_of_mem hg
  obtain ⟨p, hp, e⟩ := List.mem_map.1 hm
  simp only [Maps.has, dataOf]
  rw [List.any_map, List.any_eq_true]
  exact ⟨p, hp, by simp [Lit.sameKey, e]⟩
theorem dataOf_at' (L : List (Int × Nat)) (id : Int) (zd : DataW Unit) : (dataOf L).atKey (.int .i64 id) zd = match blkOfId L id with | some b => .lit (.int .i64 b) | none => zd := by
  induction L with
  | nil => rfl
  | cons a L ih =>
    simp only [dataOf, DataW.atKey, blkOfId, List.map_cons, List.find?_cons] at ih ⊢
    by_cases h : a.1 = id
    · simp [Lit.sameKey, h]
    · have h1 : Lit.sameKey (.int .i64 a.1) (.int .i64 id) = false := by simp [Lit.sameKey, h]
      rw [h1, decide_eq_false h]
      exact ih
theorem entry_of {l : List SagaM} {bl : List Nat} (hl : bl.length = l.length) {x : Int} {c : Option Nat} {y : DataW Unit} {ps : List MemPlace} (hy : ptrR (ptrV c) = some (y, ps)) (hat : ∀ zd, (dataOf (ilOf l bl)).atKey (.int .i64 x) zd = y) :
    ∃ (i : Nat) (g : SagaM) (b : Nat), l[i]? = some g ∧ bl[i]? = some b ∧ g.id = x ∧ c = some b := by
  cases hb : blkOfId (ilOf l bl) x with
  | none =>
    have h1 := hat .nil
    have h2 := hat (.lit (.int .i64 0))
    rw [dataOf_at', hb] at h1 h2
    simp only at h1 h2
    rw [← h1] at h2
    cases h2
  | some b =>
    have h1 := hat .nil
    rw [dataOf_at', hb] at h1
    simp only at h1
    subst h1
    have h3 := ptrR_inv hy
    obtain ⟨i, g, e1, e2, e3⟩ := il_find l bl hl x b hb
    refine ⟨i, g, b, e1, e2, e3, ?_⟩
    cases c with
    | none => simp [ptrV] at h3
    | some c => simp [ptrV] at h3; rw [h3]
theorem rest_le (l : List SagaM) (left : Lit → Bool) (h : ∀ g ∈ l, g.ok) : restSum l left ≤ leftSum l := by
  unfold restSum leftSum
  induction l with
  | nil => simp
  | cons a l ih =>
    have h1 := (h a (by simp)).left_nonneg
    have h2 := ih (fun g hg => h g (by simp [hg]))
    simp only [List.map_cons, List.sum_cons]
    cases left (.int .i64 a.id) <;> simp only [cond_true, cond_false] <;> omega
theorem sub_recs {w : World} {lb : Nat} {id : Int} {l : List (ByteArray × ByteArray)} {sv : Value} (hw : 1 ≤ id ∧ id ≤ 1000 ∧ smallSteps l) (hsv : ∃ a m c, sv = .slice a m c)
    (hlb : w.heap[lb]? = some (.cells #[.int .u8 2, .int .u32 0, .int .i64 0, .int .i64 id, .int .i64 0, sv, .int .u8 3, .int .u32 0, .int .i64 0, .int .i64 id, .int .i64 0, .slice none 0 0] 91 (0, 0))) (hst : StepsAt w sv l) :
    RecsAt w lb [bodyRec id l, takenRec id] := by
  refine ⟨?_, _, hlb, ?_⟩
  · intro r hr ep ix hep hix
    simp only [List.mem_cons, List.not_mem_nil, or_false] at hr
    rcases hr with rfl | rfl
    · exact ⟨by show 2 < 256; omega, hep, hix, by show id.toNat < 65536; omega, by show 0 < 256; omega, fun h => absurd rfl h, fun _ => hw.2.2⟩
    · exact ⟨by show 3 < 256; omega, hep, hix, by show id.toNat < 65536; omega, by show 0 < 256; omega, fun _ => rfl, fun h => by simp [placed, takenRec] at h⟩
  · intro k r hr
    have e1 : ((id.toNat : Nat) : Int) = id := by omega
    match k, hr with
    | 0, hr =>
      simp at hr
      subst hr
      refine ⟨sv, hsv, fun _ => hst, fun i hi => ?_⟩
      simp only [rcells, bodyRec, Nat.zero_mul, Nat.zero_add, e1]
      match i, hi with
      | 0, _ | 1, _ | 2, _ | 3, _ | 4, _ | 5, _ => rfl
    | 1, hr =>
      simp at hr
      subst hr
      refine ⟨.slice none 0 0, ⟨_, _, _, rfl⟩, fun h => by simp [takenRec] at h, fun i hi => ?_⟩
      simp only [rcells, takenRec, Nat.one_mul, e1]
      match i, hi with
      | 0, _ | 1, _ | 2, _ | 3, _ | 4, _ | 5, _ => rfl
    | k + 2, hr => simp at hr
/-- How far the sum is. -/
def SumAt (w w' : World) (mb r : Nat) (l : List SagaM) (bl : List Nat) (tot : Int) (v : Value) : Prop :=
  ∃ (left : Lit → Bool) (cnt : Nat), w'.ranges Tryz.prog 3 ptrR mb r l.length (dataOf (ilOf l bl)) left cnt ∧ v = .int .i64 (tot - restSum l left) ∧ New w w'
set_option maxRecDepth 100000 in
set_option maxHeartbeats 4000000 in
theorem Submit_calls {w : World} {q : Pl} {bl : List Nat} {s : StM} {id : Int} {l : List (ByteArray × ByteArray)} {v : Value} (hs : StAt w q bl s) (hi : s.inv) (hv : StepsAt w v l) (hw : wholeB id l = true) (hn : ∀ x ∈ s.sagas, x.id ≠ id)
    (hroom : (s.j.en : Int) + (2 + (2 * l.length - 1) + leftSum s.sagas) ≤ s.d.blocks.length) :
    Calls Tryz.prog 18 #[.pointer (some ⟨q.xb, 0, none⟩), .int .i64 id, v] w fun e w' => e = .returned .nilIface ∧ (∃ bl', StAt w' q bl' (s.submit id l)) ∧ FrK [0, 103, 104, 133, 80] w w' ∧ Low s.p.lo w w' := by
  have hws := whole_small hw
  have hlk := look_none hs.mp id (by omega) (il_none s.sagas bl id hn)
  have hx := hs.eng
  obtain ⟨sa, sn, sc, rfl⟩ := hv.shape
  have HW := Lib.hid (Whole_calls w id l _ (.inr hv) (by have := hws.2.2.2.1; omega))
  rw [hw] at HW
  have Hs := Lib.hid hs
  have Hi := Lib.hid hi
  have Hv := Lib.hid hv
  have Hw := Lib.hid hw
  have Hn := Lib.hid hn
  have Hroom := Lib.hid hroom
  have Hws := Lib.hid hws
  have Hlk := Lib.hid hlk
  have Hx := Lib.hid hx
  simp only [egCells] at hx
  clear hs hi hv hw hn hroom hws hlk
  have hcv := cellv w
  go_enter Tryz.func18, Tryz.ntmps18
  go_upto_region 5 with (first
    | (go_at_call 41; refine Calls.mono HW.out ?_; rintro e w2 ⟨rfl, hf2⟩)
    | fail)
  have hs2 := Hs.out.keepK (hf2.toK (K := []) (fun _ _ f _ => f.elim)) (by simp)
  have hlk := look_none hs2.mp id (by have := Hws.out; omega) (il_none s.sagas bl id Hn.out)
  have hv2 : StepsAt w2 _ l := Hv.out.frame hf2 (fun _ f => f.elim)
  have HN := Lib.hid (New_calls id l _ hv2 (by have := Hws.out.2.2.1; have := Hws.out.2.2.2.1; omega))
  have hx2 := hf2.get Hx.out (fun f => f)
  have Hx2 := Lib.hid hx2
  have Hf2 := Lib.hid hf2
  have Hs2 := Lib.hid hs2
  simp only [egCells] at hx2
  clear hcv hx hs2 hv2 hf2
  have hcv := cellv w2
  go_upto_region 11 with (first
    | (go_at_call 43; refine Calls.mono HN.out ?_; rintro e w3 ⟨sb, hsb, rfl, hs3, hf3⟩)
    | fail)
  have HL := Lib.hid (Left_calls hs3 (by simp only [SagaM.new]; have := Hws.out.2.2.2.1; omega))
  rw [new_left] at HL
  have Hs3 := Lib.hid hs3
  have Hsb := Lib.hid hsb
  have Hf3 := Lib.hid (Hf2.out.trans hf3)
  have hx3 := hf3.get Hx2.out (fun f => f)
  have Hst3 := Lib.hid (Hs2.out.keepK (hf3.toK (K := []) (fun _ _ f _ => f.elim)) (by simp))
  clear hcv hx2 hs3 hsb hf3 hlk
  have h2n : wrap64 (2 + (2 * (l.length : Int) - 1)) = 2 + (2 * (l.length : Int) - 1) := wrap_in _ (by have := Hws.out.2.2.2.1; omega)
  go_upto_region 12 with (first
    | (go_at_call 44; refine Calls.mono HL.out ?_; rintro e w4 ⟨rfl, n4, rfl⟩)
    | fail)
  have hst4 : StAt (w3.drewN n4) q bl s := Hst3.out.keepK (((Fr.refl (fun _ => False) w3).drewN n4).toK (K := []) (fun _ _ f _ => f.elim)) (by simp)
  have Hs4 := Lib.hid (Hs3.out.new ((Fr.refl _ w3).drewN n4))
  have Hf4 := Lib.hid (Hf3.out.drewN n4)
  have Hx4 := Lib.hid (hst4.eng)
  have Hst4 := Lib.hid hst4
  have Hsb4 : Hid (w.heap.size ≤ sb) := by have := Hsb.out; have := Hf2.out.size; show _ ≤ _; omega
  have H2n := Lib.hid h2n
  clear hx3 hst4 h2n
  generalize w3.drewN n4 = w4 at Hs4 Hf4 Hx4 Hst4 ⊢
  have hx4 := Hx4.out
  simp only [egCells] at hx4
  have hcv := cellv w4
  go_upto_region 13 with (first
    | (at_range; refine wpList_range_own _ rfl _ 76 rfl 3 82 Tryz.keyed Tryz.underlying76 ptrR q.mb s.sagas.length _ rfl Hst4.out.mp ?_; intro w5 hrg0 hg0 hs0; go_frame)
    | fail)
  have hr0 : restSum s.sagas (Maps.has (dataOf (ilOf s.sagas bl))) = leftSum s.sagas := rest_all _ _ (fun g hg => has_of_mem Hs.out.len hg)
  have hF0 : New w4 w5 := (Fr.ofGrown hg0).mono (fun _ _ e => by cases e)
  have HF0 := Lib.hid hF0
  have Hrg0 := Lib.hid hrg0
  have Hr0 := Lib.hid hr0
  clear hcv hx4 hr0 hF0 hrg0 hg0 hs0
  go_wp2_with fail
  go_loopw [9] (fun v wr => SumAt w4 wr q.mb w4.heap.size s.sagas bl (2 + (2 * (l.length : Int) - 1) + leftSum s.sagas) v) (fun _ wr => wr.rangeLeft q.mb w4.heap.size)
  case atStart => exact ⟨_, _, Hrg0.out, by rw [Hr0.out, H2n.out]; congr 1; omega, HF0.out⟩
  case round =>
    obtain ⟨left, cnt, hrg, rfl, hfr⟩ := hrel
    have Hrg := Lib.hid hrg
    have Hfr := Lib.hid hfr
    clear hrg hfr
    go_upto_region 14 with (first
      | (at_next; refine wpList_next_ranges _ rfl _ rfl 3 Tryz.keyed ptrR (Value.int .i64) ptrV key_shape ptrR_shape q.mb w4.heap.size _ _ _ _ rfl Hrg.out ?_ ?_)
      | fail)
    · intro _ hl0
      have hr0 := rest_none s.sagas left hl0
      rw [hr0, Int.sub_zero]
      have Hl0 := Lib.hid hl0
      clear hl0 hr0
      have hst6 : StAt wr q bl s := Hst4.out.keepK (Hfr.out.toK (K := []) (fun _ _ f _ => f.elim)) (by simp)
      have Hs6 := Lib.hid (Hs4.out.new Hfr.out)
      have hx6 := hst6.eng
      have HR := Lib.hid (Room_calls hst6.jn hst6.dk)
      have Hst6 := Lib.hid hst6
      simp only [egCells] at hx6
      clear hst6
      have hcv := cellv wr
      have hsz := (Hi.out).size
      have hrm : wrap64 ((s.d.blocks.length : Int) - s.j.en) = (s.d.blocks.length : Int) - s.j.en := wrap_in _ (by
        have := Hroom.out; have := rest_nonneg s.sagas (fun _ => true) (Hi.out).ok; rw [rest_all s.sagas (fun _ => true) (fun _ _ => rfl)] at this
        have := Hws.out.2.2.1; omega)
      have hgt : ¬ ((s.d.blocks.length : Int) - s.j.en < 2 + (2 * (l.length : Int) - 1) + leftSum s.sagas) := by have := Hroom.out; omega
      rw [hrm] at HR
      clear hrm hsz
      go_upto_region 18 with (first
        | (go_at_call 45; refine Calls.mono HR.out ?_; rintro e w7 ⟨rfl, rfl⟩)
        | fail)
      obtain ⟨sv, hsg, hst⟩ := Hs6.out
      obtain ⟨va, vn, vc, rfl⟩ := hst.shape
      have Hsg := Lib.hid hsg
      have Hst := Lib.hid hst
      have Hx6 := Lib.hid hx6
      simp only [sgCells, SagaM.new] at hsg
      clear hcv hx6 hgt hst
      have hcv := cellv wr.drew
      have hsg' : wr.drew.heap[sb]? = _ := hsg
      clear hsg
      have hN9 : New wr (wr.alloc (.cells #[.int .u8 2, .int .u32 0, .int .i64 0, .int .i64 id, .int .i64 0, .slice va vn vc, .int .u8 3, .int .u32 0, .int .i64 0, .int .i64 id, .int .i64 0, .slice none 0 0] 91)).drew := ((Fr.refl _ wr).alloc _).drew
      have hlb : (wr.alloc (.cells #[.int .u8 2, .int .u32 0, .int .i64 0, .int .i64 id, .int .i64 0, .slice va vn vc, .int .u8 3, .int .u32 0, .int .i64 0, .int .i64 id, .int .i64 0, .slice none 0 0] 91)).drew.heap[wr.heap.size]? = some (.cells #[.int .u8 2, .int .u32 0, .int .i64 0, .int .i64 id, .int .i64 0, .slice va vn vc, .int .u8 3, .int .u32 0, .int .i64 0, .int .i64 id, .int .i64 0, .slice none 0 0] 91 (0, 0)) := heap_alloc_new wr _
      have hrec := sub_recs (sv := .slice va vn vc) Hws.out ⟨_, _, _, rfl⟩ hlb (StepsAt.frame Hst.out hN9 (fun _ f => f.elim))
      have HN9 := Lib.hid hN9
      have HWr := Lib.hid (write_calls (n := 2) (cap := 2) (hN9.get Hx6.out (fun f => f)) (hN9.get Hst6.out.jn (fun f => f)) (Hst6.out.dk.new hN9) (Hi.out).quiet (Hi.out).pend hrec rfl (Hi.out).epoch (by
        show s.j.en + 2 ≤ s.d.blocks.length
        have := Hroom.out; have := rest_nonneg s.sagas (fun _ => true) (Hi.out).ok; rw [rest_all s.sagas (fun _ => true) (fun _ _ => rfl)] at this
        have := Hws.out.2.2.1; omega) (Hi.out).size)
      clear hN9 hlb hrec
      go_upto_region 19 with (first
        | (go_at_call 46; refine Calls.mono HWr.out ?_; rintro e w9 ⟨rfl, hf9, hd9, hj9, hx9⟩)
        | fail)
      have hfk9 : FrK [103, 104, 133, 80] wr w9 := (HN9.out.toK (fun _ _ f _ => f.elim)).trans (hf9.toK (by
        obtain ⟨_, _, _, _, e1, e2, _⟩ := Hst6.out.dk
        have e3 := Hst6.out.jn
        have e4 := Hx6.out
        have n1 := HN9.out.get e1 (fun f => f)
        have n2 := HN9.out.get e2 (fun f => f)
        have n3 := HN9.out.get e3 (fun f => f)
        have n4 := HN9.out.get e4 (fun f => f)
        rintro x o (rfl | rfl | rfl | rfl) ho
        · rw [n1] at ho; cases ho; simp [kindOf]
        · rw [n2] at ho; cases ho; simp [kindOf]
        · rw [n3] at ho; cases ho; simp [kindOf]
        · rw [n4] at ho; cases ho; simp [kindOf]))
      have Hfk9 := Lib.hid hfk9
      have hzr : s.p.lo ≤ wr.heap.size := Nat.le_trans Hs.out.size (Nat.le_trans Hf4.out.size Hfr.out.size)
      have HL9 : Hid (Low s.p.lo wr w9 ∧ s.p.lo ≤ w9.heap.size) := ⟨(HN9.out.low hzr (fun _ f => f.elim)).trans (hf9.low (Nat.le_trans hzr HN9.out.size) (by
        have h0 := Hs.out.lo
        rintro k (rfl | rfl | rfl | rfl)
        · exact h0.2.2.2.1
        · exact h0.2.2.2.2.1
        · exact h0.2.1
        · exact h0.1)), Nat.le_trans hzr (Nat.le_trans HN9.out.size hf9.size)⟩
      clear hzr
      have Hm9 := Lib.hid (map_keepK Hst6.out.mp hfk9 (by decide))
      have Hd9 := Lib.hid hd9
      have Hj9 := Lib.hid hj9
      have Hx9 := Lib.hid hx9
      simp only [egCells] at hx9
      clear hcv hsg' hfk9 hf9 hd9 hj9
      have hcv := cellv w9
      have hkI := keyI id (by have := Hws.out; omega)
      have Hkn : Hid (s.sagas.length < maxLen) := by have := inv_len Hi.out; show _ < maxLen; unfold maxLen; omega
      go_upto_region 22 with (first
        | (at_mapUpdate; refine wpList_mapUpdate_own _ rfl _ _ _ 76 rfl 3 82 Tryz.keyed Tryz.underlying76 ptrR q.mb s.sagas.length _ rfl Hm9.out Hkn.out (.int .i64 id) (.pointer (some ⟨sb, 0, none⟩)) _ rfl rfl hkI (.lit (.int .i64 sb)) [] rfl ?_; intro w10 hown10 hg10; go_frame)
        | fail)
      have hmk : ∃ es clock, w9.heap[q.mb]? = some (.map es clock) := by
        obtain ⟨es, clock, hb, _⟩ := Hm9.out
        exact ⟨es, clock, hb⟩
      have hk10 : FrK [0] w9 w10 := (Fr.ofGrown hg10).toK (by
        obtain ⟨es, clock, hb⟩ := hmk
        rintro x o hx ho
        cases hx
        rw [hb] at ho; cases ho; simp [kindOf])
      have Hk10 := Lib.hid hk10
      have HL10 : Hid (Low s.p.lo w9 w10) := (Fr.ofGrown hg10).low HL9.out.2 (by
        intro k hk
        cases hk
        exact Hs.out.lo.2.2.1)
      have Hown10 := Lib.hid hown10
      clear hcv hx9 hkI hown10 hg10 hk10 hmk
      go_wp2_with fail
      go_ret
      have hd := dataOf_put (ilOf s.sagas bl) id sb (il_none s.sagas bl id Hn.out)
      have hsb9 : SagaAt w9 sb (SagaM.new id l) := Hs6.out.keepK Hfk9.out (by decide) (by decide)
      refine ⟨rfl, ⟨insBl id sb s.sagas bl, ?_, ?_, ?_, ?_, ?_, ?_, ?_, ?_, ?_⟩, ?_⟩
      · exact Hk10.out.block _ _ Hx9.out (by simp [kindOf])
      · exact Hj9.out.keepK Hk10.out (by decide)
      · exact Hd9.out.keepK Hk10.out (by decide) (by decide) (by decide)
      · exact (Hst6.out.pt.keepK Hfk9.out (by decide) (by decide) (by decide) (by decide)).keepK Hk10.out (by decide) (by decide) (by decide) (by decide)
      · have h0 := Hown10.out
        rw [hd] at h0
        have h1 := insIL_of (SagaM.new id l) sb s.sagas bl Hs.out.len
        show w10.ownsMap Tryz.prog 3 ptrR q.mb (insSaga (SagaM.new id l) s.sagas).length (dataOf (ilOf (insSaga (SagaM.new id l) s.sagas) (insBl id sb s.sagas bl)))
        rw [insSaga_len]
        rw [show insBl id sb s.sagas bl = insBl (SagaM.new id l).id sb s.sagas bl from rfl, h1]
        exact h0
      · show _ = (insSaga _ _).length
        rw [insSaga_len]
        exact insBl_len id sb s.sagas bl Hs.out.len
      · intro i g b hg hb
        rcases insSaga_at (g := SagaM.new id l) Hs.out.len i hg hb with ⟨rfl, rfl⟩ | ⟨j, h1, h2⟩
        · exact hsb9.keepK Hk10.out (by decide) (by decide)
        · exact ((Hst6.out.sg j g b h1 h2).keepK Hfk9.out (by decide) (by decide)).keepK Hk10.out (by decide) (by decide)
      · refine insBl_nd Hs.out.nd (fun hm => ?_)
        obtain ⟨i, hi⟩ := List.getElem?_of_mem hm
        have hil := (List.getElem?_eq_some_iff.1 hi).1
        rw [Hs.out.len] at hil
        obtain ⟨_, e, _⟩ := Hs.out.sg i _ sb (List.getElem?_eq_getElem hil) hi
        have := lt_of_hp e
        have := Hsb4.out
        omega
      · obtain ⟨l1, l2, l3, l4, l5, l6⟩ := Hs.out.lo
        refine ⟨l1, l2, l3, l4, l5, fun b hb => ?_⟩
        rcases insBl_mem hb with rfl | hb
        · have := Hsb4.out; have := Hs.out.size
          show s.p.lo ≤ _
          omega
        · exact l6 b hb
      · have k1 : FrK [] w w4 := Hf4.out.toK (fun _ _ f _ => f.elim)
        have k2 : FrK [] w4 wr := Hfr.out.toK (fun _ _ f _ => f.elim)
        exact ⟨((((k1.mono (by decide)).trans (k2.mono (by decide))).trans (Hfk9.out.mono (by decide))).trans (Hk10.out.mono (by decide))), (((Hf4.out.low Hs.out.size (fun _ f => f.elim)).trans (Hfr.out.low (Nat.le_trans Hs.out.size Hf4.out.size) (fun _ f => f.elim))).trans HL9.out.1).trans HL10.out⟩
    · intro x c kl y ps w6 cnt6 hkl hleft hy hat hrg6 hlt hg6 hs6 hen
      have hid : kl = .int .i64 x := by
        obtain ⟨x', e1, e2, _⟩ := Maps.keyOf_int_inv Tryz.underlying3 hkl
        cases e1; exact e2
      subst hid
      obtain ⟨i, g, b, hgi, hbi, rfl, rfl⟩ := entry_of Hs.out.len hy hat
      have hrest := rest_step s.sagas left (Hi.out).ord g (List.mem_of_getElem? hgi) hleft
      have hf6 : New w4 w6 := Hfr.out.trans' (Fr.ofGrown hg6) (fun i hi e => by cases e; omega)
      have hg6 := (Hst4.out.keepK (hf6.toK (K := []) (fun _ _ f _ => f.elim)) (by simp)).sg i g b hgi hbi
      have hgok := (Hi.out).ok g (List.mem_of_getElem? hgi)
      have hbd : -100 ≤ g.step ∧ g.step ≤ 100 ∧ g.steps.length ≤ 100 := by
        obtain ⟨_, _, hsm, _, h⟩ := hgok
        have := hsm.2.1
        rcases h with h | h <;> omega
      have HL6 := Lib.hid (Left_calls hg6 hbd)
      have Hrest := Lib.hid hrest
      have Hlt := Lib.hid hlt
      have Hrg6 := Lib.hid hrg6
      have Hf6 := Lib.hid hf6
      have hr1 := rest_nonneg s.sagas (fun z => left z && !z.sameKey (.int .i64 g.id)) (Hi.out).ok
      have hr2 := hgok.left_nonneg
      have hr3 := leftSum_le s.sagas (Hi.out).ok
      have hr4 := inv_len Hi.out
      have hr5 : restSum s.sagas left ≤ leftSum s.sagas := rest_le s.sagas left (Hi.out).ok
      have hl6 : l.length ≤ 6 := Hws.out.2.2.2.1
      have hadd : wrap64 (2 + (2 * (l.length : Int) - 1) + leftSum s.sagas - restSum s.sagas left + g.left) = 2 + (2 * (l.length : Int) - 1) + leftSum s.sagas - restSum s.sagas (fun z => left z && !z.sameKey (.int .i64 g.id)) := by
        rw [show 2 + (2 * (l.length : Int) - 1) + leftSum s.sagas - restSum s.sagas left + g.left = 2 + (2 * (l.length : Int) - 1) + leftSum s.sagas - restSum s.sagas (fun z => left z && !z.sameKey (.int .i64 g.id)) by omega]
        exact wrap_in _ (by omega)
      have Hadd := Lib.hid hadd
      clear hgi hbi hy hat hrest hf6 hg6 hgok hbd hlt hrg6 hr1 hr2 hr3 hr4 hr5 hl6 hadd hleft hkl hs6
      simp only [ptrV]
      simp only [ptrV] at hen
      go_wp2_with (first
        | (go_at_call 44; refine Calls.mono HL6.out ?_; rintro e w7 ⟨rfl, n7, rfl⟩)
        | fail)
      go_roundw
      case rel => exact ⟨_, cnt6, Hrg6.out.kept (w' := w6.drewN n7) (row := none) ⟨rfl, rfl, rfl, Nat.le_refl _, fun _ _ _ => rfl⟩ (by simp) (by simp), by rw [← Hadd.out], Hf6.out.drewN n7⟩
      case measure =>
        have e1 := Hrg6.out.left_eq
        have e2 := Hrg.out.left_eq
        show World.rangeLeft w6 _ _ < _
        rw [e1, e2]; exact Hlt.out
end Go.Proofs.YtkafmfdipmhleaaGreatDoor

namespace Go.Proofs.YtkafmfdipmhleaaGreatDoor
open Go.RowKit Go.Maps

noncomputable def atR4 : Code := ((Tryz.f106.body).bind (regionAt 4)).getD .skip
def atOk (j : JnM) (i : Nat) (r : RecM) (ok : Bool) : Bool := ok && (r.epoch == j.epoch && r.index == i)
set_option maxRecDepth 100000 in
set_option maxHeartbeats 4000000 in
/-- return r, ok && r.Epoch == j.epoch && r.Index == i. -/
theorem at_r4 (jb db A B i : Nat) (j : JnM) (r : RecM) (ok : Bool) (sa : Option Addr) (sm sc : Nat) (W : World)
    (hj : W.heap[jb]? = some (.cells (jnCells db j) 132 (0, 0))) (hA : W.heap[A]? = some (.cells #[.int .u8 0, .int .u32 0, .int .i64 0, .int .i64 0, .int .i64 0, .slice none 0 0] 91 (0, 0)))
    (hB : W.heap[B]? = some (.cells #[.int .u8 r.kind, .int .u32 r.epoch, .int .i64 r.index, .int .i64 r.saga, .int .i64 r.reply, .slice sa sm sc] 91 (0, 0))) (hAB : A ≠ B)
    {ds : List Deferred} {x2 x3 x5 x8 x9 x10 x11 x12 x13 x14 x15 x16 x17 x18 x19 x20 x21 x22 x23 x24 x25 x26 : Value} {Q : Exit → Act → World → Prop}
    (hQ : ∀ (y27 y28 y29 y30 y31 y32 y33 y34 y35 y36 y37 y38 y39 y40 y41 y42 y43 : Value) (w' : World), Fr (· = A) W w' → w'.heap[A]? = some (.cells #[.int .u8 r.kind, .int .u32 r.epoch, .int .i64 r.index, .int .i64 r.saga, .int .i64 r.reply, .slice sa sm sc] 91 (0, 0)) → Q .normal ⟨#[.pointer (some ⟨jb, 0, none⟩), .int .i64 i, x2, x3, .pointer (some ⟨A, 0, none⟩), .bool (atOk j i r ok), .pointer (some ⟨B, 0, none⟩), .bool ok, x8, x9, x10, x11, x12, x13, x14, x15, x16, x17, x18, x19, x20, x21, x22, x23, x24, x25, x26, y27, y28, y29, y30, y31, y32, y33, y34, y35, y36, y37, y38, y39, y40, y41, y42, y43], ds⟩ w') :
    Code.wp Tryz.prog atR4 Q ⟨#[.pointer (some ⟨jb, 0, none⟩), .int .i64 i, x2, x3, .pointer (some ⟨A, 0, none⟩), x5, .pointer (some ⟨B, 0, none⟩), .bool ok, x8, x9, x10, x11, x12, x13, x14, x15, x16, x17, x18, x19, x20, x21, x22, x23, x24, x25, x26, undef, undef, undef, undef, undef, undef, undef, undef, undef, undef, undef, undef, undef, undef, undef, undef, undef], ds⟩ W := by
  have a1 : W.cell? ⟨jb, 1, none⟩ = some (.int .u32 j.epoch) := by rw [cellv, hj]; rfl
  have r0 : W.cell? ⟨B, 0, none⟩ = some (.int .u8 r.kind) := by rw [cellv, hB]; rfl
  have r1 : W.cell? ⟨B, 1, none⟩ = some (.int .u32 r.epoch) := by rw [cellv, hB]; rfl
  have r2 : W.cell? ⟨B, 2, none⟩ = some (.int .i64 r.index) := by rw [cellv, hB]; rfl
  have r3 : W.cell? ⟨B, 3, none⟩ = some (.int .i64 r.saga) := by rw [cellv, hB]; rfl
  have r4 : W.cell? ⟨B, 4, none⟩ = some (.int .i64 r.reply) := by rw [cellv, hB]; rfl
  have r5 : W.cell? ⟨B, 5, none⟩ = some (.slice sa sm sc) := by rw [cellv, hB]; rfl
  have hfv : ∀ o, W.frozen? ⟨A, o, none⟩ = false := by intro o; rw [frozv, hA]; simp
  have f0 := hfv 0
  have f1 := hfv 1
  have f2 := hfv 2
  have f3 := hfv 3
  have f4 := hfv 4
  have f5 := hfv 5
  have hAB' : B ≠ A := fun e => hAB e.symm
  have hAj : A ≠ jb := ne_of_kind hA hj (by simp [kindOf])
  have hAj' : jb ≠ A := fun e => hAj e.symm
  have hAc : ∀ o, W.cell? ⟨A, o, none⟩ = (#[.int .u8 0, .int .u32 0, .int .i64 0, .int .i64 0, .int .i64 0, .slice none 0 0] : Array Value)[o]? := by intro o; rw [cellv, hA]; rfl
  have c0 := hAc 0
  have c1 := hAc 1
  have c2 := hAc 2
  have c3 := hAc 3
  have c4 := hAc 4
  have c5 := hAc 5
  have HA := Lib.hid hA
  have HQ := Lib.hid hQ
  have Hok : Hid (atOk j i r ok = (ok && (r.epoch == j.epoch && r.index == i))) := rfl
  clear hj hA hB hQ hAc hfv
  conv => arg 2; whnf
  cases ok
  · have Hok := Hok
    refine wp_region_noPanic ?_
    refine wp_region_held_drew (S := (fun w' => w'.cell? ⟨jb, 1, none⟩ = some (.int .u32 j.epoch) ∧ w'.cell? ⟨B, 0, none⟩ = some (.int .u8 r.kind) ∧ w'.cell? ⟨B, 1, none⟩ = some (.int .u32 r.epoch) ∧ w'.cell? ⟨B, 2, none⟩ = some (.int .i64 r.index) ∧ w'.cell? ⟨B, 3, none⟩ = some (.int .i64 r.saga) ∧ w'.cell? ⟨B, 4, none⟩ = some (.int .i64 r.reply) ∧ w'.cell? ⟨B, 5, none⟩ = some (.slice sa sm sc) ∧ w'.frozen? ⟨A, 0, none⟩ = false ∧ w'.frozen? ⟨A, 1, none⟩ = false ∧ w'.frozen? ⟨A, 2, none⟩ = false ∧ w'.frozen? ⟨A, 3, none⟩ = false ∧ w'.frozen? ⟨A, 4, none⟩ = false ∧ w'.frozen? ⟨A, 5, none⟩ = false)) (by kernel_rfl) (by go_keep) (fun hHeld => ?_)
    refine wpAnyH_take (i := 0) (v := ?vb0) rfl (by kernel_rfl) (by kernel_rfl) (by kernel_rfl) (fun _ _ _ h => h) (Or.inl ⟨by rfl, ?yb0⟩) (by assumption) ?rb0
    case yb0 => intro w hSw; (try dsimp only at hSw); go_simp; (try with_reducible rfl)
    simp only [List.getElem_toArray, List.getElem_cons_zero, List.getElem_cons_succ, Act.put, List.setIfInBounds_toArray, List.set_cons_zero, List.set_cons_succ]
    refine wpAnyH_take (i := 1) (v := ?vb1) rfl (by kernel_rfl) (by kernel_rfl) (by kernel_rfl) (fun _ _ _ h => h) (Or.inl ⟨by rfl, ?yb1⟩) (by assumption) ?rb1
    case yb1 => intro w hSw; (try dsimp only at hSw); go_simp; (try with_reducible rfl)
    simp only [List.getElem_toArray, List.getElem_cons_zero, List.getElem_cons_succ, Act.put, List.setIfInBounds_toArray, List.set_cons_zero, List.set_cons_succ]
    refine wpAnyH_take (i := 2) (v := ?vb2) rfl (by kernel_rfl) (by kernel_rfl) (by kernel_rfl) (fun _ _ _ h => h) (Or.inl ⟨by rfl, ?yb2⟩) (by assumption) ?rb2
    case yb2 => intro w hSw; (try dsimp only at hSw); go_simp; (try with_reducible rfl)
    simp only [List.getElem_toArray, List.getElem_cons_zero, List.getElem_cons_succ, Act.put, List.setIfInBounds_toArray, List.set_cons_zero, List.set_cons_succ]
    refine wpAnyH_take (i := 3) (v := undef) rfl (by kernel_rfl) (by kernel_rfl) (by kernel_rfl) (fun _ _ _ h => h) (Or.inr ⟨by rfl, rfl⟩) (by assumption) ?_
    simp only [List.getElem_toArray, List.getElem_cons_zero, List.getElem_cons_succ, Act.put, List.setIfInBounds_toArray, List.set_cons_zero, List.set_cons_succ]
    refine wpAnyH_take (i := 4) (v := undef) rfl (by kernel_rfl) (by kernel_rfl) (by kernel_rfl) (fun _ _ _ h => h) (Or.inr ⟨by rfl, rfl⟩) (by assumption) ?_
    simp only [List.getElem_toArray, List.getElem_cons_zero, List.getElem_cons_succ, Act.put, List.setIfInBounds_toArray, List.set_cons_zero, List.set_cons_succ]
    refine wpAnyH_take (i := 5) (v := undef) rfl (by kernel_rfl) (by kernel_rfl) (by kernel_rfl) (fun _ _ _ h => h) (Or.inr ⟨by rfl, rfl⟩) (by assumption) ?_
    simp only [List.getElem_toArray, List.getElem_cons_zero, List.getElem_cons_succ, Act.put, List.setIfInBounds_toArray, List.set_cons_zero, List.set_cons_succ]
    refine wpAnyH_take (i := 6) (v := undef) rfl (by kernel_rfl) (by kernel_rfl) (by kernel_rfl) (fun _ _ _ h => h) (Or.inr ⟨by rfl, rfl⟩) (by assumption) ?_
    simp only [List.getElem_toArray, List.getElem_cons_zero, List.getElem_cons_succ, Act.put, List.setIfInBounds_toArray, List.set_cons_zero, List.set_cons_succ]
    refine wpAnyH_take (i := 7) (v := undef) rfl (by kernel_rfl) (by kernel_rfl) (by kernel_rfl) (fun _ _ _ h => h) (Or.inr ⟨by rfl, rfl⟩) (by assumption) ?_
    simp only [List.getElem_toArray, List.getElem_cons_zero, List.getElem_cons_succ, Act.put, List.setIfInBounds_toArray, List.set_cons_zero, List.set_cons_succ]
    refine wpAnyH_take (i := 8) (v := undef) rfl (by kernel_rfl) (by kernel_rfl) (by kernel_rfl) (fun _ _ _ h => h) (Or.inr ⟨by rfl, rfl⟩) (by assumption) ?_
    simp only [List.getElem_toArray, List.getElem_cons_zero, List.getElem_cons_succ, Act.put, List.setIfInBounds_toArray, List.set_cons_zero, List.set_cons_succ]
    refine wpAnyH_take (i := 9) (v := undef) rfl (by kernel_rfl) (by kernel_rfl) (by kernel_rfl) (fun _ _ _ h => h) (Or.inr ⟨by rfl, rfl⟩) (by assumption) ?_
    simp only [List.getElem_toArray, List.getElem_cons_zero, List.getElem_cons_succ, Act.put, List.setIfInBounds_toArray, List.set_cons_zero, List.set_cons_succ]
    refine wpAnyH_take (i := 10) (v := ?vb10) rfl (by kernel_rfl) (by kernel_rfl) (by kernel_rfl) (fun _ _ _ h => h) (Or.inl ⟨by rfl, ?yb10⟩) (by assumption) ?rb10
    case yb10 => intro w hSw; (try dsimp only at hSw); go_simp; (try with_reducible rfl)
    simp only [List.getElem_toArray, List.getElem_cons_zero, List.getElem_cons_succ, Act.put, List.setIfInBounds_toArray, List.set_cons_zero, List.set_cons_succ]
    refine wpAnyH_take (i := 11) (v := ?vb11) rfl (by kernel_rfl) (by kernel_rfl) (by kernel_rfl) (fun _ _ _ h => h) (Or.inl ⟨by rfl, ?yb11⟩) (by assumption) ?rb11
    case yb11 => intro w hSw; (try dsimp only at hSw); go_simp; (try with_reducible rfl)
    simp only [List.getElem_toArray, List.getElem_cons_zero, List.getElem_cons_succ, Act.put, List.setIfInBounds_toArray, List.set_cons_zero, List.set_cons_succ]
    refine wpAnyH_take (i := 12) (v := undef) rfl (by kernel_rfl) (by kernel_rfl) (by kernel_rfl) (fun _ _ _ h => h) (Or.inr ⟨by rfl, rfl⟩) (by assumption) ?_
    simp only [List.getElem_toArray, List.getElem_cons_zero, List.getElem_cons_succ, Act.put, List.setIfInBounds_toArray, List.set_cons_zero, List.set_cons_succ]
    refine wpAnyH_take (i := 13) (v := undef) rfl (by kernel_rfl) (by kernel_rfl) (by kernel_rfl) (fun _ _ _ h => h) (Or.inr ⟨by rfl, rfl⟩) (by assumption) ?_
    simp only [List.getElem_toArray, List.getElem_cons_zero, List.getElem_cons_succ, Act.put, List.setIfInBounds_toArray, List.set_cons_zero, List.set_cons_succ]
    refine wpAnyH_take (i := 14) (v := undef) rfl (by kernel_rfl) (by kernel_rfl) (by kernel_rfl) (fun _ _ _ h => h) (Or.inr ⟨by rfl, rfl⟩) (by assumption) ?_
    simp only [List.getElem_toArray, List.getElem_cons_zero, List.getElem_cons_succ, Act.put, List.setIfInBounds_toArray, List.set_cons_zero, List.set_cons_succ]
    refine wpAnyH_take (i := 15) (v := undef) rfl (by kernel_rfl) (by kernel_rfl) (by kernel_rfl) (fun _ _ _ h => h) (Or.inr ⟨by rfl, rfl⟩) (by assumption) ?_
    simp only [List.getElem_toArray, List.getElem_cons_zero, List.getElem_cons_succ, Act.put, List.setIfInBounds_toArray, List.set_cons_zero, List.set_cons_succ]
    refine wpAnyH_take (i := 16) (v := ?vb16) rfl (by kernel_rfl) (by kernel_rfl) (by kernel_rfl) (fun _ _ _ h => h) (Or.inl ⟨by rfl, ?yb16⟩) (by assumption) ?rb16
    case yb16 => intro w hSw; (try dsimp only at hSw); go_simp; (try with_reducible rfl)
    simp only [List.getElem_toArray, List.getElem_cons_zero, List.getElem_cons_succ, Act.put, List.setIfInBounds_toArray, List.set_cons_zero, List.set_cons_succ]
    refine wpAnyH_ready (rs := [17]) (by kernel_rfl) (by simp) ?_
    refine AllReadyH.cons rfl (fun K hK => ?_) AllReadyH.nil
    go_simp
    refine Shut.out hK _ _ ?Sb ?restb
    case Sb => go_keep
    clear hK K
    intro hHeld2
    clear hHeld
    try simp only [List.getElem_toArray, List.getElem_cons_zero, List.getElem_cons_succ, Act.put, List.setIfInBounds_toArray, List.set_cons_zero, List.set_cons_succ]
    refine wpAnyH_take (i := 18) (v := ?vb18) rfl (by kernel_rfl) (by kernel_rfl) (by kernel_rfl) (fun _ _ _ h => h) (Or.inl ⟨by rfl, ?yb18⟩) (by assumption) ?rb18
    case yb18 => intro w hSw; (try dsimp only at hSw); go_simp; (try with_reducible rfl)
    simp only [List.getElem_toArray, List.getElem_cons_zero, List.getElem_cons_succ, Act.put, List.setIfInBounds_toArray, List.set_cons_zero, List.set_cons_succ]
    refine wpAnyH_done (by kernel_rfl) ?_ _
    refine NoPanic.normal ?_
    have hfin : atOk j i r false = false := by rw [Hok.out]; rfl
    rw [hfin] at HQ
    refine HQ.out _ _ _ _ _ _ _ _ _ _ _ _ _ _ _ _ _ _ ?_ ?_
    · exact ((((((Fr.one A W 0 _).trans (Fr.one A _ 1 _)).trans (Fr.one A _ 2 _)).trans (Fr.one A _ 3 _)).trans (Fr.one A _ 4 _)).trans (Fr.one A _ 5 _)).drew
    · rw [hp_drew, hp_setCell, if_pos rfl, hp_setCell, if_pos rfl, hp_setCell, if_pos rfl, hp_setCell, if_pos rfl, hp_setCell, if_pos rfl, hp_setCell, if_pos rfl, HA.out]; first | rfl | (simp only [he]; rfl) | (simp only [he, hx]; rfl)
  · by_cases he : r.epoch = j.epoch
    · have he' : ((r.epoch : Int) == (j.epoch : Int)) = true := by simp [he]
      by_cases hx : r.index = i
      · have hx' : ((r.index : Int) == (i : Int)) = true := by simp [hx]
        refine wp_region_noPanic ?_
        refine wp_region_held_drew (S := (fun w' => w'.cell? ⟨jb, 1, none⟩ = some (.int .u32 j.epoch) ∧ w'.cell? ⟨B, 0, none⟩ = some (.int .u8 r.kind) ∧ w'.cell? ⟨B, 1, none⟩ = some (.int .u32 r.epoch) ∧ w'.cell? ⟨B, 2, none⟩ = some (.int .i64 r.index) ∧ w'.cell? ⟨B, 3, none⟩ = some (.int .i64 r.saga) ∧ w'.cell? ⟨B, 4, none⟩ = some (.int .i64 r.reply) ∧ w'.cell? ⟨B, 5, none⟩ = some (.slice sa sm sc) ∧ w'.frozen? ⟨A, 0, none⟩ = false ∧ w'.frozen? ⟨A, 1, none⟩ = false ∧ w'.frozen? ⟨A, 2, none⟩ = false ∧ w'.frozen? ⟨A, 3, none⟩ = false ∧ w'.frozen? ⟨A, 4, none⟩ = false ∧ w'.frozen? ⟨A, 5, none⟩ = false)) (by kernel_rfl) (by go_keep) (fun hHeld => ?_)
        refine wpAnyH_take (i := 0) (v := ?vc0) rfl (by kernel_rfl) (by kernel_rfl) (by kernel_rfl) (fun _ _ _ h => h) (Or.inl ⟨by rfl, ?yc0⟩) (by assumption) ?rc0
        case yc0 => intro w hSw; (try dsimp only at hSw); go_simp; (try with_reducible rfl)
        simp only [List.getElem_toArray, List.getElem_cons_zero, List.getElem_cons_succ, Act.put, List.setIfInBounds_toArray, List.set_cons_zero, List.set_cons_succ]
        refine wpAnyH_take (i := 1) (v := ?vc1) rfl (by kernel_rfl) (by kernel_rfl) (by kernel_rfl) (fun _ _ _ h => h) (Or.inl ⟨by rfl, ?yc1⟩) (by assumption) ?rc1
        case yc1 => intro w hSw; (try dsimp only at hSw); go_simp; (try with_reducible rfl)
        simp only [List.getElem_toArray, List.getElem_cons_zero, List.getElem_cons_succ, Act.put, List.setIfInBounds_toArray, List.set_cons_zero, List.set_cons_succ]
        refine wpAnyH_take (i := 2) (v := ?vc2) rfl (by kernel_rfl) (by kernel_rfl) (by kernel_rfl) (fun _ _ _ h => h) (Or.inl ⟨by rfl, ?yc2⟩) (by assumption) ?rc2
        case yc2 => intro w hSw; (try dsimp only at hSw); go_simp; (try with_reducible rfl)
        simp only [List.getElem_toArray, List.getElem_cons_zero, List.getElem_cons_succ, Act.put, List.setIfInBounds_toArray, List.set_cons_zero, List.set_cons_succ]
        refine wpAnyH_take (i := 3) (v := ?vc3) rfl (by kernel_rfl) (by kernel_rfl) (by kernel_rfl) (fun _ _ _ h => h) (Or.inl ⟨by rfl, ?yc3⟩) (by assumption) ?rc3
        case yc3 => intro w hSw; (try dsimp only at hSw); go_simp; (try with_reducible rfl)
        simp only [List.getElem_toArray, List.getElem_cons_zero, List.getElem_cons_succ, Act.put, List.setIfInBounds_toArray, List.set_cons_zero, List.set_cons_succ]
        refine wpAnyH_take (i := 4) (v := ?vc4) rfl (by kernel_rfl) (by kernel_rfl) (by kernel_rfl) (fun _ _ _ h => h) (Or.inl ⟨by rfl, ?yc4⟩) (by assumption) ?rc4
        case yc4 => intro w hSw; (try dsimp only at hSw); go_simp; (try with_reducible rfl)
        simp only [List.getElem_toArray, List.getElem_cons_zero, List.getElem_cons_succ, Act.put, List.setIfInBounds_toArray, List.set_cons_zero, List.set_cons_succ]
        refine wpAnyH_take (i := 5) (v := ?vc5) rfl (by kernel_rfl) (by kernel_rfl) (by kernel_rfl) (fun _ _ _ h => h) (Or.inl ⟨by rfl, ?yc5⟩) (by assumption) ?rc5
        case yc5 => intro w hSw; (try dsimp only at hSw); go_simp; (try with_reducible rfl)
        simp only [List.getElem_toArray, List.getElem_cons_zero, List.getElem_cons_succ, Act.put, List.setIfInBounds_toArray, List.set_cons_zero, List.set_cons_succ]
        refine wpAnyH_take (i := 6) (v := ?vc6) rfl (by kernel_rfl) (by kernel_rfl) (by kernel_rfl) (fun _ _ _ h => h) (Or.inl ⟨by rfl, ?yc6⟩) (by assumption) ?rc6
        case yc6 => intro w hSw; (try dsimp only at hSw); go_simp; (try with_reducible rfl)
        simp only [List.getElem_toArray, List.getElem_cons_zero, List.getElem_cons_succ, Act.put, List.setIfInBounds_toArray, List.set_cons_zero, List.set_cons_succ]
        refine wpAnyH_take (i := 7) (v := ?vc7) rfl (by kernel_rfl) (by kernel_rfl) (by kernel_rfl) (fun _ _ _ h => h) (Or.inl ⟨by rfl, ?yc7⟩) (by assumption) ?rc7
        case yc7 => intro w hSw; (try dsimp only at hSw); go_simp; (try with_reducible rfl)
        simp only [List.getElem_toArray, List.getElem_cons_zero, List.getElem_cons_succ, Act.put, List.setIfInBounds_toArray, List.set_cons_zero, List.set_cons_succ]
        refine wpAnyH_take (i := 8) (v := ?vc8) rfl (by kernel_rfl) (by kernel_rfl) (by kernel_rfl) (fun _ _ _ h => h) (Or.inl ⟨by rfl, ?yc8⟩) (by assumption) ?rc8
        case yc8 => intro w hSw; (try dsimp only at hSw); go_simp; (try with_reducible rfl)
        simp only [List.getElem_toArray, List.getElem_cons_zero, List.getElem_cons_succ, Act.put, List.setIfInBounds_toArray, List.set_cons_zero, List.set_cons_succ]
        refine wpAnyH_take (i := 9) (v := ?vc9) rfl (by kernel_rfl) (by kernel_rfl) (by kernel_rfl) (fun _ _ _ h => h) (Or.inl ⟨by rfl, ?yc9⟩) (by assumption) ?rc9
        case yc9 => intro w hSw; (try dsimp only at hSw); go_simp; (try with_reducible rfl)
        simp only [List.getElem_toArray, List.getElem_cons_zero, List.getElem_cons_succ, Act.put, List.setIfInBounds_toArray, List.set_cons_zero, List.set_cons_succ]
        refine wpAnyH_take (i := 10) (v := ?vc10) rfl (by kernel_rfl) (by kernel_rfl) (by kernel_rfl) (fun _ _ _ h => h) (Or.inl ⟨by rfl, ?yc10⟩) (by assumption) ?rc10
        case yc10 => intro w hSw; (try dsimp only at hSw); go_simp; (try with_reducible rfl)
        simp only [List.getElem_toArray, List.getElem_cons_zero, List.getElem_cons_succ, Act.put, List.setIfInBounds_toArray, List.set_cons_zero, List.set_cons_succ]
        refine wpAnyH_take (i := 11) (v := ?vc11) rfl (by kernel_rfl) (by kernel_rfl) (by kernel_rfl) (fun _ _ _ h => h) (Or.inl ⟨by rfl, ?yc11⟩) (by assumption) ?rc11
        case yc11 => intro w hSw; (try dsimp only at hSw); go_simp; (try with_reducible rfl)
        simp only [List.getElem_toArray, List.getElem_cons_zero, List.getElem_cons_succ, Act.put, List.setIfInBounds_toArray, List.set_cons_zero, List.set_cons_succ]
        refine wpAnyH_take (i := 12) (v := ?vc12) rfl (by kernel_rfl) (by kernel_rfl) (by kernel_rfl) (fun _ _ _ h => h) (Or.inl ⟨by rfl, ?yc12⟩) (by assumption) ?rc12
        case yc12 => intro w hSw; (try dsimp only at hSw); go_simp; (try with_reducible rfl)
        simp only [List.getElem_toArray, List.getElem_cons_zero, List.getElem_cons_succ, Act.put, List.setIfInBounds_toArray, List.set_cons_zero, List.set_cons_succ]
        refine wpAnyH_take (i := 13) (v := ?vc13) rfl (by kernel_rfl) (by kernel_rfl) (by kernel_rfl) (fun _ _ _ h => h) (Or.inl ⟨by rfl, ?yc13⟩) (by assumption) ?rc13
        case yc13 => intro w hSw; (try dsimp only at hSw); go_simp; (try with_reducible rfl)
        simp only [List.getElem_toArray, List.getElem_cons_zero, List.getElem_cons_succ, Act.put, List.setIfInBounds_toArray, List.set_cons_zero, List.set_cons_succ]
        refine wpAnyH_take (i := 14) (v := ?vc14) rfl (by kernel_rfl) (by kernel_rfl) (by kernel_rfl) (fun _ _ _ h => h) (Or.inl ⟨by rfl, ?yc14⟩) (by assumption) ?rc14
        case yc14 => intro w hSw; (try dsimp only at hSw); go_simp; (try with_reducible rfl)
        simp only [List.getElem_toArray, List.getElem_cons_zero, List.getElem_cons_succ, Act.put, List.setIfInBounds_toArray, List.set_cons_zero, List.set_cons_succ]
        refine wpAnyH_take (i := 15) (v := ?vc15) rfl (by kernel_rfl) (by kernel_rfl) (by kernel_rfl) (fun _ _ _ h => h) (Or.inl ⟨by rfl, ?yc15⟩) (by assumption) ?rc15
        case yc15 => intro w hSw; (try dsimp only at hSw); go_simp; (try with_reducible rfl)
        simp only [List.getElem_toArray, List.getElem_cons_zero, List.getElem_cons_succ, Act.put, List.setIfInBounds_toArray, List.set_cons_zero, List.set_cons_succ]
        refine wpAnyH_take (i := 16) (v := ?vc16) rfl (by kernel_rfl) (by kernel_rfl) (by kernel_rfl) (fun _ _ _ h => h) (Or.inl ⟨by rfl, ?yc16⟩) (by assumption) ?rc16
        case yc16 => intro w hSw; (try dsimp only at hSw); go_simp; (try with_reducible rfl)
        simp only [List.getElem_toArray, List.getElem_cons_zero, List.getElem_cons_succ, Act.put, List.setIfInBounds_toArray, List.set_cons_zero, List.set_cons_succ]
        refine wpAnyH_ready (rs := [17]) (by kernel_rfl) (by simp) ?_
        refine AllReadyH.cons rfl (fun K hK => ?_) AllReadyH.nil
        go_simp
        refine Shut.out hK _ _ ?Sc ?restc
        case Sc => go_keep
        clear hK K
        intro hHeld2
        clear hHeld
        try simp only [List.getElem_toArray, List.getElem_cons_zero, List.getElem_cons_succ, Act.put, List.setIfInBounds_toArray, List.set_cons_zero, List.set_cons_succ]
        refine wpAnyH_take (i := 18) (v := ?vc18) rfl (by kernel_rfl) (by kernel_rfl) (by kernel_rfl) (fun _ _ _ h => h) (Or.inl ⟨by rfl, ?yc18⟩) (by assumption) ?rc18
        case yc18 => intro w hSw; (try dsimp only at hSw); go_simp; (try with_reducible rfl)
        simp only [List.getElem_toArray, List.getElem_cons_zero, List.getElem_cons_succ, Act.put, List.setIfInBounds_toArray, List.set_cons_zero, List.set_cons_succ]
        refine wpAnyH_done (by kernel_rfl) ?_ _
        refine NoPanic.normal ?_
        have hfin : atOk j i r true = true := by rw [Hok.out]; simp [he, hx]
        rw [hfin] at HQ
        refine HQ.out _ _ _ _ _ _ _ _ _ _ _ _ _ _ _ _ _ _ ?_ ?_
        · exact ((((((Fr.one A W 0 _).trans (Fr.one A _ 1 _)).trans (Fr.one A _ 2 _)).trans (Fr.one A _ 3 _)).trans (Fr.one A _ 4 _)).trans (Fr.one A _ 5 _)).drew
        · rw [hp_drew, hp_setCell, if_pos rfl, hp_setCell, if_pos rfl, hp_setCell, if_pos rfl, hp_setCell, if_pos rfl, hp_setCell, if_pos rfl, hp_setCell, if_pos rfl, HA.out]; first | rfl | (simp only [he]; rfl) | (simp only [he, hx]; rfl)
      · have hx' : ((r.index : Int) == (i : Int)) = false := by simp; omega
        refine wp_region_noPanic ?_
        refine wp_region_held_drew (S := (fun w' => w'.cell? ⟨jb, 1, none⟩ = some (.int .u32 j.epoch) ∧ w'.cell? ⟨B, 0, none⟩ = some (.int .u8 r.kind) ∧ w'.cell? ⟨B, 1, none⟩ = some (.int .u32 r.epoch) ∧ w'.cell? ⟨B, 2, none⟩ = some (.int .i64 r.index) ∧ w'.cell? ⟨B, 3, none⟩ = some (.int .i64 r.saga) ∧ w'.cell? ⟨B, 4, none⟩ = some (.int .i64 r.reply) ∧ w'.cell? ⟨B, 5, none⟩ = some (.slice sa sm sc) ∧ w'.frozen? ⟨A, 0, none⟩ = false ∧ w'.frozen? ⟨A, 1, none⟩ = false ∧ w'.frozen? ⟨A, 2, none⟩ = false ∧ w'.frozen? ⟨A, 3, none⟩ = false ∧ w'.frozen? ⟨A, 4, none⟩ = false ∧ w'.frozen? ⟨A, 5, none⟩ = false)) (by kernel_rfl) (by go_keep) (fun hHeld => ?_)
        refine wpAnyH_take (i := 0) (v := ?vd0) rfl (by kernel_rfl) (by kernel_rfl) (by kernel_rfl) (fun _ _ _ h => h) (Or.inl ⟨by rfl, ?yd0⟩) (by assumption) ?rd0
        case yd0 => intro w hSw; (try dsimp only at hSw); go_simp; (try with_reducible rfl)
        simp only [List.getElem_toArray, List.getElem_cons_zero, List.getElem_cons_succ, Act.put, List.setIfInBounds_toArray, List.set_cons_zero, List.set_cons_succ]
        refine wpAnyH_take (i := 1) (v := ?vd1) rfl (by kernel_rfl) (by kernel_rfl) (by kernel_rfl) (fun _ _ _ h => h) (Or.inl ⟨by rfl, ?yd1⟩) (by assumption) ?rd1
        case yd1 => intro w hSw; (try dsimp only at hSw); go_simp; (try with_reducible rfl)
        simp only [List.getElem_toArray, List.getElem_cons_zero, List.getElem_cons_succ, Act.put, List.setIfInBounds_toArray, List.set_cons_zero, List.set_cons_succ]
        refine wpAnyH_take (i := 2) (v := ?vd2) rfl (by kernel_rfl) (by kernel_rfl) (by kernel_rfl) (fun _ _ _ h => h) (Or.inl ⟨by rfl, ?yd2⟩) (by assumption) ?rd2
        case yd2 => intro w hSw; (try dsimp only at hSw); go_simp; (try with_reducible rfl)
        simp only [List.getElem_toArray, List.getElem_cons_zero, List.getElem_cons_succ, Act.put, List.setIfInBounds_toArray, List.set_cons_zero, List.set_cons_succ]
        refine wpAnyH_take (i := 3) (v := ?vd3) rfl (by kernel_rfl) (by kernel_rfl) (by kernel_rfl) (fun _ _ _ h => h) (Or.inl ⟨by rfl, ?yd3⟩) (by assumption) ?rd3
        case yd3 => intro w hSw; (try dsimp only at hSw); go_simp; (try with_reducible rfl)
        simp only [List.getElem_toArray, List.getElem_cons_zero, List.getElem_cons_succ, Act.put, List.setIfInBounds_toArray, List.set_cons_zero, List.set_cons_succ]
        refine wpAnyH_take (i := 4) (v := ?vd4) rfl (by kernel_rfl) (by kernel_rfl) (by kernel_rfl) (fun _ _ _ h => h) (Or.inl ⟨by rfl, ?yd4⟩) (by assumption) ?rd4
        case yd4 => intro w hSw; (try dsimp only at hSw); go_simp; (try with_reducible rfl)
        simp only [List.getElem_toArray, List.getElem_cons_zero, List.getElem_cons_succ, Act.put, List.setIfInBounds_toArray, List.set_cons_zero, List.set_cons_succ]
        refine wpAnyH_take (i := 5) (v := ?vd5) rfl (by kernel_rfl) (by kernel_rfl) (by kernel_rfl) (fun _ _ _ h => h) (Or.inl ⟨by rfl, ?yd5⟩) (by assumption) ?rd5
        case yd5 => intro w hSw; (try dsimp only at hSw); go_simp; (try with_reducible rfl)
        simp only [List.getElem_toArray, List.getElem_cons_zero, List.getElem_cons_succ, Act.put, List.setIfInBounds_toArray, List.set_cons_zero, List.set_cons_succ]
        refine wpAnyH_take (i := 6) (v := ?vd6) rfl (by kernel_rfl) (by kernel_rfl) (by kernel_rfl) (fun _ _ _ h => h) (Or.inl ⟨by rfl, ?yd6⟩) (by assumption) ?rd6
        case yd6 => intro w hSw; (try dsimp only at hSw); go_simp; (try with_reducible rfl)
        simp only [List.getElem_toArray, List.getElem_cons_zero, List.getElem_cons_succ, Act.put, List.setIfInBounds_toArray, List.set_cons_zero, List.set_cons_succ]
        refine wpAnyH_take (i := 7) (v := ?vd7) rfl (by kernel_rfl) (by kernel_rfl) (by kernel_rfl) (fun _ _ _ h => h) (Or.inl ⟨by rfl, ?yd7⟩) (by assumption) ?rd7
        case yd7 => intro w hSw; (try dsimp only at hSw); go_simp; (try with_reducible rfl)
        simp only [List.getElem_toArray, List.getElem_cons_zero, List.getElem_cons_succ, Act.put, List.setIfInBounds_toArray, List.set_cons_zero, List.set_cons_succ]
        refine wpAnyH_take (i := 8) (v := ?vd8) rfl (by kernel_rfl) (by kernel_rfl) (by kernel_rfl) (fun _ _ _ h => h) (Or.inl ⟨by rfl, ?yd8⟩) (by assumption) ?rd8
        case yd8 => intro w hSw; (try dsimp only at hSw); go_simp; (try with_reducible rfl)
        simp only [List.getElem_toArray, List.getElem_cons_zero, List.getElem_cons_succ, Act.put, List.setIfInBounds_toArray, List.set_cons_zero, List.set_cons_succ]
        refine wpAnyH_take (i := 9) (v := ?vd9) rfl (by kernel_rfl) (by kernel_rfl) (by kernel_rfl) (fun _ _ _ h => h) (Or.inl ⟨by rfl, ?yd9⟩) (by assumption) ?rd9
        case yd9 => intro w hSw; (try dsimp only at hSw); go_simp; (try with_reducible rfl)
        simp only [List.getElem_toArray, List.getElem_cons_zero, List.getElem_cons_succ, Act.put, List.setIfInBounds_toArray, List.set_cons_zero, List.set_cons_succ]
        refine wpAnyH_take (i := 10) (v := ?vd10) rfl (by kernel_rfl) (by kernel_rfl) (by kernel_rfl) (fun _ _ _ h => h) (Or.inl ⟨by rfl, ?yd10⟩) (by assumption) ?rd10
        case yd10 => intro w hSw; (try dsimp only at hSw); go_simp; (try with_reducible rfl)
        simp only [List.getElem_toArray, List.getElem_cons_zero, List.getElem_cons_succ, Act.put, List.setIfInBounds_toArray, List.set_cons_zero, List.set_cons_succ]
        refine wpAnyH_take (i := 11) (v := ?vd11) rfl (by kernel_rfl) (by kernel_rfl) (by kernel_rfl) (fun _ _ _ h => h) (Or.inl ⟨by rfl, ?yd11⟩) (by assumption) ?rd11
        case yd11 => intro w hSw; (try dsimp only at hSw); go_simp; (try with_reducible rfl)
        simp only [List.getElem_toArray, List.getElem_cons_zero, List.getElem_cons_succ, Act.put, List.setIfInBounds_toArray, List.set_cons_zero, List.set_cons_succ]
        refine wpAnyH_take (i := 12) (v := ?vd12) rfl (by kernel_rfl) (by kernel_rfl) (by kernel_rfl) (fun _ _ _ h => h) (Or.inl ⟨by rfl, ?yd12⟩) (by assumption) ?rd12
        case yd12 => intro w hSw; (try dsimp only at hSw); go_simp; (try with_reducible rfl)
        simp only [List.getElem_toArray, List.getElem_cons_zero, List.getElem_cons_succ, Act.put, List.setIfInBounds_toArray, List.set_cons_zero, List.set_cons_succ]
        refine wpAnyH_take (i := 13) (v := ?vd13) rfl (by kernel_rfl) (by kernel_rfl) (by kernel_rfl) (fun _ _ _ h => h) (Or.inl ⟨by rfl, ?yd13⟩) (by assumption) ?rd13
        case yd13 => intro w hSw; (try dsimp only at hSw); go_simp; (try with_reducible rfl)
        simp only [List.getElem_toArray, List.getElem_cons_zero, List.getElem_cons_succ, Act.put, List.setIfInBounds_toArray, List.set_cons_zero, List.set_cons_succ]
        refine wpAnyH_take (i := 14) (v := ?vd14) rfl (by kernel_rfl) (by kernel_rfl) (by kernel_rfl) (fun _ _ _ h => h) (Or.inl ⟨by rfl, ?yd14⟩) (by assumption) ?rd14
        case yd14 => intro w hSw; (try dsimp only at hSw); go_simp; (try with_reducible rfl)
        simp only [List.getElem_toArray, List.getElem_cons_zero, List.getElem_cons_succ, Act.put, List.setIfInBounds_toArray, List.set_cons_zero, List.set_cons_succ]
        refine wpAnyH_take (i := 15) (v := ?vd15) rfl (by kernel_rfl) (by kernel_rfl) (by kernel_rfl) (fun _ _ _ h => h) (Or.inl ⟨by rfl, ?yd15⟩) (by assumption) ?rd15
        case yd15 => intro w hSw; (try dsimp only at hSw); go_simp; (try with_reducible rfl)
        simp only [List.getElem_toArray, List.getElem_cons_zero, List.getElem_cons_succ, Act.put, List.setIfInBounds_toArray, List.set_cons_zero, List.set_cons_succ]
        refine wpAnyH_take (i := 16) (v := ?vd16) rfl (by kernel_rfl) (by kernel_rfl) (by kernel_rfl) (fun _ _ _ h => h) (Or.inl ⟨by rfl, ?yd16⟩) (by assumption) ?rd16
        case yd16 => intro w hSw; (try dsimp only at hSw); go_simp; (try with_reducible rfl)
        simp only [List.getElem_toArray, List.getElem_cons_zero, List.getElem_cons_succ, Act.put, List.setIfInBounds_toArray, List.set_cons_zero, List.set_cons_succ]
        refine wpAnyH_ready (rs := [17]) (by kernel_rfl) (by simp) ?_
        refine AllReadyH.cons rfl (fun K hK => ?_) AllReadyH.nil
        go_simp
        refine Shut.out hK _ _ ?Sd ?restd
        case Sd => go_keep
        clear hK K
        intro hHeld2
        clear hHeld
        try simp only [List.getElem_toArray, List.getElem_cons_zero, List.getElem_cons_succ, Act.put, List.setIfInBounds_toArray, List.set_cons_zero, List.set_cons_succ]
        refine wpAnyH_take (i := 18) (v := ?vd18) rfl (by kernel_rfl) (by kernel_rfl) (by kernel_rfl) (fun _ _ _ h => h) (Or.inl ⟨by rfl, ?yd18⟩) (by assumption) ?rd18
        case yd18 => intro w hSw; (try dsimp only at hSw); go_simp; (try with_reducible rfl)
        simp only [List.getElem_toArray, List.getElem_cons_zero, List.getElem_cons_succ, Act.put, List.setIfInBounds_toArray, List.set_cons_zero, List.set_cons_succ]
        refine wpAnyH_done (by kernel_rfl) ?_ _
        refine NoPanic.normal ?_
        have hfin : atOk j i r true = false := by rw [Hok.out]; simp [he, hx]
        rw [hfin] at HQ
        refine HQ.out _ _ _ _ _ _ _ _ _ _ _ _ _ _ _ _ _ _ ?_ ?_
        · exact ((((((Fr.one A W 0 _).trans (Fr.one A _ 1 _)).trans (Fr.one A _ 2 _)).trans (Fr.one A _ 3 _)).trans (Fr.one A _ 4 _)).trans (Fr.one A _ 5 _)).drew
        · rw [hp_drew, hp_setCell, if_pos rfl, hp_setCell, if_pos rfl, hp_setCell, if_pos rfl, hp_setCell, if_pos rfl, hp_setCell, if_pos rfl, hp_setCell, if_pos rfl, HA.out]; first | rfl | (simp only [he]; rfl) | (simp only [he, hx]; rfl)
    · have he' : ((r.epoch : Int) == (j.epoch : Int)) = false := by simp; omega
      refine wp_region_noPanic ?_
      refine wp_region_held_drew (S := (fun w' => w'.cell? ⟨jb, 1, none⟩ = some (.int .u32 j.epoch) ∧ w'.cell? ⟨B, 0, none⟩ = some (.int .u8 r.kind) ∧ w'.cell? ⟨B, 1, none⟩ = some (.int .u32 r.epoch) ∧ w'.cell? ⟨B, 2, none⟩ = some (.int .i64 r.index) ∧ w'.cell? ⟨B, 3, none⟩ = some (.int .i64 r.saga) ∧ w'.cell? ⟨B, 4, none⟩ = some (.int .i64 r.reply) ∧ w'.cell? ⟨B, 5, none⟩ = some (.slice sa sm sc) ∧ w'.frozen? ⟨A, 0, none⟩ = false ∧ w'.frozen? ⟨A, 1, none⟩ = false ∧ w'.frozen? ⟨A, 2, none⟩ = false ∧ w'.frozen? ⟨A, 3, none⟩ = false ∧ w'.frozen? ⟨A, 4, none⟩ = false ∧ w'.frozen? ⟨A, 5, none⟩ = false)) (by kernel_rfl) (by go_keep) (fun hHeld => ?_)
      refine wpAnyH_take (i := 0) (v := ?ve0) rfl (by kernel_rfl) (by kernel_rfl) (by kernel_rfl) (fun _ _ _ h => h) (Or.inl ⟨by rfl, ?ye0⟩) (by assumption) ?re0
      case ye0 => intro w hSw; (try dsimp only at hSw); go_simp; (try with_reducible rfl)
      simp only [List.getElem_toArray, List.getElem_cons_zero, List.getElem_cons_succ, Act.put, List.setIfInBounds_toArray, List.set_cons_zero, List.set_cons_succ]
      refine wpAnyH_take (i := 1) (v := ?ve1) rfl (by kernel_rfl) (by kernel_rfl) (by kernel_rfl) (fun _ _ _ h => h) (Or.inl ⟨by rfl, ?ye1⟩) (by assumption) ?re1
      case ye1 => intro w hSw; (try dsimp only at hSw); go_simp; (try with_reducible rfl)
      simp only [List.getElem_toArray, List.getElem_cons_zero, List.getElem_cons_succ, Act.put, List.setIfInBounds_toArray, List.set_cons_zero, List.set_cons_succ]
      refine wpAnyH_take (i := 2) (v := ?ve2) rfl (by kernel_rfl) (by kernel_rfl) (by kernel_rfl) (fun _ _ _ h => h) (Or.inl ⟨by rfl, ?ye2⟩) (by assumption) ?re2
      case ye2 => intro w hSw; (try dsimp only at hSw); go_simp; (try with_reducible rfl)
      simp only [List.getElem_toArray, List.getElem_cons_zero, List.getElem_cons_succ, Act.put, List.setIfInBounds_toArray, List.set_cons_zero, List.set_cons_succ]
      refine wpAnyH_take (i := 3) (v := ?ve3) rfl (by kernel_rfl) (by kernel_rfl) (by kernel_rfl) (fun _ _ _ h => h) (Or.inl ⟨by rfl, ?ye3⟩) (by assumption) ?re3
      case ye3 => intro w hSw; (try dsimp only at hSw); go_simp; (try with_reducible rfl)
      simp only [List.getElem_toArray, List.getElem_cons_zero, List.getElem_cons_succ, Act.put, List.setIfInBounds_toArray, List.set_cons_zero, List.set_cons_succ]
      refine wpAnyH_take (i := 4) (v := ?ve4) rfl (by kernel_rfl) (by kernel_rfl) (by kernel_rfl) (fun _ _ _ h => h) (Or.inl ⟨by rfl, ?ye4⟩) (by assumption) ?re4
      case ye4 => intro w hSw; (try dsimp only at hSw); go_simp; (try with_reducible rfl)
      simp only [List.getElem_toArray, List.getElem_cons_zero, List.getElem_cons_succ, Act.put, List.setIfInBounds_toArray, List.set_cons_zero, List.set_cons_succ]
      refine wpAnyH_take (i := 5) (v := ?ve5) rfl (by kernel_rfl) (by kernel_rfl) (by kernel_rfl) (fun _ _ _ h => h) (Or.inl ⟨by rfl, ?ye5⟩) (by assumption) ?re5
      case ye5 => intro w hSw; (try dsimp only at hSw); go_simp; (try with_reducible rfl)
      simp only [List.getElem_toArray, List.getElem_cons_zero, List.getElem_cons_succ, Act.put, List.setIfInBounds_toArray, List.set_cons_zero, List.set_cons_succ]
      refine wpAnyH_take (i := 6) (v := ?ve6) rfl (by kernel_rfl) (by kernel_rfl) (by kernel_rfl) (fun _ _ _ h => h) (Or.inl ⟨by rfl, ?ye6⟩) (by assumption) ?re6
      case ye6 => intro w hSw; (try dsimp only at hSw); go_simp; (try with_reducible rfl)
      simp only [List.getElem_toArray, List.getElem_cons_zero, List.getElem_cons_succ, Act.put, List.setIfInBounds_toArray, List.set_cons_zero, List.set_cons_succ]
      refine wpAnyH_take (i := 7) (v := ?ve7) rfl (by kernel_rfl) (by kernel_rfl) (by kernel_rfl) (fun _ _ _ h => h) (Or.inl ⟨by rfl, ?ye7⟩) (by assumption) ?re7
      case ye7 => intro w hSw; (try dsimp only at hSw); go_simp; (try with_reducible rfl)
      simp only [List.getElem_toArray, List.getElem_cons_zero, List.getElem_cons_succ, Act.put, List.setIfInBounds_toArray, List.set_cons_zero, List.set_cons_succ]
      refine wpAnyH_take (i := 8) (v := ?ve8) rfl (by kernel_rfl) (by kernel_rfl) (by kernel_rfl) (fun _ _ _ h => h) (Or.inl ⟨by rfl, ?ye8⟩) (by assumption) ?re8
      case ye8 => intro w hSw; (try dsimp only at hSw); go_simp; (try with_reducible rfl)
      simp only [List.getElem_toArray, List.getElem_cons_zero, List.getElem_cons_succ, Act.put, List.setIfInBounds_toArray, List.set_cons_zero, List.set_cons_succ]
      refine wpAnyH_take (i := 9) (v := ?ve9) rfl (by kernel_rfl) (by kernel_rfl) (by kernel_rfl) (fun _ _ _ h => h) (Or.inl ⟨by rfl, ?ye9⟩) (by assumption) ?re9
      case ye9 => intro w hSw; (try dsimp only at hSw); go_simp; (try with_reducible rfl)
      simp only [List.getElem_toArray, List.getElem_cons_zero, List.getElem_cons_succ, Act.put, List.setIfInBounds_toArray, List.set_cons_zero, List.set_cons_succ]
      refine wpAnyH_take (i := 10) (v := ?ve10) rfl (by kernel_rfl) (by kernel_rfl) (by kernel_rfl) (fun _ _ _ h => h) (Or.inl ⟨by rfl, ?ye10⟩) (by assumption) ?re10
      case ye10 => intro w hSw; (try dsimp only at hSw); go_simp; (try with_reducible rfl)
      simp only [List.getElem_toArray, List.getElem_cons_zero, List.getElem_cons_succ, Act.put, List.setIfInBounds_toArray, List.set_cons_zero, List.set_cons_succ]
      refine wpAnyH_take (i := 11) (v := ?ve11) rfl (by kernel_rfl) (by kernel_rfl) (by kernel_rfl) (fun _ _ _ h => h) (Or.inl ⟨by rfl, ?ye11⟩) (by assumption) ?re11
      case ye11 => intro w hSw; (try dsimp only at hSw); go_simp; (try with_reducible rfl)
      simp only [List.getElem_toArray, List.getElem_cons_zero, List.getElem_cons_succ, Act.put, List.setIfInBounds_toArray, List.set_cons_zero, List.set_cons_succ]
      refine wpAnyH_take (i := 12) (v := undef) rfl (by kernel_rfl) (by kernel_rfl) (by kernel_rfl) (fun _ _ _ h => h) (Or.inr ⟨by rfl, rfl⟩) (by assumption) ?_
      simp only [List.getElem_toArray, List.getElem_cons_zero, List.getElem_cons_succ, Act.put, List.setIfInBounds_toArray, List.set_cons_zero, List.set_cons_succ]
      refine wpAnyH_take (i := 13) (v := undef) rfl (by kernel_rfl) (by kernel_rfl) (by kernel_rfl) (fun _ _ _ h => h) (Or.inr ⟨by rfl, rfl⟩) (by assumption) ?_
      simp only [List.getElem_toArray, List.getElem_cons_zero, List.getElem_cons_succ, Act.put, List.setIfInBounds_toArray, List.set_cons_zero, List.set_cons_succ]
      refine wpAnyH_take (i := 14) (v := undef) rfl (by kernel_rfl) (by kernel_rfl) (by kernel_rfl) (fun _ _ _ h => h) (Or.inr ⟨by rfl, rfl⟩) (by assumption) ?_
      simp only [List.getElem_toArray, List.getElem_cons_zero, List.getElem_cons_succ, Act.put, List.setIfInBounds_toArray, List.set_cons_zero, List.set_cons_succ]
      refine wpAnyH_take (i := 15) (v := undef) rfl (by kernel_rfl) (by kernel_rfl) (by kernel_rfl) (fun _ _ _ h => h) (Or.inr ⟨by rfl, rfl⟩) (by assumption) ?_
      simp only [List.getElem_toArray, List.getElem_cons_zero, List.getElem_cons_succ, Act.put, List.setIfInBounds_toArray, List.set_cons_zero, List.set_cons_succ]
      refine wpAnyH_take (i := 16) (v := ?ve16) rfl (by kernel_rfl) (by kernel_rfl) (by kernel_rfl) (fun _ _ _ h => h) (Or.inl ⟨by rfl, ?ye16⟩) (by assumption) ?re16
      case ye16 => intro w hSw; (try dsimp only at hSw); go_simp; (try with_reducible rfl)
      simp only [List.getElem_toArray, List.getElem_cons_zero, List.getElem_cons_succ, Act.put, List.setIfInBounds_toArray, List.set_cons_zero, List.set_cons_succ]
      refine wpAnyH_ready (rs := [17]) (by kernel_rfl) (by simp) ?_
      refine AllReadyH.cons rfl (fun K hK => ?_) AllReadyH.nil
      go_simp
      refine Shut.out hK _ _ ?Se ?reste
      case Se => go_keep
      clear hK K
      intro hHeld2
      clear hHeld
      try simp only [List.getElem_toArray, List.getElem_cons_zero, List.getElem_cons_succ, Act.put, List.setIfInBounds_toArray, List.set_cons_zero, List.set_cons_succ]
      refine wpAnyH_take (i := 18) (v := ?ve18) rfl (by kernel_rfl) (by kernel_rfl) (by kernel_rfl) (fun _ _ _ h => h) (Or.inl ⟨by rfl, ?ye18⟩) (by assumption) ?re18
      case ye18 => intro w hSw; (try dsimp only at hSw); go_simp; (try with_reducible rfl)
      simp only [List.getElem_toArray, List.getElem_cons_zero, List.getElem_cons_succ, Act.put, List.setIfInBounds_toArray, List.set_cons_zero, List.set_cons_succ]
      refine wpAnyH_done (by kernel_rfl) ?_ _
      refine NoPanic.normal ?_
      have hfin : atOk j i r true = false := by rw [Hok.out]; simp [he]
      rw [hfin] at HQ
      refine HQ.out _ _ _ _ _ _ _ _ _ _ _ _ _ _ _ _ _ _ ?_ ?_
      · exact ((((((Fr.one A W 0 _).trans (Fr.one A _ 1 _)).trans (Fr.one A _ 2 _)).trans (Fr.one A _ 3 _)).trans (Fr.one A _ 4 _)).trans (Fr.one A _ 5 _)).drew
      · rw [hp_drew, hp_setCell, if_pos rfl, hp_setCell, if_pos rfl, hp_setCell, if_pos rfl, hp_setCell, if_pos rfl, hp_setCell, if_pos rfl, hp_setCell, if_pos rfl, HA.out]; first | rfl | (simp only [he]; rfl) | (simp only [he, hx]; rfl)
def AtPost (w : World) (db bb : Nat) (d : DiskM) (r : RecM) (ok : Bool) (e : Ending) (w' : World) : Prop :=
  ∃ sv, e = .returned (.tuple #[.agg (rcells r.kind r.epoch r.index r.saga r.reply sv), .bool ok]) ∧ StepsVal w' w.heap.size sv r.steps ∧ DiskAt w' db bb d.count ∧ Fr (· = db) w w'
set_option maxRecDepth 100000 in
set_option maxHeartbeats 2000000 in
theorem at_calls {w : World} {jb db bb : Nat} {j : JnM} {d : DiskM} (hj : JnAt w jb db j) (h : DiskAt w db bb d) (hq : d.quiet) (i : Nat) (r : RecM) (ok : Bool) (hpm : parseM (d.look i) = some (r, ok)) (hi : i < d.blocks.length) :
    Calls Tryz.prog 106 #[.pointer (some ⟨jb, 0, none⟩), .int .i64 i] w (AtPost w db bb d r (atOk j i r ok)) := by
  have hlk := DiskM.look_length h.wf hi
  have hne := jn_ne hj h
  have hdl := disk_lt h
  have hjl := lt_of_hp hj
  have hd1 := h.new ((Fr.refl _ w).alloc (.cells #[.int .u8 0, .int .u32 0, .int .i64 0, .int .i64 0, .int .i64 0, .slice none 0 0] 91))
  have hj1 := heap_alloc_keep (.cells #[.int .u8 0, .int .u32 0, .int .i64 0, .int .i64 0, .int .i64 0, .slice none 0 0] 91) hj
  have hR1 := heap_alloc_new w (.cells #[.int .u8 0, .int .u32 0, .int .i64 0, .int .i64 0, .int .i64 0, .slice none 0 0] 91)
  have HF1 : Hid (New w (w.alloc (.cells #[.int .u8 0, .int .u32 0, .int .i64 0, .int .i64 0, .int .i64 0, .slice none 0 0] 91))) := (Fr.refl _ w).alloc _
  have HB := Lib.hid (Blocks_calls hd1)
  have hil : ¬ ((d.blocks.length : Int) ≤ i) := by omega
  have HRD := Lib.hid (read_quiet hd1 hq i hi)
  have Hlk := Lib.hid hlk
  have Hpm := Lib.hid hpm
  have Hne := Lib.hid hne
  have Hdl := Lib.hid hdl
  have Hjl := Lib.hid hjl
  have HR1 := Lib.hid hR1
  have Hj1 := Lib.hid hj1
  simp only [jnCells] at hj1
  clear hj h hq hpm hi hlk hne hdl hd1 hjl hR1
  go_enter Tryz.func106, Tryz.ntmps106
  go_upto_region 1 with fail
  generalize w.alloc (.cells #[.int .u8 0, .int .u32 0, .int .i64 0, .int .i64 0, .int .i64 0, .slice none 0 0] 91) = W1 at *
  have hcv := cellv W1
  go_upto_region 4 with (first
    | (go_at_call 177; refine Calls.mono HB.out ?_; rintro e w2 ⟨rfl, rfl⟩)
    | (go_at_call 105; refine Calls.mono HRD.out ?_; rintro e w2 ⟨g, hg, rfl, hgc, hd2, hf2⟩)
    | (go_at_call 104; refine Calls.mono (parse_calls w2 g _ 5 (d.look i) r ok Hlk.out hgc (by intro j hj; simp [Hlk.out, hj]) Hpm.out) ?_; rintro e w3 ⟨sv, rfl, hsv, hf3⟩; obtain ⟨sa, sm, sc, rfl⟩ := own_slice hsv; simp only [rcells])
    | fail)
  have hsv' := hsv
  have hszs : w.heap.size < W1.heap.size := lt_of_hp HR1.out
  have hj3 : w3.heap[jb]? = some (.cells (jnCells db j) 132 (0, 0)) := hf3.get (hf2.get Hj1.out (by have := Hne.out; omega)) (fun f => f)
  have hA3 := hf3.get (hf2.get HR1.out (by have := Hdl.out; omega)) (fun f => f)
  have hlt3 := lt_of_hp hA3
  have hj4 := heap_alloc_keep (.cells #[.int .u8 r.kind, .int .u32 r.epoch, .int .i64 r.index, .int .i64 r.saga, .int .i64 r.reply, .slice sa sm sc] 91) hj3
  have hA4 := heap_alloc_keep (.cells #[.int .u8 r.kind, .int .u32 r.epoch, .int .i64 r.index, .int .i64 r.saga, .int .i64 r.reply, .slice sa sm sc] 91) hA3
  have hB4 := heap_alloc_new w3 (.cells #[.int .u8 r.kind, .int .u32 r.epoch, .int .i64 r.index, .int .i64 r.saga, .int .i64 r.reply, .slice sa sm sc] 91)
  refine at_r4 jb db w.heap.size w3.heap.size i j r ok sa sm sc _ hj4 hA4 hB4 (by omega) ?_
  intros
  rename_i w5 hf5 hA5
  have hf13 : Fr (· = db) w (w3.alloc (.cells #[.int .u8 r.kind, .int .u32 r.epoch, .int .i64 r.index, .int .i64 r.saga, .int .i64 r.reply, .slice sa sm sc] 91)) :=
    ((HF1.out.mono (fun _ _ f => f.elim)).trans hf2).trans ((hf3.alloc _).mono (fun _ _ f => f.elim))
  have hF : Fr (· = db) w w5 := hf13.trans' hf5 (by rintro i hi e; omega)
  have hsv5 : StepsVal w5 w.heap.size (.slice sa sm sc) r.steps := by
    have h0 : StepsVal w3 w.heap.size (.slice sa sm sc) r.steps := ⟨hsv.1, by
      rcases hsv.2 with h | ⟨g, cap, cur, e1, e2, e3⟩
      · exact .inl h
      · exact .inr ⟨g, cap, cur, e1, by have := hf2.size; omega, e3⟩⟩
    have hk : FrK [92] w3 w5 := (((Fr.refl (fun _ => False) w3).alloc _).toK (fun _ _ f _ => f.elim)).trans (hf5.toK (by
      rintro k o rfl ho
      rw [hA4] at ho; cases ho; simp [kindOf]))
    exact own_keepK h0 hk (by decide)
  have hd5 : DiskAt w5 db bb d.count := (hd2.new (hf3.alloc _)).frame hf5 (by
    rintro k rfl
    have := Hdl.out
    exact ⟨by omega, by omega, _, hA4, by simp [kindOf]⟩)
  have Hfin := Lib.hid (show StepsVal w5 w.heap.size (.slice sa sm sc) r.steps ∧ DiskAt w5 db bb d.count ∧ Fr (· = db) w w5 from ⟨hsv5, hd5, hF⟩)
  clear hsv' hszs hj3 hA3 hlt3 hj4 hA4 hB4 hf13 hF hsv5 hd5 hsv hf2 hf3 hd2 hg hgc hcv hf5
  have hcv := cellv w5
  go_wp2_with fail
  refine bodyPost_ret (results_row_tmp rfl _ _ w.heap.size 91 (rcells r.kind r.epoch r.index r.saga r.reply (.slice sa sm sc)) (0, 0) _ rfl hA5 Tryz.underlying91 rfl Tryz.info91s) rfl ?_
  exact ⟨_, rfl, Hfin.out⟩
end Go.Proofs.YtkafmfdipmhleaaGreatDoor
