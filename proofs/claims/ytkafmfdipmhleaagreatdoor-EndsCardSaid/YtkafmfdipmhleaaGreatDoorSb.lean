/-
  What is proved: the contract of a Submit that is taken, on a disk that tells no errors.
-/
import Derived.Test.YtkafmfdipmhleaaGreatDoorSba
import Derived.Maps.OwnSet
import Derived.Maps.RangeWalk
namespace Go.Proofs.YtkafmfdipmhleaaGreatDoor
open Go.RowKit Go.Maps

theorem Tryz.keyed : Keyed Tryz.prog 3 := int_keyed Tryz.underlying3
def ptrV : Option Nat → Value
  | some b => .pointer (some ⟨b, 0, none⟩)
  | none => .pointer none
theorem ptrR_shape (v : Value) (y : DataW Unit × List MemPlace) (h : ptrR v = some y) : ∃ c, v = ptrV c := by
  unfold ptrR at h
  split at h
  · exact ⟨some _, rfl⟩
  · exact ⟨none, rfl⟩
  · cases h
theorem key_shape (key : Value) (kl : Lit) (h : keyOf Tryz.prog 3 key = some kl) : ∃ x : Int, key = .int .i64 x := by
  obtain ⟨x, rfl, _⟩ := Maps.keyOf_int_inv Tryz.underlying3 h
  exact ⟨x, rfl⟩
theorem has_of_mem {l : List SagaM} {bl : List Nat} (hl : bl.length = l.length) {g : SagaM} (hg : g ∈ l) : Maps.has (dataOf (ilOf l bl)) (.int .i64 g.id) = true := by
  have hm : g.id ∈ (ilOf l bl).map (·.1) := by
    unfold ilOf
    rw [List.map_fst_zip (by simp; omega)]
    exact List.mem_map_of_mem hg
  obtain ⟨p, hp, e⟩ := List.mem_map.1 hm
  simp only [Maps.has, dataOf]
  rw [List.any_map, List.any_eq_true]
  exact ⟨p, hp, by simp [Lit.sameKey, e]⟩
theorem dataOf_at' (L : List (Int × Nat)) (id : Int) (zd : DataW Unit) : (dataOf L).atKey (.int .i64 id) zd = match blkOfId L id with | some b => .lit (.int .i64 b) | none => zd := by
  induction L with
  | nil => rfl
  | cons a L ih =>
    simp only [dataOf, DataW.atKey, blkOfId, List.map_cons, List.find?_cons] at ih ⊢
    by_cases h : a.1 = id
    · simp [Lit.sameKey, h]
    · have h1 : Lit.sameKey (.int .i64 a.1) (.int .i64 id) = false := by simp [Lit.sameKey, h]
      rw [h1, decide_eq_false h]
      exact ih
theorem entry_of {l : List SagaM} {bl : List Nat} (hl : bl.length = l.length) {x : Int} {c : Option Nat} {y : DataW Unit} {ps : List MemPlace} (hy : ptrR (ptrV c) = some (y, ps)) (hat : ∀ zd, (dataOf (ilOf l bl)).atKey (.int .i64 x) zd = y) :
    ∃ (i : Nat) (g : SagaM) (b : Nat), l[i]? = some g ∧ bl[i]? = some b ∧ g.id = x ∧ c = some b := by
  cases hb : blkOfId (ilOf l bl) x with
  | none =>
    have h1 := hat .nil
    have h2 := hat (.lit (.int .i64 0))
    rw [dataOf_at', hb] at h1 h2
    simp only at h1 h2
    rw [← h1] at h2
    cases h2
  | some b =>
    have h1 := hat .nil
    rw [dataOf_at', hb] at h1
    simp only at h1
    subst h1
    have h3 := ptrR_inv hy
    obtain ⟨i, g, e1, e2, e3⟩ := il_find l bl hl x b hb
    refine ⟨i, g, b, e1, e2, e3, ?_⟩
    cases c with
    | none => simp [ptrV] at h3
    | some c => simp [ptrV] at h3; rw [h3]
theorem rest_le (l : List SagaM) (left : Lit → Bool) (h : ∀ g ∈ l, g.ok) : restSum l left ≤ leftSum l := by
  unfold restSum leftSum
  induction l with
  | nil => simp
  | cons a l ih =>
    have h1 := (h a (by simp)).left_nonneg
    have h2 := ih (fun g hg => h g (by simp [hg]))
    simp only [List.map_cons, List.sum_cons]
    cases left (.int .i64 a.id) <;> simp only [cond_true, cond_false] <;> omega
theorem sub_recs {w : World} {lb : Nat} {id : Int} {l : List (ByteArray × ByteArray)} {sv : Value} (hw : 1 ≤ id ∧ id ≤ 1000 ∧ smallSteps l) (hsv : ∃ a m c, sv = .slice a m c)
    (hlb : w.heap[lb]? = some (.cells #[.int .u8 2, .int .u32 0, .int .i64 0, .int .i64 id, .int .i64 0, sv, .int .u8 3, .int .u32 0, .int .i64 0, .int .i64 id, .int .i64 0, .slice none 0 0] 91 (0, 0))) (hst : StepsAt w sv l) :
    RecsAt w lb [bodyRec id l, takenRec id] := by
  refine ⟨?_, _, hlb, ?_⟩
  · intro r hr ep ix hep hix
    simp only [List.mem_cons, List.not_mem_nil, or_false] at hr
    rcases hr with rfl | rfl
    · exact ⟨by show 2 < 256; omega, hep, hix, by show id.toNat < 65536; omega, by show 0 < 256; omega, fun h => absurd rfl h, fun _ => hw.2.2⟩
    · exact ⟨by show 3 < 256; omega, hep, hix, by show id.toNat < 65536; omega, by show 0 < 256; omega, fun _ => rfl, fun h => by simp [placed, takenRec] at h⟩
  · intro k r hr
    have e1 : ((id.toNat : Nat) : Int) = id := by omega
    match k, hr with
    | 0, hr =>
      simp at hr
      subst hr
      refine ⟨sv, hsv, fun _ => hst, fun i hi => ?_⟩
      simp only [rcells, bodyRec, Nat.zero_mul, Nat.zero_add, e1]
      match i, hi with
      | 0, _ | 1, _ | 2, _ | 3, _ | 4, _ | 5, _ => rfl
    | 1, hr =>
      simp at hr
      subst hr
      refine ⟨.slice none 0 0, ⟨_, _, _, rfl⟩, fun h => by simp [takenRec] at h, fun i hi => ?_⟩
      simp only [rcells, takenRec, Nat.one_mul, e1]
      match i, hi with
      | 0, _ | 1, _ | 2, _ | 3, _ | 4, _ | 5, _ => rfl
    | k + 2, hr => simp at hr
/-- How far the sum is. -/
def SumAt (w w' : World) (mb r : Nat) (l : List SagaM) (bl : List Nat) (tot : Int) (v : Value) : Prop :=
  ∃ (left : Lit → Bool) (cnt : Nat), w'.ranges Tryz.prog 3 ptrR mb r l.length (dataOf (ilOf l bl)) left cnt ∧ v = .int .i64 (tot - restSum l left) ∧ New w w'
set_option maxRecDepth 100000 in
set_option maxHeartbeats 4000000 in
theorem Submit_calls {w : World} {q : Pl} {bl : List Nat} {s : StM} {id : Int} {l : List (ByteArray × ByteArray)} {v : Value} (hs : StAt w q bl s) (hi : s.inv) (hv : StepsAt w v l) (hw : wholeB id l = true) (hn : ∀ x ∈ s.sagas, x.id ≠ id)
    (hroom : (s.j.en : Int) + (2 + (2 * l.length - 1) + leftSum s.sagas) ≤ s.d.blocks.length) :
    Calls Tryz.prog 18 #[.pointer (some ⟨q.xb, 0, none⟩), .int .i64 id, v] w fun e w' => e = .returned .nilIface ∧ (∃ bl', StAt w' q bl' (s.submit id l)) ∧ FrK [0, 103, 104, 133, 80] w w' ∧ Low s.p.lo w w' := by
  have hws := whole_small hw
  have hlk := look_none hs.mp id (by omega) (il_none s.sagas bl id hn)
  have hx := hs.eng
  obtain ⟨sa, sn, sc, rfl⟩ := hv.shape
  have HW := Lib.hid (Whole_calls w id l _ (.inr hv) (by have := hws.2.2.2.1; omega))
  rw [hw] at HW
  have Hs := Lib.hid hs
  have Hi := Lib.hid hi
  have Hv := Lib.hid hv
  have Hw := Lib.hid hw
  have Hn := Lib.hid hn
  have Hroom := Lib.hid hroom
  have Hws := Lib.hid hws
  have Hlk := Lib.hid hlk
  have Hx := Lib.hid hx
  simp only [egCells] at hx
  clear hs hi hv hw hn hroom hws hlk
  have hcv := cellv w
  go_enter Tryz.func18, Tryz.ntmps18
  go_upto_region 5 with (first
    | (go_at_call 41; refine Calls.mono HW.out ?_; rintro e w2 ⟨rfl, hf2⟩)
    | fail)
  have hs2 := Hs.out.keepK (hf2.toK (K := []) (fun _ _ f _ => f.elim)) (by simp)
  have hlk := look_none hs2.mp id (by have := Hws.out; omega) (il_none s.sagas bl id Hn.out)
  have hv2 : StepsAt w2 _ l := Hv.out.frame hf2 (fun _ f => f.elim)
  have HN := Lib.hid (New_calls id l _ hv2 (by have := Hws.out.2.2.1; have := Hws.out.2.2.2.1; omega))
  have hx2 := hf2.get Hx.out (fun f => f)
  have Hx2 := Lib.hid hx2
  have Hf2 := Lib.hid hf2
  have Hs2 := Lib.hid hs2
  simp only [egCells] at hx2
  clear hcv hx hs2 hv2 hf2
  have hcv := cellv w2
  go_upto_region 11 with (first
    | (go_at_call 43; refine Calls.mono HN.out ?_; rintro e w3 ⟨sb, hsb, rfl, hs3, hf3⟩)
    | fail)
  have HL := Lib.hid (Left_calls hs3 (by simp only [SagaM.new]; have := Hws.out.2.2.2.1; omega))
  rw [new_left] at HL
  have Hs3 := Lib.hid hs3
  have Hsb := Lib.hid hsb
  have Hf3 := Lib.hid (Hf2.out.trans hf3)
  have hx3 := hf3.get Hx2.out (fun f => f)
  have Hst3 := Lib.hid (Hs2.out.keepK (hf3.toK (K := []) (fun _ _ f _ => f.elim)) (by simp))
  clear hcv hx2 hs3 hsb hf3 hlk
  have h2n : wrap64 (2 + (2 * (l.length : Int) - 1)) = 2 + (2 * (l.length : Int) - 1) := wrap_in _ (by have := Hws.out.2.2.2.1; omega)
  go_upto_region 12 with (first
    | (go_at_call 44; refine Calls.mono HL.out ?_; rintro e w4 ⟨rfl, n4, rfl⟩)
    | fail)
  have hst4 : StAt (w3.drewN n4) q bl s := Hst3.out.keepK (((Fr.refl (fun _ => False) w3).drewN n4).toK (K := []) (fun _ _ f _ => f.elim)) (by simp)
  have Hs4 := Lib.hid (Hs3.out.new ((Fr.refl _ w3).drewN n4))
  have Hf4 := Lib.hid (Hf3.out.drewN n4)
  have Hx4 := Lib.hid (hst4.eng)
  have Hst4 := Lib.hid hst4
  have Hsb4 : Hid (w.heap.size ≤ sb) := by have := Hsb.out; have := Hf2.out.size; show _ ≤ _; omega
  have H2n := Lib.hid h2n
  clear hx3 hst4 h2n
  generalize w3.drewN n4 = w4 at Hs4 Hf4 Hx4 Hst4 ⊢
  have hx4 := Hx4.out
  simp only [egCells] at hx4
  have hcv := cellv w4
  go_upto_region 13 with (first
    | (at_range; refine wpList_range_own _ rfl _ 76 rfl 3 82 Tryz.keyed Tryz.underlying76 ptrR q.mb s.sagas.length _ rfl Hst4.out.mp ?_; intro w5 hrg0 hg0 hs0; go_frame)
    | fail)
  have hr0 : restSum s.sagas (Maps.has (dataOf (ilOf s.sagas bl))) = leftSum s.sagas := rest_all _ _ (fun g hg => has_of_mem Hs.out.len hg)
  have hF0 : New w4 w5 := (Fr.ofGrown hg0).mono (fun _ _ e => by cases e)
  have HF0 := Lib.hid hF0
  have Hrg0 := Lib.hid hrg0
  have Hr0 := Lib.hid hr0
  clear hcv hx4 hr0 hF0 hrg0 hg0 hs0
  go_wp2_with fail
  go_loopw [9] (fun v wr => SumAt w4 wr q.mb w4.heap.size s.sagas bl (2 + (2 * (l.length : Int) - 1) + leftSum s.sagas) v) (fun _ wr => wr.rangeLeft q.mb w4.heap.size)
  case atStart => exact ⟨_, _, Hrg0.out, by rw [Hr0.out, H2n.out]; congr 1; omega, HF0.out⟩
  case round =>
    obtain ⟨left, cnt, hrg, rfl, hfr⟩ := hrel
    have Hrg := Lib.hid hrg
    have Hfr := Lib.hid hfr
    clear hrg hfr
    go_upto_region 14 with (first
      | (at_next; refine wpList_next_ranges _ rfl _ rfl 3 Tryz.keyed ptrR (Value.int .i64) ptrV key_shape ptrR_shape q.mb w4.heap.size _ _ _ _ rfl Hrg.out ?_ ?_)
      | fail)
    · intro _ hl0
      have hr0 := rest_none s.sagas left hl0
      rw [hr0, Int.sub_zero]
      have Hl0 := Lib.hid hl0
      clear hl0 hr0
      have hst6 : StAt wr q bl s := Hst4.out.keepK (Hfr.out.toK (K := []) (fun _ _ f _ => f.elim)) (by simp)
      have Hs6 := Lib.hid (Hs4.out.new Hfr.out)
      have hx6 := hst6.eng
      have HR := Lib.hid (Room_calls hst6.jn hst6.dk)
      have Hst6 := Lib.hid hst6
      simp only [egCells] at hx6
      clear hst6
      have hcv := cellv wr
      have hsz := (Hi.out).size
      have hrm : wrap64 ((s.d.blocks.length : Int) - s.j.en) = (s.d.blocks.length : Int) - s.j.en := wrap_in _ (by
        have := Hroom.out; have := rest_nonneg s.sagas (fun _ => true) (Hi.out).ok; rw [rest_all s.sagas (fun _ => true) (fun _ _ => rfl)] at this
        have := Hws.out.2.2.1; omega)
      have hgt : ¬ ((s.d.blocks.length : Int) - s.j.en < 2 + (2 * (l.length : Int) - 1) + leftSum s.sagas) := by have := Hroom.out; omega
      rw [hrm] at HR
      clear hrm hsz
      go_upto_region 18 with (first
        | (go_at_call 45; refine Calls.mono HR.out ?_; rintro e w7 ⟨rfl, rfl⟩)
        | fail)
      obtain ⟨sv, hsg, hst⟩ := Hs6.out
      obtain ⟨va, vn, vc, rfl⟩ := hst.shape
      have Hsg := Lib.hid hsg
      have Hst := Lib.hid hst
      have Hx6 := Lib.hid hx6
      simp only [sgCells, SagaM.new] at hsg
      clear hcv hx6 hgt hst
      have hcv := cellv wr.drew
      have hsg' : wr.drew.heap[sb]? = _ := hsg
      clear hsg
      have hN9 : New wr (wr.alloc (.cells #[.int .u8 2, .int .u32 0, .int .i64 0, .int .i64 id, .int .i64 0, .slice va vn vc, .int .u8 3, .int .u32 0, .int .i64 0, .int .i64 id, .int .i64 0, .slice none 0 0] 91)).drew := ((Fr.refl _ wr).alloc _).drew
      have hlb : (wr.alloc (.cells #[.int .u8 2, .int .u32 0, .int .i64 0, .int .i64 id, .int .i64 0, .slice va vn vc, .int .u8 3, .int .u32 0, .int .i64 0, .int .i64 id, .int .i64 0, .slice none 0 0] 91)).drew.heap[wr.heap.size]? = some (.cells #[.int .u8 2, .int .u32 0, .int .i64 0, .int .i64 id, .int .i64 0, .slice va vn vc, .int .u8 3, .int .u32 0, .int .i64 0, .int .i64 id, .int .i64 0, .slice none 0 0] 91 (0, 0)) := heap_alloc_new wr _
      have hrec := sub_recs (sv := .slice va vn vc) Hws.out ⟨_, _, _, rfl⟩ hlb (StepsAt.frame Hst.out hN9 (fun _ f => f.elim))
      have HN9 := Lib.hid hN9
      have HWr := Lib.hid (write_calls (n := 2) (cap := 2) (hN9.get Hx6.out (fun f => f)) (hN9.get Hst6.out.jn (fun f => f)) (Hst6.out.dk.new hN9) (Hi.out).quiet (Hi.out).pend hrec rfl (Hi.out).epoch (by
        show s.j.en + 2 ≤ s.d.blocks.length
        have := Hroom.out; have := rest_nonneg s.sagas (fun _ => true) (Hi.out).ok; rw [rest_all s.sagas (fun _ => true) (fun _ _ => rfl)] at this
        have := Hws.out.2.2.1; omega) (Hi.out).size)
      clear hN9 hlb hrec
      go_upto_region 19 with (first
        | (go_at_call 46; refine Calls.mono HWr.out ?_; rintro e w9 ⟨rfl, hf9, hd9, hj9, hx9⟩)
        | fail)
      have hfk9 : FrK [103, 104, 133, 80] wr w9 := (HN9.out.toK (fun _ _ f _ => f.elim)).trans (hf9.toK (by
        obtain ⟨_, _, _, _, e1, e2, _⟩ := Hst6.out.dk
        have e3 := Hst6.out.jn
        have e4 := Hx6.out
        have n1 := HN9.out.get e1 (fun f => f)
        have n2 := HN9.out.get e2 (fun f => f)
        have n3 := HN9.out.get e3 (fun f => f)
        have n4 := HN9.out.get e4 (fun f => f)
        rintro x o (rfl | rfl | rfl | rfl) ho
        · rw [n1] at ho; cases ho; simp [kindOf]
        · rw [n2] at ho; cases ho; simp [kindOf]
        · rw [n3] at ho; cases ho; simp [kindOf]
        · rw [n4] at ho; cases ho; simp [kindOf]))
      have Hfk9 := Lib.hid hfk9
      have hzr : s.p.lo ≤ wr.heap.size := Nat.le_trans Hs.out.size (Nat.le_trans Hf4.out.size Hfr.out.size)
      have HL9 : Hid (Low s.p.lo wr w9 ∧ s.p.lo ≤ w9.heap.size) := ⟨(HN9.out.low hzr (fun _ f => f.elim)).trans (hf9.low (Nat.le_trans hzr HN9.out.size) (by
        have h0 := Hs.out.lo
        rintro k (rfl | rfl | rfl | rfl)
        · exact h0.2.2.2.1
        · exact h0.2.2.2.2.1
        · exact h0.2.1
        · exact h0.1)), Nat.le_trans hzr (Nat.le_trans HN9.out.size hf9.size)⟩
      clear hzr
      have Hm9 := Lib.hid (map_keepK Hst6.out.mp hfk9 (by decide))
      have Hd9 := Lib.hid hd9
      have Hj9 := Lib.hid hj9
      have Hx9 := Lib.hid hx9
      simp only [egCells] at hx9
      clear hcv hsg' hfk9 hf9 hd9 hj9
      have hcv := cellv w9
      have hkI := keyI id (by have := Hws.out; omega)
      have Hkn : Hid (s.sagas.length < maxLen) := by have := inv_len Hi.out; show _ < maxLen; unfold maxLen; omega
      go_upto_region 22 with (first
        | (at_mapUpdate; refine wpList_mapUpdate_own _ rfl _ _ _ 76 rfl 3 82 Tryz.keyed Tryz.underlying76 ptrR q.mb s.sagas.length _ rfl Hm9.out Hkn.out (.int .i64 id) (.pointer (some ⟨sb, 0, none⟩)) _ rfl rfl hkI (.lit (.int .i64 sb)) [] rfl ?_; intro w10 hown10 hg10; go_frame)
        | fail)
      have hmk : ∃ es clock, w9.heap[q.mb]? = some (.map es clock) := by
        obtain ⟨es, clock, hb, _⟩ := Hm9.out
        exact ⟨es, clock, hb⟩
      have hk10 : FrK [0] w9 w10 := (Fr.ofGrown hg10).toK (by
        obtain ⟨es, clock, hb⟩ := hmk
        rintro x o hx ho
        cases hx
        rw [hb] at ho; cases ho; simp [kindOf])
      have Hk10 := Lib.hid hk10
      have HL10 : Hid (Low s.p.lo w9 w10) := (Fr.ofGrown hg10).low HL9.out.2 (by
        intro k hk
        cases hk
        exact Hs.out.lo.2.2.1)
      have Hown10 := Lib.hid hown10
      clear hcv hx9 hkI hown10 hg10 hk10 hmk
      go_wp2_with fail
      go_ret
      have hd := dataOf_put (ilOf s.sagas bl) id sb (il_none s.sagas bl id Hn.out)
      have hsb9 : SagaAt w9 sb (SagaM.new id l) := Hs6.out.keepK Hfk9.out (by decide) (by decide)
      refine ⟨rfl, ⟨insBl id sb s.sagas bl, ?_, ?_, ?_, ?_, ?_, ?_, ?_, ?_, ?_⟩, ?_⟩
      · exact Hk10.out.block _ _ Hx9.out (by simp [kindOf])
      · exact Hj9.out.keepK Hk10.out (by decide)
      · exact Hd9.out.keepK Hk10.out (by decide) (by decide) (by decide)
      · exact (Hst6.out.pt.keepK Hfk9.out (by decide) (by decide) (by decide) (by decide)).keepK Hk10.out (by decide) (by decide) (by decide) (by decide)
      · have h0 := Hown10.out
        rw [hd] at h0
        have h1 := insIL_of (SagaM.new id l) sb s.sagas bl Hs.out.len
        show w10.ownsMap Tryz.prog 3 ptrR q.mb (insSaga (SagaM.new id l) s.sagas).length (dataOf (ilOf (insSaga (SagaM.new id l) s.sagas) (insBl id sb s.sagas bl)))
        rw [insSaga_len]
        rw [show insBl id sb s.sagas bl = insBl (SagaM.new id l).id sb s.sagas bl from rfl, h1]
        exact h0
      · show _ = (insSaga _ _).length
        rw [insSaga_len]
        exact insBl_len id sb s.sagas bl Hs.out.len
      · intro i g b hg hb
        rcases insSaga_at (g := SagaM.new id l) Hs.out.len i hg hb with ⟨rfl, rfl⟩ | ⟨j, h1, h2⟩
        · exact hsb9.keepK Hk10.out (by decide) (by decide)
        · exact ((Hst6.out.sg j g b h1 h2).keepK Hfk9.out (by decide) (by decide)).keepK Hk10.out (by decide) (by decide)
      · refine insBl_nd Hs.out.nd (fun hm => ?_)
        obtain ⟨i, hi⟩ := List.getElem?_of_mem hm
        have hil := (List.getElem?_eq_some_iff.1 hi).1
        rw [Hs.out.len] at hil
        obtain ⟨_, e, _⟩ := Hs.out.sg i _ sb (List.getElem?_eq_getElem hil) hi
        have := lt_of_hp e
        have := Hsb4.out
        omega
      · obtain ⟨l1, l2, l3, l4, l5, l6⟩ := Hs.out.lo
        refine ⟨l1, l2, l3, l4, l5, fun b hb => ?_⟩
        rcases insBl_mem hb with rfl | hb
        · have := Hsb4.out; have := Hs.out.size
          show s.p.lo ≤ _
          omega
        · exact l6 b hb
      · have k1 : FrK [] w w4 := Hf4.out.toK (fun _ _ f _ => f.elim)
        have k2 : FrK [] w4 wr := Hfr.out.toK (fun _ _ f _ => f.elim)
        exact ⟨((((k1.mono (by decide)).trans (k2.mono (by decide))).trans (Hfk9.out.mono (by decide))).trans (Hk10.out.mono (by decide))), (((Hf4.out.low Hs.out.size (fun _ f => f.elim)).trans (Hfr.out.low (Nat.le_trans Hs.out.size Hf4.out.size) (fun _ f => f.elim))).trans HL9.out.1).trans HL10.out⟩
    · intro x c kl y ps w6 cnt6 hkl hleft hy hat hrg6 hlt hg6 hs6 hen
      have hid : kl = .int .i64 x := by
        obtain ⟨x', e1, e2, _⟩ := Maps.keyOf_int_inv Tryz.underlying3 hkl
        cases e1; exact e2
      subst hid
      obtain ⟨i, g, b, hgi, hbi, rfl, rfl⟩ := entry_of Hs.out.len hy hat
      have hrest := rest_step s.sagas left (Hi.out).ord g (List.mem_of_getElem? hgi) hleft
      have hf6 : New w4 w6 := Hfr.out.trans' (Fr.ofGrown hg6) (fun i hi e => by cases e; omega)
      have hg6 := (Hst4.out.keepK (hf6.toK (K := []) (fun _ _ f _ => f.elim)) (by simp)).sg i g b hgi hbi
      have hgok := (Hi.out).ok g (List.mem_of_getElem? hgi)
      have hbd : -100 ≤ g.step ∧ g.step ≤ 100 ∧ g.steps.length ≤ 100 := by
        obtain ⟨_, _, hsm, _, h⟩ := hgok
        have := hsm.2.1
        rcases h with h | h <;> omega
      have HL6 := Lib.hid (Left_calls hg6 hbd)
      have Hrest := Lib.hid hrest
      have Hlt := Lib.hid hlt
      have Hrg6 := Lib.hid hrg6
      have Hf6 := Lib.hid hf6
      have hr1 := rest_nonneg s.sagas (fun z => left z && !z.sameKey (.int .i64 g.id)) (Hi.out).ok
      have hr2 := hgok.left_nonneg
      have hr3 := leftSum_le s.sagas (Hi.out).ok
      have hr4 := inv_len Hi.out
      have hr5 : restSum s.sagas left ≤ leftSum s.sagas := rest_le s.sagas left (Hi.out).ok
      have hl6 : l.length ≤ 6 := Hws.out.2.2.2.1
      have hadd : wrap64 (2 + (2 * (l.length : Int) - 1) + leftSum s.sagas - restSum s.sagas left + g.left) = 2 + (2 * (l.length : Int) - 1) + leftSum s.sagas - restSum s.sagas (fun z => left z && !z.sameKey (.int .i64 g.id)) := by
        rw [show 2 + (2 * (l.length : Int) - 1) + leftSum s.sagas - restSum s.sagas left + g.left = 2 + (2 * (l.length : Int) - 1) + leftSum s.sagas - restSum s.sagas (fun z => left z && !z.sameKey (.int .i64 g.id)) by omega]
        exact wrap_in _ (by omega)
      have Hadd := Lib.hid hadd
      clear hgi hbi hy hat hrest hf6 hg6 hgok hbd hlt hrg6 hr1 hr2 hr3 hr4 hr5 hl6 hadd hleft hkl hs6
      simp only [ptrV]
      simp only [ptrV] at hen
      go_wp2_with (first
        | (go_at_call 44; refine Calls.mono HL6.out ?_; rintro e w7 ⟨rfl, n7, rfl⟩)
        | fail)
      go_roundw
      case rel => exact ⟨_, cnt6, Hrg6.out.kept (w' := w6.drewN n7) (row := none) ⟨rfl, rfl, rfl, Nat.le_refl _, fun _ _ _ => rfl⟩ (by simp) (by simp), by rw [← Hadd.out], Hf6.out.drewN n7⟩
      case measure =>
        have e1 := Hrg6.out.left_eq
        have e2 := Hrg.out.left_eq
        show World.rangeLeft w6 _ _ < _
        rw [e1, e2]; exact Hlt.out
end Go.Proofs.YtkafmfdipmhleaaGreatDoor
