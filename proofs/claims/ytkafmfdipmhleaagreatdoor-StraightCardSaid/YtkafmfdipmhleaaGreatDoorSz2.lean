/-
  What is proved: the contract of Submit of a saga that is new, on whatever disk. the drawn region of the disk's After: a sector of a write that survived. the contract of the helper few, of a slice wherever it lies. the contract of the disk's After. contracts of the two functions that journal.Open is handed: a saga was taken, a saga moved.
-/
import Derived.Test.YtkafmfdipmhleaaGreatDoorSz1

namespace Go.Proofs.YtkafmfdipmhleaaGreatDoor
open Go.RowKit Go.Maps

/-- What an engine that has not failed keeps, whatever its disk tells. -/
structure StM.inv0 (s : StM) : Prop where
  pend : s.j.fresh = false → s.d.pend = none
  epoch : s.j.epoch < 2 ^ 32
  ok : ∀ g ∈ s.sagas, g.ok
  ord : s.sagas.Pairwise (fun a b => a.id < b.id)
  size : s.d.blocks.length ≤ 1000
theorem StM.inv.zero {s : StM} (h : s.inv) : s.inv0 := ⟨fun _ => h.pend, h.epoch, h.ok, h.ord, h.size⟩
theorem inv0_len {s : StM} (h : s.inv0) : s.sagas.length ≤ 1000 := by
  have := len_of_ord s.sagas 0 1000 h.ord (fun g hg => by have := h.ok g hg; exact ⟨by have := this.1; omega, this.2.1⟩) (by omega)
  omega
def StM.submitG (s : StM) (id : Int) (l : List (ByteArray × ByteArray)) : StM :=
  { s with sagas := insSaga (SagaM.new id l) s.sagas, j := ⟨s.j.epoch, s.j.en + 2, false⟩, d := (s.d.appendA s.j [bodyRec id l, takenRec id]).1 }
/-- An engine that has failed. -/
def FailAt (w : World) (q : Pl) (s : StM) (d : DiskM) : Prop :=
  w.heap[q.xb]? = some (.cells (egCells q.jb q.mb s.pause (askFn q.pb) s.clock true) 79 (0, 0)) ∧ DiskAt w q.db q.bb d ∧ PAt w q.pb s.p
def SubmitG (w : World) (q : Pl) (s : StM) (id : Int) (l : List (ByteArray × ByteArray)) (e : Ending) (w' : World) : Prop :=
  FrK [0, 103, 104, 133, 80] w w' ∧ Low s.p.lo w w' ∧
    ((s.d.appendA s.j [bodyRec id l, takenRec id]).2 = true ∧ e = .returned .nilIface ∧ (∃ bl', StAt w' q bl' (s.submitG id l)) ∨
     (s.d.appendA s.j [bodyRec id l, takenRec id]).2 = false ∧ (∃ op nb, w.heap.size ≤ nb ∧ e = .returned (.iface 121 (.pointer (some ⟨nb, 0, none⟩))) ∧ w'.heap[nb]? = some (.cells (faultCells op 5) 123 (0, 0))) ∧ FailAt w' q s (s.d.appendA s.j [bodyRec id l, takenRec id]).1)
theorem SubmitG.ok {w : World} {q : Pl} {s : StM} {id : Int} {l : List (ByteArray × ByteArray)} {w' : World} (h : (s.d.appendA s.j [bodyRec id l, takenRec id]).2 = true) (h1 : ∃ bl', StAt w' q bl' (s.submitG id l)) (h2 : FrK [0, 103, 104, 133, 80] w w' ∧ Low s.p.lo w w') :
    SubmitG w q s id l (.returned .nilIface) w' := ⟨h2.1, h2.2, .inl ⟨h, rfl, h1⟩⟩
set_option maxRecDepth 100000 in
set_option maxHeartbeats 4000000 in
theorem Submit_gen {w : World} {q : Pl} {bl : List Nat} {s : StM} {id : Int} {l : List (ByteArray × ByteArray)} {v : Value} (hs : StAt w q bl s) (hi : s.inv0) (hg : Handle w) (hlo : 0 < s.p.lo) (hv : StepsAt w v l) (hw : wholeB id l = true) (hn : ∀ x ∈ s.sagas, x.id ≠ id)
    (hroom : (s.j.en : Int) + (2 + (2 * l.length - 1) + leftSum s.sagas) ≤ s.d.blocks.length) :
    Calls Tryz.prog 18 #[.pointer (some ⟨q.xb, 0, none⟩), .int .i64 id, v] w (SubmitG w q s id l) := by
  have hws := whole_small hw
  have hlk := look_none hs.mp id (by omega) (il_none s.sagas bl id hn)
  have hx := hs.eng
  obtain ⟨sa, sn, sc, rfl⟩ := hv.shape
  have HW := Lib.hid (Whole_calls w id l _ (.inr hv) (by have := hws.2.2.2.1; omega))
  rw [hw] at HW
  have Hs := Lib.hid hs
  have Hi := Lib.hid hi
  have Hg := Lib.hid hg
  have Hlo := Lib.hid hlo
  have Hv := Lib.hid hv
  have Hw := Lib.hid hw
  have Hn := Lib.hid hn
  have Hroom := Lib.hid hroom
  have Hws := Lib.hid hws
  have Hlk := Lib.hid hlk
  have Hx := Lib.hid hx
  simp only [egCells] at hx
  clear hs hi hg hlo hv hw hn hroom hws hlk
  have hcv := cellv w
  go_enter Tryz.func18, Tryz.ntmps18
  go_upto_region 5 with (first
    | (go_at_call 41; refine Calls.mono HW.out ?_; rintro e w2 ⟨rfl, hf2⟩)
    | fail)
  have hs2 := Hs.out.keepK (hf2.toK (K := []) (fun _ _ f _ => f.elim)) (by simp)
  have hlk := look_none hs2.mp id (by have := Hws.out; omega) (il_none s.sagas bl id Hn.out)
  have hv2 : StepsAt w2 _ l := Hv.out.frame hf2 (fun _ f => f.elim)
  have HN := Lib.hid (New_calls id l _ hv2 (by have := Hws.out.2.2.1; have := Hws.out.2.2.2.1; omega))
  have hx2 := hf2.get Hx.out (fun f => f)
  have Hx2 := Lib.hid hx2
  have Hf2 := Lib.hid hf2
  have Hs2 := Lib.hid hs2
  simp only [egCells] at hx2
  clear hcv hx hs2 hv2 hf2
  have hcv := cellv w2
  go_upto_region 11 with (first
    | (go_at_call 43; refine Calls.mono HN.out ?_; rintro e w3 ⟨sb, hsb, rfl, hs3, hf3⟩)
    | fail)
  have HL := Lib.hid (Left_calls hs3 (by simp only [SagaM.new]; have := Hws.out.2.2.2.1; omega))
  rw [new_left] at HL
  have Hs3 := Lib.hid hs3
  have Hsb := Lib.hid hsb
  have Hf3 := Lib.hid (Hf2.out.trans hf3)
  have hx3 := hf3.get Hx2.out (fun f => f)
  have Hst3 := Lib.hid (Hs2.out.keepK (hf3.toK (K := []) (fun _ _ f _ => f.elim)) (by simp))
  clear hcv hx2 hs3 hsb hf3 hlk
  have h2n : wrap64 (2 + (2 * (l.length : Int) - 1)) = 2 + (2 * (l.length : Int) - 1) := wrap_in _ (by have := Hws.out.2.2.2.1; omega)
  go_upto_region 12 with (first
    | (go_at_call 44; refine Calls.mono HL.out ?_; rintro e w4 ⟨rfl, n4, rfl⟩)
    | fail)
  have hst4 : StAt (w3.drewN n4) q bl s := Hst3.out.keepK (((Fr.refl (fun _ => False) w3).drewN n4).toK (K := []) (fun _ _ f _ => f.elim)) (by simp)
  have Hs4 := Lib.hid (Hs3.out.new ((Fr.refl _ w3).drewN n4))
  have Hf4 := Lib.hid (Hf3.out.drewN n4)
  have Hx4 := Lib.hid (hst4.eng)
  have Hst4 := Lib.hid hst4
  have Hsb4 : Hid (w.heap.size ≤ sb) := by have := Hsb.out; have := Hf2.out.size; show _ ≤ _; omega
  have H2n := Lib.hid h2n
  clear hx3 hst4 h2n
  generalize w3.drewN n4 = w4 at Hs4 Hf4 Hx4 Hst4 ⊢
  have hx4 := Hx4.out
  simp only [egCells] at hx4
  have hcv := cellv w4
  go_upto_region 13 with (first
    | (at_range; refine wpList_range_own _ rfl _ 76 rfl 3 82 Tryz.keyed Tryz.underlying76 ptrR q.mb s.sagas.length _ rfl Hst4.out.mp ?_; intro w5 hrg0 hg0 hs0; go_frame)
    | fail)
  have hr0 : restSum s.sagas (Maps.has (dataOf (ilOf s.sagas bl))) = leftSum s.sagas := rest_all _ _ (fun g hg => has_of_mem Hs.out.len hg)
  have hF0 : New w4 w5 := (Fr.ofGrown hg0).mono (fun _ _ e => by cases e)
  have HF0 := Lib.hid hF0
  have Hrg0 := Lib.hid hrg0
  have Hr0 := Lib.hid hr0
  clear hcv hx4 hr0 hF0 hrg0 hg0 hs0
  go_wp2_with fail
  go_loopw [9] (fun v wr => SumAt w4 wr q.mb w4.heap.size s.sagas bl (2 + (2 * (l.length : Int) - 1) + leftSum s.sagas) v) (fun _ wr => wr.rangeLeft q.mb w4.heap.size)
  case atStart => exact ⟨_, _, Hrg0.out, by rw [Hr0.out, H2n.out]; congr 1; omega, HF0.out⟩
  case round =>
    obtain ⟨left, cnt, hrg, rfl, hfr⟩ := hrel
    have Hrg := Lib.hid hrg
    have Hfr := Lib.hid hfr
    clear hrg hfr
    go_upto_region 14 with (first
      | (at_next; refine wpList_next_ranges _ rfl _ rfl 3 Tryz.keyed ptrR (Value.int .i64) ptrV key_shape ptrR_shape q.mb w4.heap.size _ _ _ _ rfl Hrg.out ?_ ?_)
      | fail)
    · intro _ hl0
      have hr0 := rest_none s.sagas left hl0
      rw [hr0, Int.sub_zero]
      have Hl0 := Lib.hid hl0
      clear hl0 hr0
      have hst6 : StAt wr q bl s := Hst4.out.keepK (Hfr.out.toK (K := []) (fun _ _ f _ => f.elim)) (by simp)
      have Hs6 := Lib.hid (Hs4.out.new Hfr.out)
      have hx6 := hst6.eng
      have HR := Lib.hid (Room_calls hst6.jn hst6.dk)
      have Hst6 := Lib.hid hst6
      simp only [egCells] at hx6
      clear hst6
      have hcv := cellv wr
      have hsz := (Hi.out).size
      have hrm : wrap64 ((s.d.blocks.length : Int) - s.j.en) = (s.d.blocks.length : Int) - s.j.en := wrap_in _ (by
        have := Hroom.out; have := rest_nonneg s.sagas (fun _ => true) (Hi.out).ok; rw [rest_all s.sagas (fun _ => true) (fun _ _ => rfl)] at this
        have := Hws.out.2.2.1; omega)
      have hgt : ¬ ((s.d.blocks.length : Int) - s.j.en < 2 + (2 * (l.length : Int) - 1) + leftSum s.sagas) := by have := Hroom.out; omega
      rw [hrm] at HR
      clear hrm hsz
      go_upto_region 18 with (first
        | (go_at_call 45; refine Calls.mono HR.out ?_; rintro e w7 ⟨rfl, rfl⟩)
        | fail)
      obtain ⟨sv, hsg, hst⟩ := Hs6.out
      obtain ⟨va, vn, vc, rfl⟩ := hst.shape
      have Hsg := Lib.hid hsg
      have Hst := Lib.hid hst
      have Hx6 := Lib.hid hx6
      simp only [sgCells, SagaM.new] at hsg
      clear hcv hx6 hgt hst
      have hcv := cellv wr.drew
      have hsg' : wr.drew.heap[sb]? = _ := hsg
      clear hsg
      have hN9 : New wr (wr.alloc (.cells #[.int .u8 2, .int .u32 0, .int .i64 0, .int .i64 id, .int .i64 0, .slice va vn vc, .int .u8 3, .int .u32 0, .int .i64 0, .int .i64 id, .int .i64 0, .slice none 0 0] 91)).drew := ((Fr.refl _ wr).alloc _).drew
      have hlb : (wr.alloc (.cells #[.int .u8 2, .int .u32 0, .int .i64 0, .int .i64 id, .int .i64 0, .slice va vn vc, .int .u8 3, .int .u32 0, .int .i64 0, .int .i64 id, .int .i64 0, .slice none 0 0] 91)).drew.heap[wr.heap.size]? = some (.cells #[.int .u8 2, .int .u32 0, .int .i64 0, .int .i64 id, .int .i64 0, .slice va vn vc, .int .u8 3, .int .u32 0, .int .i64 0, .int .i64 id, .int .i64 0, .slice none 0 0] 91 (0, 0)) := heap_alloc_new wr _
      have hrec := sub_recs (sv := .slice va vn vc) Hws.out ⟨_, _, _, rfl⟩ hlb (StepsAt.frame Hst.out hN9 (fun _ f => f.elim))
      have HN9 := Lib.hid hN9
      have HWr := Lib.hid (write_gen (n := 2) (cap := 2) (hN9.get Hx6.out (fun f => f)) (hN9.get Hst6.out.jn (fun f => f)) (Hst6.out.dk.new hN9) ((Hg.out.new Hf4.out).new (Hfr.out.trans hN9)) (by have h0 := Hs.out.lo; have := Hlo.out; omega) (Hi.out).pend hrec rfl (Hi.out).epoch (by
        show s.j.en + 2 ≤ s.d.blocks.length
        have := Hroom.out; have := rest_nonneg s.sagas (fun _ => true) (Hi.out).ok; rw [rest_all s.sagas (fun _ => true) (fun _ _ => rfl)] at this
        have := Hws.out.2.2.1; omega) (Hi.out).size)
      have HFK : Hid (∀ w9, Fr (fun k => k = q.db ∨ k = q.bb ∨ k = q.jb ∨ k = q.xb) (wr.alloc (.cells #[.int .u8 2, .int .u32 0, .int .i64 0, .int .i64 id, .int .i64 0, .slice va vn vc, .int .u8 3, .int .u32 0, .int .i64 0, .int .i64 id, .int .i64 0, .slice none 0 0] 91)).drew w9 → FrK [103, 104, 133, 80] wr w9 ∧ Low s.p.lo wr w9 ∧ s.p.lo ≤ w9.heap.size) := by
        intro w9 hf9
        have hfk9 : FrK [103, 104, 133, 80] wr w9 := (HN9.out.toK (fun _ _ f _ => f.elim)).trans (hf9.toK (by
          obtain ⟨_, _, _, _, e1, e2, _⟩ := Hst6.out.dk
          have e3 := Hst6.out.jn
          have e4 := Hx6.out
          have n1 := HN9.out.get e1 (fun f => f)
          have n2 := HN9.out.get e2 (fun f => f)
          have n3 := HN9.out.get e3 (fun f => f)
          have n4 := HN9.out.get e4 (fun f => f)
          rintro x o (rfl | rfl | rfl | rfl) ho
          · rw [n1] at ho; cases ho; simp [kindOf]
          · rw [n2] at ho; cases ho; simp [kindOf]
          · rw [n3] at ho; cases ho; simp [kindOf]
          · rw [n4] at ho; cases ho; simp [kindOf]))
        have hzr : s.p.lo ≤ wr.heap.size := Nat.le_trans Hs.out.size (Nat.le_trans Hf4.out.size Hfr.out.size)
        have HL9 : Low s.p.lo wr w9 ∧ s.p.lo ≤ w9.heap.size := ⟨(HN9.out.low hzr (fun _ f => f.elim)).trans (hf9.low (Nat.le_trans hzr HN9.out.size) (by
          have h0 := Hs.out.lo
          rintro k (rfl | rfl | rfl | rfl)
          · exact h0.2.2.2.1
          · exact h0.2.2.2.2.1
          · exact h0.2.1
          · exact h0.1)), Nat.le_trans hzr (Nat.le_trans HN9.out.size hf9.size)⟩
        exact ⟨hfk9, HL9⟩
      clear hN9 hlb hrec
      go_upto_region 19 with (first
        | (go_at_call 46; refine Calls.mono HWr.out ?_; rintro e w9 ⟨hf9, ⟨hok9, rfl, hd9, hj9, hx9⟩ | ⟨hok9, ⟨op9, nb9, hnb9, rfl, hnbw9⟩, hd9, hx9⟩⟩)
        | fail)
      rotate_left 1
      focus
        obtain ⟨hfk9, HL9⟩ := HFK.out w9 hf9
        have Hfin : Hid (SubmitG w q s id l (.returned (.iface 121 (.pointer (some ⟨nb9, 0, none⟩)))) w9) := by
          have k1 : FrK [] w w4 := Hf4.out.toK (fun _ _ f _ => f.elim)
          have k2 : FrK [] w4 wr := Hfr.out.toK (fun _ _ f _ => f.elim)
          have hsz : w.heap.size ≤ (wr.alloc (.cells #[.int .u8 2, .int .u32 0, .int .i64 0, .int .i64 id, .int .i64 0, .slice va vn vc, .int .u8 3, .int .u32 0, .int .i64 0, .int .i64 id, .int .i64 0, .slice none 0 0] 91)).drew.heap.size := Nat.le_trans Hf4.out.size (Nat.le_trans Hfr.out.size HN9.out.size)
          exact ⟨(((k1.mono (by decide)).trans (k2.mono (by decide))).trans (hfk9.mono (by decide))), ((Hf4.out.low Hs.out.size (fun _ f => f.elim)).trans (Hfr.out.low (Nat.le_trans Hs.out.size Hf4.out.size) (fun _ f => f.elim))).trans HL9.1,
            .inr ⟨hok9, ⟨op9, nb9, Nat.le_trans hsz hnb9, rfl, hnbw9⟩, hx9, hd9, Hst6.out.pt.keepK hfk9 (by decide) (by decide) (by decide) (by decide)⟩⟩
        clear hcv hsg' hfk9 hf9 hd9 hx9 HL9 hnb9 hnbw9 hok9
        go_wp2_with fail
        go_ret
        exact Hfin.out
      obtain ⟨hfk9, HL9'⟩ := HFK.out w9 hf9
      have HL9 := Lib.hid HL9'
      have Hok9 := Lib.hid hok9
      clear hok9 HL9'
      have Hfk9 := Lib.hid hfk9
      have Hm9 := Lib.hid (map_keepK Hst6.out.mp hfk9 (by decide))
      have Hd9 := Lib.hid hd9
      have Hj9 := Lib.hid hj9
      have Hx9 := Lib.hid hx9
      simp only [egCells] at hx9
      clear hcv hsg' hfk9 hf9 hd9 hj9
      have hcv := cellv w9
      have hkI := keyI id (by have := Hws.out; omega)
      have Hkn : Hid (s.sagas.length < maxLen) := by have := inv0_len Hi.out; show _ < maxLen; unfold maxLen; omega
      go_upto_region 22 with (first
        | (at_mapUpdate; refine wpList_mapUpdate_own _ rfl _ _ _ 76 rfl 3 82 Tryz.keyed Tryz.underlying76 ptrR q.mb s.sagas.length _ rfl Hm9.out Hkn.out (.int .i64 id) (.pointer (some ⟨sb, 0, none⟩)) _ rfl rfl hkI (.lit (.int .i64 sb)) [] rfl ?_; intro w10 hown10 hg10; go_frame)
        | fail)
      have hmk : ∃ es clock, w9.heap[q.mb]? = some (.map es clock) := by
        obtain ⟨es, clock, hb, _⟩ := Hm9.out
        exact ⟨es, clock, hb⟩
      have hk10 : FrK [0] w9 w10 := (Fr.ofGrown hg10).toK (by
        obtain ⟨es, clock, hb⟩ := hmk
        rintro x o hx ho
        cases hx
        rw [hb] at ho; cases ho; simp [kindOf])
      have Hk10 := Lib.hid hk10
      have HL10 : Hid (Low s.p.lo w9 w10) := (Fr.ofGrown hg10).low HL9.out.2 (by
        intro k hk
        cases hk
        exact Hs.out.lo.2.2.1)
      have Hown10 := Lib.hid hown10
      clear hcv hx9 hkI hown10 hg10 hk10 hmk
      go_wp2_with fail
      go_ret
      have hd := dataOf_put (ilOf s.sagas bl) id sb (il_none s.sagas bl id Hn.out)
      have hsb9 : SagaAt w9 sb (SagaM.new id l) := Hs6.out.keepK Hfk9.out (by decide) (by decide)
      refine SubmitG.ok Hok9.out ⟨insBl id sb s.sagas bl, ?_, ?_, ?_, ?_, ?_, ?_, ?_, ?_, ?_⟩ ?_
      · exact Hk10.out.block _ _ Hx9.out (by simp [kindOf])
      · exact Hj9.out.keepK Hk10.out (by decide)
      · exact Hd9.out.keepK Hk10.out (by decide) (by decide) (by decide)
      · exact (Hst6.out.pt.keepK Hfk9.out (by decide) (by decide) (by decide) (by decide)).keepK Hk10.out (by decide) (by decide) (by decide) (by decide)
      · have h0 := Hown10.out
        rw [hd] at h0
        have h1 := insIL_of (SagaM.new id l) sb s.sagas bl Hs.out.len
        show w10.ownsMap Tryz.prog 3 ptrR q.mb (insSaga (SagaM.new id l) s.sagas).length (dataOf (ilOf (insSaga (SagaM.new id l) s.sagas) (insBl id sb s.sagas bl)))
        rw [insSaga_len]
        rw [show insBl id sb s.sagas bl = insBl (SagaM.new id l).id sb s.sagas bl from rfl, h1]
        exact h0
      · show _ = (insSaga _ _).length
        rw [insSaga_len]
        exact insBl_len id sb s.sagas bl Hs.out.len
      · intro i g b hg hb
        rcases insSaga_at (g := SagaM.new id l) Hs.out.len i hg hb with ⟨rfl, rfl⟩ | ⟨j, h1, h2⟩
        · exact hsb9.keepK Hk10.out (by decide) (by decide)
        · exact ((Hst6.out.sg j g b h1 h2).keepK Hfk9.out (by decide) (by decide)).keepK Hk10.out (by decide) (by decide)
      · refine insBl_nd Hs.out.nd (fun hm => ?_)
        obtain ⟨i, hi⟩ := List.getElem?_of_mem hm
        have hil := (List.getElem?_eq_some_iff.1 hi).1
        rw [Hs.out.len] at hil
        obtain ⟨_, e, _⟩ := Hs.out.sg i _ sb (List.getElem?_eq_getElem hil) hi
        have := lt_of_hp e
        have := Hsb4.out
        omega
      · obtain ⟨l1, l2, l3, l4, l5, l6⟩ := Hs.out.lo
        refine ⟨l1, l2, l3, l4, l5, fun b hb => ?_⟩
        rcases insBl_mem hb with rfl | hb
        · have := Hsb4.out; have := Hs.out.size
          show s.p.lo ≤ _
          omega
        · exact l6 b hb
      · have k1 : FrK [] w w4 := Hf4.out.toK (fun _ _ f _ => f.elim)
        have k2 : FrK [] w4 wr := Hfr.out.toK (fun _ _ f _ => f.elim)
        exact ⟨((((k1.mono (by decide)).trans (k2.mono (by decide))).trans (Hfk9.out.mono (by decide))).trans (Hk10.out.mono (by decide))), (((Hf4.out.low Hs.out.size (fun _ f => f.elim)).trans (Hfr.out.low (Nat.le_trans Hs.out.size Hf4.out.size) (fun _ f => f.elim))).trans HL9.out.1).trans HL10.out⟩
    · intro x c kl y ps w6 cnt6 hkl hleft hy hat hrg6 hlt hg6 hs6 hen
      have hid : kl = .int .i64 x := by
        obtain ⟨x', e1, e2, _⟩ := Maps.keyOf_int_inv Tryz.underlying3 hkl
        cases e1; exact e2
      subst hid
      obtain ⟨i, g, b, hgi, hbi, rfl, rfl⟩ := entry_of Hs.out.len hy hat
      have hrest := rest_step s.sagas left (Hi.out).ord g (List.mem_of_getElem? hgi) hleft
      have hf6 : New w4 w6 := Hfr.out.trans' (Fr.ofGrown hg6) (fun i hi e => by cases e; omega)
      have hg6 := (Hst4.out.keepK (hf6.toK (K := []) (fun _ _ f _ => f.elim)) (by simp)).sg i g b hgi hbi
      have hgok := (Hi.out).ok g (List.mem_of_getElem? hgi)
      have hbd : -100 ≤ g.step ∧ g.step ≤ 100 ∧ g.steps.length ≤ 100 := by
        obtain ⟨_, _, hsm, _, h⟩ := hgok
        have := hsm.2.1
        rcases h with h | h <;> omega
      have HL6 := Lib.hid (Left_calls hg6 hbd)
      have Hrest := Lib.hid hrest
      have Hlt := Lib.hid hlt
      have Hrg6 := Lib.hid hrg6
      have Hf6 := Lib.hid hf6
      have hr1 := rest_nonneg s.sagas (fun z => left z && !z.sameKey (.int .i64 g.id)) (Hi.out).ok
      have hr2 := hgok.left_nonneg
      have hr3 := leftSum_le s.sagas (Hi.out).ok
      have hr4 := inv0_len Hi.out
      have hr5 : restSum s.sagas left ≤ leftSum s.sagas := rest_le s.sagas left (Hi.out).ok
      have hl6 : l.length ≤ 6 := Hws.out.2.2.2.1
      have hadd : wrap64 (2 + (2 * (l.length : Int) - 1) + leftSum s.sagas - restSum s.sagas left + g.left) = 2 + (2 * (l.length : Int) - 1) + leftSum s.sagas - restSum s.sagas (fun z => left z && !z.sameKey (.int .i64 g.id)) := by
        rw [show 2 + (2 * (l.length : Int) - 1) + leftSum s.sagas - restSum s.sagas left + g.left = 2 + (2 * (l.length : Int) - 1) + leftSum s.sagas - restSum s.sagas (fun z => left z && !z.sameKey (.int .i64 g.id)) by omega]
        exact wrap_in _ (by omega)
      have Hadd := Lib.hid hadd
      clear hgi hbi hy hat hrest hf6 hg6 hgok hbd hlt hrg6 hr1 hr2 hr3 hr4 hr5 hl6 hadd hleft hkl hs6
      simp only [ptrV]
      simp only [ptrV] at hen
      go_wp2_with (first
        | (go_at_call 44; refine Calls.mono HL6.out ?_; rintro e w7 ⟨rfl, n7, rfl⟩)
        | fail)
      go_roundw
      case rel => exact ⟨_, cnt6, Hrg6.out.kept (w' := w6.drewN n7) (row := none) ⟨rfl, rfl, rfl, Nat.le_refl _, fun _ _ _ => rfl⟩ (by simp) (by simp), by rw [← Hadd.out], Hf6.out.drewN n7⟩
      case measure =>
        have e1 := Hrg6.out.left_eq
        have e2 := Hrg.out.left_eq
        show World.rangeLeft w6 _ _ < _
        rw [e1, e2]; exact Hlt.out
end Go.Proofs.YtkafmfdipmhleaaGreatDoor

namespace Go.Proofs.YtkafmfdipmhleaaGreatDoor
open Go.RowKit Go.Maps

/-- copy from a row into a row: as one step of a region that draws. -/
theorem step_copy {P : Program} {ops : Array Oper} {o : Oper} {a : Act} {w : World} {K : Act → World → Prop} {Q : Exit → Act → World → Prop} {E : Prop} (hgd : o.guard = none) (d s : Operand) (dT sT : TypeId)
    (ho : o.op = .call { callee := .builtin .copy, args := #[d, s], argTypes := #[dT, sT] }) (elem : TypeId) (hu : P.underlying dT = some (.slice elem)) (hsz : (P.info? elem).map (·.size) = some 1)
    (g off dLen dCap : Nat) (hd : a.eval d = .slice (some ⟨g, off, none⟩) dLen dCap) (sb so sLen sCap : Nat) (hs : a.eval s = .slice (some ⟨sb, so, none⟩) sLen sCap)
    (cur : Array Value) (t : TypeId) (hg : w.heap[g]? = some (.cells cur t (0, 0))) (cs : List Value) (hn : cs.length = Nat.min sLen dLen)
    (hsrc : ∀ j v, cs[j]? = some v → cellOf w.heap[sb]? (so + j) = some v) (hfit : off + cs.length ≤ cur.size) (h1 : ∀ v ∈ cs, v.oneCell' = true)
    (h : ∀ w' Y, Hid (Y = (cur.toList.take off ++ cs ++ cur.toList.drop (off + cs.length)).toArray) → w'.heap[g]? = some (.cells Y t (0, 0)) → Fr (· = g) w w' → K (a.put o.dst (goInt cs.length)) w') :
    if Region.wanted o (yielded ops a.tmps) = true then Oper.wp P o a w K Q else E := by
  have hw : Region.wanted o (yielded ops a.tmps) = true := by simp [Region.wanted, hgd]
  rw [if_pos hw]
  have hrun := run_copy_row (P := P) w dT sT o.type elem g off dLen dCap ⟨sb, so, none⟩ sLen sCap cur t cs hu hsz hg hn (fun j v hv => by rw [Addr.add_mid, cellv]; exact hsrc j v hv) hfit h1
  unfold Oper.wp
  simp [execOp, ho, resolve, invoke, builtin, hd, hs, hrun, Result.andThen]
  exact h _ _ rfl (by rw [setRow_heap w g _ _ t _ hg]; simp) ((Fr.refl (· = g) w).setRow (fun _ => rfl) _)
/-- A block with one sector of another. -/
def secB (old new : List UInt8) (s : Nat) : List UInt8 := old.take (s * 32) ++ (new.drop (s * 32)).take 32 ++ old.drop (s * 32 + 32)
theorem secB_len (old new : List UInt8) (s : Nat) (h1 : old.length = 128) (h2 : new.length = 128) (hs : s < 4) : (secB old new s).length = 128 := by
  simp [secB]; omega
noncomputable def afR10 : Code := ((Tryz.f29.body).bind (regOf 10)).getD .skip
theorem blk_sec (bl : List (List UInt8)) (h : ∀ b ∈ bl, b.length = 128) (rest : List Value) (i : Nat) (hi : i < bl.length) (b : List UInt8) (hb : b.length = 128) (s : Nat) (hs : s < 4) :
    ((blkCells bl rest).toList.take (i * 128 + s * 32) ++ ((b.drop (s * 32)).take 32).map bv ++ (blkCells bl rest).toList.drop (i * 128 + s * 32 + (((b.drop (s * 32)).take 32).map bv).length)).toArray = blkCells (bl.set i (secB bl[i] b s)) rest := by
  have hm : (((b.drop (s * 32)).take 32).map bv).length = 32 := by simp; omega
  rw [hm]
  unfold blkCells
  congr 1
  induction bl generalizing i with
  | nil => simp at hi
  | cons c bl ih =>
    have hc := h c (by simp)
    have hcl : (c.map bv).length = 128 := by simp [hc]
    cases i with
    | zero =>
      simp only [List.flatten_cons, List.map_append, List.set_cons_zero, List.getElem_cons_zero, Nat.zero_mul, Nat.zero_add, List.append_assoc]
      generalize bl.flatten.map bv ++ rest = X
      rw [List.take_append_of_le_length (by omega), List.drop_append_of_le_length (by omega)]
      simp [secB, List.map_take, List.map_drop]
    | succ i =>
      have := ih (fun x hx => h x (by simp [hx])) i (by simpa using hi)
      simp only [List.flatten_cons, List.map_append, List.set_cons_succ, List.getElem_cons_succ]
      rw [List.append_assoc (c.map bv) ((bl.set i _).flatten.map bv), ← this]
      rw [List.append_assoc (c.map bv)]
      generalize bl.flatten.map bv ++ rest = X
      rw [show (i + 1) * 128 + s * 32 = (c.map bv).length + (i * 128 + s * 32) by omega, List.take_length_add_append, show (c.map bv).length + (i * 128 + s * 32) + 32 = (c.map bv).length + (i * 128 + s * 32 + 32) by omega, List.drop_length_add_append]
      simp
set_option maxRecDepth 100000 in
set_option maxHeartbeats 4000000 in
/-- copy(e.blocks[w.at][s*Sector:(s+1)*Sector], w.b[s*Sector:(s+1)*Sector]). -/
theorem af_r10 (eb gb n7 s i nn cap : Nat) (bl : List (List UInt8)) (rest : List Value) (b : List UInt8) (cells : Array Value) (W : World) (hwf : ∀ b ∈ bl, b.length = 128) (hb : b.length = 128) (hi : i < bl.length) (hs : s < 4) (hnn : nn = bl.length) (hn : nn ≤ 1000)
    (he : W.heap[eb]? = some (.cells cells 102 (0, 0))) (he0 : cells[0]? = some (.slice (some ⟨gb, 0, none⟩) nn cap)) (hg : W.heap[gb]? = some (.cells (blkCells bl rest) 103 (0, 0))) (h7 : W.heap[n7]? = some (.cells (Value.int .i64 (i : Int) :: b.map bv).toArray 107 (0, 0)))
    {ds : List Deferred} {x0 x1 x2 x3 x4 x6 x9 x10 x11 x12 x13 x14 x15 x16 x17 x18 x19 x20 x21 x22 x23 x24 x25 x26 x27 x28 x29 x30 x31 x32 x33 x34 x35 x36 x37 x38 x39 x40 x41 x42 x43 x44 x45 x46 x47 x48 x49 x50 x51 x52 x53 x54 x55 x56 x57 x58 x59 x60 x61 x62 x63 x64 : Value} {Q : Exit → Act → World → Prop}
    (hQ : ∀ (y42 y43 y44 y45 y46 y47 y48 y49 y50 y51 y52 y53 y54 y55 y56 y57 y58 y59 y60 y61 y62 : Value) (w' : World), Fr (· = gb) W w' → w'.heap[gb]? = some (.cells (blkCells (bl.set i (secB bl[i] b s)) rest) 103 (0, 0)) → Q .normal ⟨#[x0, x1, x2, x3, x4, .pointer (some ⟨eb, 0, none⟩), x6, .pointer (some ⟨n7, 0, none⟩), .int .i64 s, x9, x10, x11, x12, x13, x14, x15, x16, x17, x18, x19, x20, x21, x22, x23, x24, x25, x26, x27, x28, x29, x30, x31, x32, x33, x34, x35, x36, x37, x38, x39, x40, x41, y42, y43, y44, y45, y46, y47, y48, y49, y50, y51, y52, y53, y54, y55, y56, y57, y58, y59, y60, y61, y62, x63, x64], ds⟩ w') :
    Code.wp Tryz.prog afR10 Q ⟨#[x0, x1, x2, x3, x4, .pointer (some ⟨eb, 0, none⟩), x6, .pointer (some ⟨n7, 0, none⟩), .int .i64 s, x9, x10, x11, x12, x13, x14, x15, x16, x17, x18, x19, x20, x21, x22, x23, x24, x25, x26, x27, x28, x29, x30, x31, x32, x33, x34, x35, x36, x37, x38, x39, x40, x41, x42, x43, x44, x45, x46, x47, x48, x49, x50, x51, x52, x53, x54, x55, x56, x57, x58, x59, x60, x61, x62, x63, x64], ds⟩ W := by
  have HQ := Lib.hid hQ
  have a0 : W.drew.cell? ⟨eb, 0, none⟩ = some (.slice (some ⟨gb, 0, none⟩) nn cap) := by rw [cellv, hp_drew, he]; exact he0
  have a1 : W.drew.cell? ⟨n7, 0, none⟩ = some (.int .i64 (i : Int)) := by rw [cellv, hp_drew, h7]; rfl
  have hsec := blk_sec bl hwf rest i hi b hb s hs
  have hsrc : ∀ j v, (((b.drop (s * 32)).take 32).map bv)[j]? = some v → cellOf W.drew.heap[n7]? (1 + s * 32 + j) = some v := by
    intro j v hj
    rw [hp_drew, h7, cellOf_cells, show 1 + s * 32 + j = (s * 32 + j) + 1 by omega]
    rw [List.map_take, List.map_drop, List.getElem?_take] at hj
    split at hj
    · rw [List.getElem?_drop] at hj
      simpa using hj
    · cases hj
  have hlen : (((b.drop (s * 32)).take 32).map bv).length = 32 := by simp; omega
  have hfit : i * 128 + s * 32 + (((b.drop (s * 32)).take 32).map bv).length ≤ (blkCells bl rest).size := by
    rw [hlen, blk_size _ hwf]; omega
  have hil : (i : Int) < nn := by omega
  have hone : ∀ v ∈ ((b.drop (s * 32)).take 32).map bv, v.oneCell' = true := bv_one _
  have hg' : W.drew.heap[gb]? = some (.cells (blkCells bl rest) 103 (0, 0)) := hg
  generalize blkCells (bl.set i (secB bl[i] b s)) rest = NB at hsec HQ
  generalize hCS : ((b.drop (s * 32)).take 32).map bv = CS at hsec hsrc hlen hfit hone
  have Hsec := Lib.hid hsec
  have Hsrc := Lib.hid hsrc
  have Hlen := Lib.hid hlen
  have Hfit := Lib.hid hfit
  have Hone := Lib.hid hone
  have Hg := Lib.hid hg'
  clear hsec hsrc hlen hfit hone hg' hg h7 he he0 hCS hwf hb hi hnn hQ
  conv => arg 2; whnf
  refine wp_region_noPanic ?_
  have hw0 : IntKind.i64.wrap 0 = 0 := IntWalk.i64_in _ (by omega)
  have hw1 : IntKind.i64.wrap 1 = 1 := IntWalk.i64_in _ (by omega)
  have hw2 : IntKind.i64.wrap 2 = 2 := IntWalk.i64_in _ (by omega)
  have hw3 : IntKind.i64.wrap 3 = 3 := IntWalk.i64_in _ (by omega)
  have hw4 : IntKind.i64.wrap 4 = 4 := IntWalk.i64_in _ (by omega)
  have hw32 : IntKind.i64.wrap 32 = 32 := IntWalk.i64_in _ (by omega)
  have hw64 : IntKind.i64.wrap 64 = 64 := IntWalk.i64_in _ (by omega)
  have hw96 : IntKind.i64.wrap 96 = 96 := IntWalk.i64_in _ (by omega)
  have hw128 : IntKind.i64.wrap 128 = 128 := IntWalk.i64_in _ (by omega)
  have hscase : s = 0 ∨ s = 1 ∨ s = 2 ∨ s = 3 := by omega
  clear hs
  rcases hscase with rfl | rfl | rfl | rfl
  · go_region_law (refine step_copy rfl (.tmp 54) (.tmp 61) 92 92 rfl 5 Tryz.underlying92 Tryz.info5sz gb (i * 128 + 0 * 32) 32 (128 - 0 * 32) rfl n7 (1 + 0 * 32) 32 (128 - 0 * 32) rfl (blkCells bl rest) 103 Hg.out CS (by rw [Hlen.out]; rfl) Hsrc.out Hfit.out Hone.out ?_; intro w2 Y hY hg2 hf2)
    all_goals exact NoPanic.normal (HQ.out _ _ _ _ _ _ _ _ _ _ _ _ _ _ _ _ _ _ _ _ _ w2 ((Fr.refl _ W).drew.trans hf2) (by rw [hg2, hY.out, Hsec.out]))
  · go_region_law (refine step_copy rfl (.tmp 54) (.tmp 61) 92 92 rfl 5 Tryz.underlying92 Tryz.info5sz gb (i * 128 + 1 * 32) 32 (128 - 1 * 32) rfl n7 (1 + 1 * 32) 32 (128 - 1 * 32) rfl (blkCells bl rest) 103 Hg.out CS (by rw [Hlen.out]; rfl) Hsrc.out Hfit.out Hone.out ?_; intro w2 Y hY hg2 hf2)
    all_goals exact NoPanic.normal (HQ.out _ _ _ _ _ _ _ _ _ _ _ _ _ _ _ _ _ _ _ _ _ w2 ((Fr.refl _ W).drew.trans hf2) (by rw [hg2, hY.out, Hsec.out]))
  · go_region_law (refine step_copy rfl (.tmp 54) (.tmp 61) 92 92 rfl 5 Tryz.underlying92 Tryz.info5sz gb (i * 128 + 2 * 32) 32 (128 - 2 * 32) rfl n7 (1 + 2 * 32) 32 (128 - 2 * 32) rfl (blkCells bl rest) 103 Hg.out CS (by rw [Hlen.out]; rfl) Hsrc.out Hfit.out Hone.out ?_; intro w2 Y hY hg2 hf2)
    all_goals exact NoPanic.normal (HQ.out _ _ _ _ _ _ _ _ _ _ _ _ _ _ _ _ _ _ _ _ _ w2 ((Fr.refl _ W).drew.trans hf2) (by rw [hg2, hY.out, Hsec.out]))
  · go_region_law (refine step_copy rfl (.tmp 54) (.tmp 61) 92 92 rfl 5 Tryz.underlying92 Tryz.info5sz gb (i * 128 + 3 * 32) 32 (128 - 3 * 32) rfl n7 (1 + 3 * 32) 32 (128 - 3 * 32) rfl (blkCells bl rest) 103 Hg.out CS (by rw [Hlen.out]; rfl) Hsrc.out Hfit.out Hone.out ?_; intro w2 Y hY hg2 hf2)
    all_goals exact NoPanic.normal (HQ.out _ _ _ _ _ _ _ _ _ _ _ _ _ _ _ _ _ _ _ _ _ w2 ((Fr.refl _ W).drew.trans hf2) (by rw [hg2, hY.out, Hsec.out]))
end Go.Proofs.YtkafmfdipmhleaaGreatDoor

namespace Go.Proofs.YtkafmfdipmhleaaGreatDoor
open Go.RowKit Go.Maps

/-- A slice whose numbers read as l, in whatever block. -/
def IntsIn (w : World) (v : Value) (l : List Int) : Prop :=
  (l = [] ∧ ∃ a c, v = .slice a 0 c) ∨ ∃ b off cap, v = .slice (some ⟨b, off, none⟩) l.length cap ∧ ∀ j x, l[j]? = some x → w.cell? ⟨b, off + j, none⟩ = some (.int .i64 x)
theorem IntsIn.shape {w : World} {v : Value} {l : List Int} (h : IntsIn w v l) : ∃ a c, v = .slice a l.length c := by
  rcases h with ⟨rfl, a, c, e⟩ | ⟨b, off, cap, e, _⟩
  · exact ⟨a, c, e⟩
  · exact ⟨_, _, e⟩
theorem IntsIn.at {w : World} {a : Option Addr} {m c : Nat} {l : List Int} (h : IntsIn w (.slice a m c) l) (k : Nat) (x : Int) (hx : l[k]? = some x) : ∃ b off, a = some ⟨b, off, none⟩ ∧ ∀ w', New w w' → w'.cell? ⟨b, off + k, none⟩ = some (.int .i64 x) := by
  rcases h with ⟨rfl, _⟩ | ⟨b, off, cap, e, h2⟩
  · simp at hx
  · simp only [Value.slice.injEq] at e
    refine ⟨b, off, e.1, fun w' hf => ?_⟩
    have h0 := h2 k x hx
    have hlt := World.block_lt_of_cell? w _ h0
    rw [← h0]
    exact World.cell?_of_block (hf.block b hlt (fun f => f))
set_option maxRecDepth 100000 in
set_option maxHeartbeats 2000000 in
theorem few_in {w : World} {v : Value} {l : List Int} (h : IntsIn w v l) (n : Nat) (hn : n ≤ 1000) :
    Calls Tryz.prog 14 #[v, .int .i64 n] w (FewPost w l n) := by
  obtain ⟨a, c, rfl⟩ := h.shape
  have Hi := Lib.hid h
  obtain ⟨i0, hi, hz0, hz1, hz2⟩ := info_parts Tryz.info3z
  clear h
  go_enter Tryz.func14, Tryz.ntmps14
  go_wp2_with fail
  go_loopw [5, 6] (fun sv i wr => ∃ k : Nat, k ≤ n ∧ k ≤ l.length ∧ i = .int .i64 (k : Nat) ∧ wr.ownsRow w.heap.size 3 1 sv k ((l.take k).map encZ) ∧ New w wr) (fun _ i _ => n - (intOf i).toNat)
  case atStart => exact ⟨0, Nat.zero_le _, Nat.zero_le _, rfl, World.ownsRow_nil w w.heap.size 3 1, Fr.refl _ _⟩
  case round =>
    obtain ⟨k, hk, hkl, rfl, hown, hfr⟩ := hrel
    have Hown := Lib.hid hown
    have Hfr := Lib.hid hfr
    clear hown hfr
    by_cases h1 : k < l.length
    · by_cases h2 : k < n
      · obtain ⟨b, off, rfl, hcell⟩ := Hi.out.at k l[k] (by simp [h1])
        have hc := hcell wr Hfr.out
        have hk1 : (k : Int) < l.length := by omega
        have hk2 : (k : Int) < n := by omega
        have htk : l.take (k + 1) = l.take k ++ [l[k]] := List.take_succ_eq_append_getElem h1
        generalize l[k] = x at hc htk
        have Htk := Lib.hid htk
        have hoA := Lib.hid (Hown.out.alloc (.cells #[.int .i64 x] 3))
        have hnews : ∀ (j : Nat) (u : Value), [Value.int .i64 x][j]? = some u → (wr.alloc (.cells #[.int .i64 x] 3)).cell? ((⟨wr.heap.size, 0, none⟩ : Addr).add j) = some u := World.news_of_block (heap_alloc_new wr _)
        have Hnews := Lib.hid hnews
        clear htk hnews hcell
        have hkn : Hid (k < n ∧ k < l.length) := ⟨h2, h1⟩
        go_wp2_with (first
          | (at_builtin; refine wpList_append_own _ rfl _ _ 22 rfl w.heap.size 3 i0 (.int .i64 0) 1 8 Tryz.underlying22 hi hz0 hz1 hz2 rfl (by decide) _ _ _ rfl hoA.out ⟨wr.heap.size, 0, none⟩ 1 1 [.int .i64 x] rfl rfl Hnews.out (by intro u hu; simp at hu; subst hu; rfl) (by unfold maxLen; omega) (by omega) (by have := Hfr.out.size; simp; omega) ?_; intro sv' w1 hown1 hg1 _; go_frame)
          | fail)
        go_roundw
        case rel =>
          refine ⟨k + 1, hkn.out.1, hkn.out.2, by go_num, ?_, ?_⟩
          · rw [Htk.out, List.map_append]
            exact hown1
          · refine (Hfr.out.alloc _).trans' (Fr.ofGrown hg1) (fun i hi e => ?_)
            have := (Hown.out.lt i e).1
            omega
        case measure => have := hkn.out; simp [intOf]; omega
      · have hk2 : ¬ (k : Int) < n := by omega
        have hk1 : (k : Int) < l.length := by omega
        have he : Hid (k = n) := by show _ = _; omega
        go_wp2_with fail
        go_ret
        refine ⟨_, rfl, ?_, Hfr.out⟩
        have := Hown.out
        rw [he.out] at this
        rw [List.length_take, Nat.min_eq_left (by have := he.out; omega)]
        exact this
    · have hk1 : ¬ (k : Int) < l.length := by omega
      have he : Hid (k = l.length ∧ l.length ≤ n) := by show _ ∧ _; omega
      go_wp2_with fail
      go_ret
      refine ⟨_, rfl, ?_, Hfr.out⟩
      have := Hown.out
      rw [he.out.1, List.take_length] at this
      rw [List.take_of_length_le he.out.2]
      exact this


end Go.Proofs.YtkafmfdipmhleaaGreatDoor

namespace Go.Proofs.YtkafmfdipmhleaaGreatDoor
open Go.RowKit Go.Maps

theorem ints_New {w w' : World} {v : Value} {l : List Int} (h : IntsIn w v l) (hf : New w w') : IntsIn w' v l := by
  rcases h with h | ⟨b, off, cap, e, h2⟩
  · exact .inl h
  · refine .inr ⟨b, off, cap, e, fun j x hx => ?_⟩
    have h0 := h2 j x hx
    have hlt := World.block_lt_of_cell? w _ h0
    rw [← h0]; exact World.cell?_of_block (hf.block b hlt (fun f => f))
/-- Does the sector survive? -/
def bitK (k : Int) (s : Nat) : Bool := (bits BinOp.and IntKind.i64 (k / 2 ^ s) 1 == 1)
/-- A block behind a failure of power: of a write those sectors that k names. -/
def tearB (old new : List UInt8) (k : Int) : Nat → List UInt8
  | 0 => old
  | s + 1 => if bitK k s then secB (tearB old new k s) new s else tearB old new k s
theorem tearB_len (old new : List UInt8) (k : Int) (h1 : old.length = 128) (h2 : new.length = 128) (s : Nat) (hs : s ≤ 4) : (tearB old new k s).length = 128 := by
  induction s with
  | zero => exact h1
  | succ s ih =>
    unfold tearB
    split
    · exact secB_len _ _ _ (ih (by omega)) h2 (by omega)
    · exact ih (by omega)
def DiskM.after (d : DiskM) (l : List Int) : DiskM :=
  ⟨(match d.pend, l with | some (i, b), k :: _ => d.blocks.set i (tearB (d.blocks.getD i []) b k 4) | _, _ => d.blocks), none, 0, 0, 0, -1, 0, 0⟩
def AfterPost (w : World) (d : DiskM) (l : List Int) (e : Ending) (w' : World) : Prop :=
  ∃ eb gb, w.heap.size ≤ eb ∧ w.heap.size ≤ gb ∧ e = .returned (.pointer (some ⟨eb, 0, none⟩)) ∧ DiskAt w' eb gb (d.after l) ∧ New w w'
set_option maxRecDepth 100000 in
set_option maxHeartbeats 4000000 in
theorem After_calls {w : World} {db bb : Nat} {d : DiskM} {v : Value} {l : List Int} (h : DiskAt w db bb d) (hn : 1 ≤ d.blocks.length ∧ d.blocks.length ≤ 1000) (hv : IntsIn w v l) :
    Calls Tryz.prog 29 #[.pointer (some ⟨db, 0, none⟩), v] w (AfterPost w d l) := by
  obtain ⟨i0, z, hi, hz, hs, hb, hzc⟩ : ∃ i z, Tryz.prog.info? 103 = some i ∧ i.zero = some z ∧ i.size = 128 ∧ i.bytes = 128 ∧ z.cells = Array.replicate 128 (.int .u8 0) := by
    have hx : (Tryz.prog.info? 103).map (fun i => (i.zero.map (·.cells), i.size, i.bytes)) = some (some (Array.replicate 128 (.int .u8 0)), 128, 128) := by kernel_rfl
    cases hi : Tryz.prog.info? 103 with
    | none => rw [hi] at hx; cases hx
    | some i =>
      rw [hi] at hx
      simp only [Option.map_some, Option.some.injEq, Prod.mk.injEq] at hx
      obtain ⟨h1, h2, h3⟩ := hx
      cases hz : i.zero with
      | none => rw [hz] at h1; cases h1
      | some z => rw [hz] at h1; exact ⟨i, z, rfl, hz, h2, h3, Option.some.inj h1⟩
  have hzs : z.cells.size = 128 := by rw [hzc]; simp
  obtain ⟨hwf, cap, rest, cv, h1, h2, h3⟩ := h
  obtain ⟨ka, kc, rfl⟩ := hv.shape
  have H2 := Lib.hid h2
  have H1 := Lib.hid h1
  have Hwf := Lib.hid hwf
  have H3 := Lib.hid h3
  have Hn := Lib.hid hn
  have Hv := Lib.hid hv
  have hflat : (d.blocks.flatten.map bv).length = d.blocks.length * 128 := by
    have := blk_size d.blocks hwf.1 []
    simpa [blkCells] using this
  have hnews : ∀ (j : Nat) (u : Value), (d.blocks.flatten.map bv)[j]? = some u → w.cell? ((⟨bb, 0, none⟩ : Addr).add j) = some u := by
    intro j u hj
    rw [Addr.add_mid, cellv, h2, Nat.zero_add, cellOf_cells, blkCells, List.getElem?_toArray, List.getElem?_append_left (List.getElem?_eq_some_iff.1 hj).1]
    exact hj
  have hone : ∀ u ∈ d.blocks.flatten.map bv, u.oneCell' = true := bv_one _
  have HB := Lib.hid (And.intro hflat (And.intro hnews hone))
  simp only [dkCells] at h1
  clear h2 hwf h3 hn hv hflat hnews hone hzc
  have hcv := cellv w
  go_enter Tryz.func29, Tryz.ntmps29
  go_upto_region 2 with (first
    | (at_builtin; refine wpList_append_own _ rfl _ _ 99 rfl w.heap.size 103 i0 z 128 128 Tryz.underlying99 hi hz hs hb hzs (by decide) (.slice none 0 0) 0 [] rfl (World.ownsRow_nil _ _ _ _) ⟨bb, 0, none⟩ d.blocks.length cap (d.blocks.flatten.map bv) rfl HB.out.1 HB.out.2.1 HB.out.2.2 (by have := Hn.out; unfold maxLen; omega) (by have := Hn.out; omega) (Nat.le_refl _) ?_; intro v1 w1 hown1 hg1 _; obtain ⟨g, gcap, rfl⟩ : ∃ g gcap, v1 = .slice (some ⟨g, 0, none⟩) d.blocks.length gcap := (by rcases hown1.2 with ⟨_, h0⟩ | ⟨g, cap, cur, h0, _⟩; (have := Hn.out; omega); exact ⟨g, cap, by rw [h0, Nat.zero_add]⟩); go_frame)
    | fail)
  obtain ⟨hgl, cur, rest', hgb, hcur⟩ : w.heap.size ≤ g ∧ ∃ cur rest', w1.heap[g]? = some (.cells cur 103 (0, 0)) ∧ cur = blkCells d.blocks rest' := by
    rcases hown1.2 with ⟨_, h0⟩ | ⟨g', cap', cur, h0, hbg, hgb, hcap, _, hsz, htk⟩
    · have := Hn.out; omega
    · simp only [Value.slice.injEq, Option.some.injEq, Addr.mk.injEq] at h0
      obtain ⟨⟨rfl, _⟩, _⟩ := h0
      refine ⟨hbg, cur, cur.toList.drop ((0 + d.blocks.length) * 128), hgb, ?_⟩
      unfold blkCells
      rw [← List.nil_append (d.blocks.flatten.map bv), ← htk, List.take_append_drop]
  subst hcur
  have hf1 : New w w1 := (Fr.ofGrown hg1).mono (fun _ _ e => by cases e)
  have HNe : Hid (g ≠ w1.heap.size) := fun e => by have := lt_of_hp hgb; omega
  have he2 := heap_alloc_new w1 (.cells #[.slice (some ⟨g, 0, none⟩) d.blocks.length gcap, .slice none 0 0, .int .i64 0, .int .i64 0, .int .i64 0, .int .i64 (-1), .int .i64 0, .int .i64 0] 102)
  have hg2 := heap_alloc_keep (.cells #[.slice (some ⟨g, 0, none⟩) d.blocks.length gcap, .slice none 0 0, .int .i64 0, .int .i64 0, .int .i64 0, .int .i64 (-1), .int .i64 0, .int .i64 0] 102) hgb
  have hf2 := hf1.alloc (.cells #[.slice (some ⟨g, 0, none⟩) d.blocks.length gcap, .slice none 0 0, .int .i64 0, .int .i64 0, .int .i64 0, .int .i64 (-1), .int .i64 0, .int .i64 0] 102)
  have hel : w.heap.size ≤ w1.heap.size := hf1.size
  generalize w1.alloc (.cells #[.slice (some ⟨g, 0, none⟩) d.blocks.length gcap, .slice none 0 0, .int .i64 0, .int .i64 0, .int .i64 0, .int .i64 (-1), .int .i64 0, .int .i64 0] 102) = W at he2 hg2 hf2 ⊢
  generalize w1.heap.size = eb at he2 hel HNe ⊢
  have He2 := Lib.hid he2
  have Hg2 := Lib.hid hg2
  have Hf2 := Lib.hid hf2
  have Hel := Lib.hid hel
  have Hgl := Lib.hid hgl
  have hdb := hf2.get H1.out (fun f => f)
  have Hdb := Lib.hid hdb
  simp only [dkCells] at hdb
  clear hcv h1 hown1 hg1 hgb hf1 he2 hg2 hf2 hel hgl hi hz hs hb hzs
  have hcv := cellv W
  have h3 := H3.out
  cases hp : d.pend with
  | none =>
    rw [hp] at h3
    obtain rfl : cv = .slice none 0 0 := h3
    go_wp2_with fail
    refine wp_loop_rounds 1 ?_
    rw [rounds_succ]
    go_wp2_with fail
    go_ret
    have hbl : (d.after l).blocks = d.blocks := by simp [DiskM.after, hp]
    refine ⟨eb, g, Hel.out, Hgl.out, rfl, ⟨⟨by rw [hbl]; exact Hwf.out.1, fun p hp => by cases hp⟩, gcap, rest', .slice none 0 0, ?_, ?_, rfl⟩, Hf2.out⟩
    · rw [He2.out]; simp [dkCells, DiskM.after, hp]
    · rw [Hg2.out, hbl]
  | some p =>
    obtain ⟨i, b⟩ := p
    rw [hp] at h3
    obtain ⟨cb, ccap, rest2, rfl, hcb⟩ := h3
    obtain ⟨hpi, hpb⟩ := Hwf.out.2 _ hp
    have hpb' : b.length = 128 := hpb
    have hpi' : i < d.blocks.length := hpi
    have hcb2 := Hf2.out.get hcb (fun f => f)
    have hw1 : ∀ q v, (Value.int .i64 (i : Int) :: b.map bv)[q]? = some v → cellOf W.heap[cb]? (0 + q) = some v := by
      intro q v hq
      rw [hcb2, cellOf_cells, Nat.zero_add, wrCells, List.getElem?_toArray, List.getElem?_append_left (List.getElem?_eq_some_iff.1 hq).1]
      exact hq
    have hw2 : (Value.int .i64 (i : Int) :: b.map bv).length = 129 := by simp [hpb']
    have hw3 : (Value.int .i64 (i : Int) :: b.map bv).toArray.all (·.oneCell') = true := all_oneCell_toArray (by
      intro v hv
      rcases List.mem_cons.1 hv with rfl | hv
      · rfl
      · exact bv_one b v hv)
    have HCW : Hid (∃ CW, CW = (Value.int .i64 (i : Int) :: b.map bv)) := ⟨_, rfl⟩
    generalize hCW : (Value.int .i64 (i : Int) :: b.map bv) = CW at hw1 hw2 hw3
    have Hw1 := Lib.hid hw1
    have Hw3 := Lib.hid hw3
    have Hi1 := Lib.hid (show (Tryz.prog.info? 107).map (·.size) = some CW.length by rw [hw2]; exact Tryz.info107s)
    have Hi2 := Lib.hid (show (Tryz.prog.info? 107).map (·.size) = some CW.toArray.size by rw [List.size_toArray, hw2]; exact Tryz.info107s)
    have Hi3 := Lib.hid (Tryz.zc107.trans (show 129 = CW.toArray.size by rw [List.size_toArray, hw2]))
    have Hp := Lib.hid hp
    have Hpb := Lib.hid hpb'
    have Hpi := Lib.hid hpi'
    have HCWe := Lib.hid hCW
    clear hw1 hw2 hw3 hCW hp hpb hpb' hpi hpi' hcb hcb2 HCW
    go_wp2_with fail
    refine wp_loop_rounds 2 ?_
    rw [rounds_succ]
    go_upto_region 5 with (first
      | (refine wpl_load rfl 107 (.tmp 24) rfl cb 0 rfl CW _ Hw1.out Tryz.underlying107 rfl Hi1.out ?_)
      | (refine wpl_store_new rfl 107 (.tmp 7) (.tmp 25) rfl W.heap.size CW.toArray Tryz.zeroCells107 107 rfl rfl rfl Hi2.out Hi3.out Hw3.out ?_)
      | fail)
    have hn4 := heap_alloc_new W (.cells CW.toArray 107)
    have hF4 := (Fr.refl (fun _ => False) W).alloc (.cells CW.toArray 107)
    generalize W.alloc (.cells CW.toArray 107) = W4 at hn4 hF4 ⊢
    have hNs : Hid (eb < W.heap.size ∧ g < W.heap.size) := ⟨lt_of_hp He2.out, lt_of_hp Hg2.out⟩
    generalize W.heap.size = n7 at hn4 hNs ⊢
    have Hn4 := Lib.hid hn4
    have HF4 := Lib.hid hF4
    clear hn4 hF4 hcv hdb
    cases l with
    | nil =>
      go_wp2_with fail
      go_ret
      have hbl : (d.after []).blocks = d.blocks := by simp [DiskM.after, Hp.out]
      refine ⟨eb, g, Hel.out, Hgl.out, rfl, ⟨⟨by rw [hbl]; exact Hwf.out.1, fun p hp => by cases hp⟩, gcap, rest', .slice none 0 0, ?_, ?_, rfl⟩, Hf2.out.trans HF4.out⟩
      · rw [HF4.out.get He2.out (fun f => f)]; simp [dkCells, DiskM.after, Hp.out]
      · rw [HF4.out.get Hg2.out (fun f => f), hbl]
    | cons k0 l =>
      have hkl : (0 : Int) < (k0 :: l).length := by simp <;> omega
      go_wp2_with fail
      go_loopw [8] (fun sv wr => ∃ s : Nat, s ≤ 4 ∧ sv = .int .i64 (s : Nat) ∧ Fr (· = g) W4 wr ∧ wr.heap[g]? = some (.cells (blkCells (d.blocks.set i (tearB (d.blocks.getD i []) b k0 s)) rest') 103 (0, 0))) (fun sv _ => 4 - (intOf sv).toNat)
      case atStart => exact ⟨0, Nat.zero_le _, rfl, Fr.refl _ _, by
        rw [HF4.out.get Hg2.out (fun f => f), show tearB (d.blocks.getD i []) b k0 0 = d.blocks.getD i [] from rfl, List.getD_eq_getElem?_getD, List.getElem?_eq_getElem Hpi.out, Option.getD_some, List.set_getElem_self]⟩
      case round =>
        obtain ⟨s, hs, rfl, hfs, hgs⟩ := hrel
        have Hfs := Lib.hid hfs
        have Hgs := Lib.hid hgs
        have Hs4 := Lib.hid hs
        clear hfs hgs hs
        by_cases hs4 : s < 4
        · obtain ⟨kb, koff, rfl, hkc⟩ := Hv.out.at 0 k0 rfl
          have hk0 : wr.cell? ⟨kb, koff, none⟩ = some (.int .i64 k0) := by
            have h0 := hkc w (Fr.refl _ _)
            have hlt := World.block_lt_of_cell? w _ h0
            rw [Nat.add_zero] at h0
            have h1 : W4.cell? ⟨kb, koff, none⟩ = some (.int .i64 k0) := (World.cell?_of_block ((Hf2.out.trans HF4.out).block kb hlt (fun f => f))).trans h0
            exact (World.cell?_of_block (Hfs.out.block kb (World.block_lt_of_cell? W4 _ h1) (fun e => by have := Hgl.out; simp only at hlt; omega))).trans h1
          have hs4I : (s : Int) < 4 := by omega
          have hts : tearB (d.blocks.getD i []) b k0 (s + 1) = if bitK k0 s then secB (tearB (d.blocks.getD i []) b k0 s) b s else tearB (d.blocks.getD i []) b k0 s := rfl
          have Hts := Lib.hid hts
          clear hkc hts
          cases hbit : bitK k0 s
          · have hbit' : (bits BinOp.and IntKind.i64 (k0 / 2 ^ s) 1 == 1) = false := hbit
            have Hbit := Lib.hid hbit
            clear hbit
            go_wp2_with fail
            go_roundw
            case rel => exact ⟨s + 1, hs4, by go_num, Hfs.out, by rw [Hts.out, Hbit.out]; exact Hgs.out⟩
            case measure => simp [intOf]; omega
          · have hbit' : (bits BinOp.and IntKind.i64 (k0 / 2 ^ s) 1 == 1) = true := hbit
            have Hbit := Lib.hid hbit
            clear hbit
            go_upto_region 10 with fail
            have hold : (d.blocks.getD i []).length = 128 := by
              rw [List.getD_eq_getElem?_getD, List.getElem?_eq_getElem Hpi.out]; exact Hwf.out.1 _ (List.getElem_mem Hpi.out)
            have hil : i < (d.blocks.set i (tearB (d.blocks.getD i []) b k0 s)).length := by rw [List.length_set]; exact Hpi.out
            refine af_r10 eb g n7 s i d.blocks.length gcap (d.blocks.set i (tearB (d.blocks.getD i []) b k0 s)) rest' b #[.slice (some ⟨g, 0, none⟩) d.blocks.length gcap, .slice none 0 0, .int .i64 0, .int .i64 0, .int .i64 0, .int .i64 (-1), .int .i64 0, .int .i64 0] wr ?_ Hpb.out hil hs4 (by rw [List.length_set]) Hn.out.2
              (Hfs.out.get (HF4.out.get He2.out (fun f => f)) (fun e => HNe.out e.symm)) rfl Hgs.out (Hfs.out.get (by rw [HCWe.out]; exact Hn4.out) (fun e => by have := hNs.out; omega)) ?_
            · intro x hx
              rcases List.mem_or_eq_of_mem_set hx with hx | rfl
              · exact Hwf.out.1 x hx
              · exact tearB_len _ _ _ hold Hpb.out s (by omega)
            intro y42 y43 y44 y45 y46 y47 y48 y49 y50 y51 y52 y53 y54 y55 y56 y57 y58 y59 y60 y61 y62 w' hf' hg'
            rw [List.set_set, List.getElem_set_self] at hg'
            have Hf' := Lib.hid hf'
            have Hg' := Lib.hid hg'
            clear hf' hg' hold hil
            go_wp2_with fail
            go_roundw
            case rel => exact ⟨s + 1, hs4, by go_num, Hfs.out.trans Hf'.out, by rw [Hts.out, Hbit.out]; exact Hg'.out⟩
            case measure => simp [intOf]; omega
        · obtain rfl : s = 4 := by have := Hs4.out; omega
          go_wp2_with fail
          rw [rounds_succ]
          go_wp2_with fail
          go_ret
          have hbl : (d.after (k0 :: l)).blocks = d.blocks.set i (tearB (d.blocks.getD i []) b k0 4) := by simp [DiskM.after, Hp.out]
          have hold : (d.blocks.getD i []).length = 128 := by
            rw [List.getD_eq_getElem?_getD, List.getElem?_eq_getElem Hpi.out]; exact Hwf.out.1 _ (List.getElem_mem Hpi.out)
          refine ⟨eb, g, Hel.out, Hgl.out, rfl, ⟨⟨?_, fun p hp => by cases hp⟩, gcap, rest', .slice none 0 0, ?_, ?_, rfl⟩, (Hf2.out.trans HF4.out).trans' Hfs.out (fun k hk e => by have := Hgl.out; omega)⟩
          · rw [hbl]
            intro x hx
            rcases List.mem_or_eq_of_mem_set hx with hx | rfl
            · exact Hwf.out.1 x hx
            · exact tearB_len _ _ _ hold Hpb.out 4 (by omega)
          · rw [Hfs.out.get (HF4.out.get He2.out (fun f => f)) (fun e => HNe.out e.symm)]; simp [dkCells, DiskM.after, Hp.out]
          · rw [Hgs.out, hbl]
end Go.Proofs.YtkafmfdipmhleaaGreatDoor

namespace Go.Proofs.YtkafmfdipmhleaaGreatDoor
open Go.RowKit Go.Maps

/-- A map is updated: as one step of a region that draws. -/
theorem step_mapUpdate {H : Type} {P : Program} (w : World) {ops : Array Oper} {o : Oper} {a : Act} {K' : Act → World → Prop} {Q : Exit → Act → World → Prop} {E : Prop}
    (hg : o.guard = none) (m x v : Operand) (t : TypeId) (hop : o.op = Op.mapUpdate t m x v)
    (k e : TypeId) (K : Keyed P k) (ht : P.underlying t = some (.map k e)) (R : Value → Option (DataW H × List MemPlace)) (b n : Nat) (D : DataW H)
    (hm : a.eval m = .map (some b)) (hown : w.ownsMap P k R b n D) (hn : n < maxLen) (key val : Value) (kl : Lit) (hx : a.eval x = key) (hv : a.eval v = val) (hkey : keyOf P k key = some kl)
    (d : DataW H) (ps : List MemPlace) (hval : R val = some (d, ps))
    (hK : ∀ w', w'.ownsMap P k R b (n + 1) (D.put kl d) → w.grownBy w' (some b) → K' (a.put o.dst undef) w') :
    if Region.wanted o (yielded ops a.tmps) = true then Oper.wp P o a w K' Q else E := by
  have hw : Region.wanted o (yielded ops a.tmps) = true := by simp [Region.wanted, hg]
  rw [if_pos hw]
  obtain ⟨w', hrun, r1, r2⟩ := hown.update K ht hn hkey hval
  unfold Oper.wp
  simp [execOp, hop, hm, hx, hv, hrun, Result.andThen]
  exact hK w' r1 r2
/-- The engine while its journal is being read: its map. -/
structure RdAt (w : World) (C xb mb : Nat) (bl : List Nat) (l : List SagaM) : Prop where
  cap : w.heap[C]? = some (.cells #[.pointer (some ⟨xb, 0, none⟩)] 28 (0, 0))
  eng : ∃ c0 c2 c3 c4 c5, w.heap[xb]? = some (.cells #[c0, .map (some mb), c2, c3, c4, c5] 79 (0, 0))
  mp : w.ownsMap Tryz.prog 3 ptrR mb l.length (dataOf (ilOf l bl))
  len : bl.length = l.length
  sg : ∀ (i : Nat) (g : SagaM) (b : Nat), l[i]? = some g → bl[i]? = some b → SagaAt w b g
  nd : bl.Nodup
def TakenPost (w : World) (C xb mb : Nat) (bl : List Nat) (l : List SagaM) (g : SagaM) (e : Ending) (w' : World) : Prop :=
  e = .returned (.tuple #[]) ∧ (∃ bl', RdAt w' C xb mb bl' (insSaga g l) ∧ ∀ b ∈ bl', b ∈ bl ∨ w.heap.size ≤ b) ∧ Fr (· = mb) w w'
set_option maxRecDepth 100000 in
set_option maxHeartbeats 4000000 in
theorem taken_calls {w : World} {C xb mb : Nat} {bl : List Nat} {l : List SagaM} {id : Int} {st : List (ByteArray × ByteArray)} {v : Value} (h : RdAt w C xb mb bl l) (hv : StepsAt w v st) (hl : 1 ≤ st.length ∧ st.length ≤ 1000) (hid : 1 ≤ id ∧ id ≤ 1000) (hn : ∀ x ∈ l, x.id ≠ id) (hlen : l.length ≤ 1000) :
    Calls Tryz.prog 81 #[.int .i64 id, v, .pointer (some ⟨C, 0, none⟩)] w (TakenPost w C xb mb bl l (SagaM.new id st)) := by
  obtain ⟨c0, c2, c3, c4, c5, he⟩ := h.eng
  have hC : C ≠ mb ∧ xb ≠ mb := by
    obtain ⟨es, clock, hb, _⟩ := h.mp
    exact ⟨ne_of_kind h.cap hb (by simp [kindOf]), ne_of_kind he hb (by simp [kindOf])⟩
  have HN := Lib.hid (New_calls (w := w.drew) id st v (hv.frame ((Fr.refl (fun _ => False) w).drew) (fun _ f => f.elim)) hl)
  have HK := Lib.hid (show ∀ w' : World, Fr (· = mb) w.drew w' → w'.cell? ⟨C, 0, none⟩ = some (.pointer (some ⟨xb, 0, none⟩)) ∧ w'.cell? ⟨xb, 1, none⟩ = some (.map (some mb)) from by
    intro w' hf
    have h1 := hf.get (w := w.drew) h.cap hC.1
    have h2 := hf.get (w := w.drew) he hC.2
    exact ⟨by rw [cellv, h1]; rfl, by rw [cellv, h2]; rfl⟩)
  have hk0 := HK.out w.drew (Fr.refl _ _)
  have HM := Lib.hid (fun (w2 : World) (hf : New w.drew w2) => map_keepK h.mp (((Fr.refl (fun _ => False) w).drew.trans hf).toK (K := []) (fun _ _ f _ => f.elim)) (by simp))
  have Hkey := Lib.hid (keyI id (by omega))
  have H := Lib.hid h
  have Hn := Lib.hid hn
  have HidB := Lib.hid hid
  have Hlen : Hid (l.length < maxLen) := by show _ < maxLen; unfold maxLen; omega
  clear h he hC hv hl hid hn hlen
  go_enter Tryz.func81, Tryz.ntmps81
  go_wp2_with fail
  refine wp_region_noPanic ?_
  refine wp_region_held_drew (S := (fun w' => w'.cell? ⟨C, 0, none⟩ = some (.pointer (some ⟨xb, 0, none⟩)) ∧ w'.cell? ⟨xb, 1, none⟩ = some (.map (some mb)))) (by kernel_rfl) (HK.out _ (Fr.refl _ _)) (fun hHeld => ?_)
  refine wpAnyH_take (i := 0) (v := ?vd0) rfl (by kernel_rfl) (by kernel_rfl) (by kernel_rfl) (fun _ _ _ h => h) (Or.inl ⟨by rfl, ?yd0⟩) hHeld ?rd0
  case yd0 => intro w hSw; (try dsimp only at hSw); go_simp; (try with_reducible rfl)
  simp only [List.getElem_toArray, List.getElem_cons_zero, List.getElem_cons_succ, Act.put, List.setIfInBounds_toArray, List.set_cons_zero, List.set_cons_succ]
  refine wpAnyH_take (i := 1) (v := ?vd1) rfl (by kernel_rfl) (by kernel_rfl) (by kernel_rfl) (fun _ _ _ h => h) (Or.inl ⟨by rfl, ?yd1⟩) hHeld ?rd1
  case yd1 => intro w hSw; (try dsimp only at hSw); go_simp; (try with_reducible rfl)
  simp only [List.getElem_toArray, List.getElem_cons_zero, List.getElem_cons_succ, Act.put, List.setIfInBounds_toArray, List.set_cons_zero, List.set_cons_succ]
  refine wpAnyH_take (i := 2) (v := ?vd2) rfl (by kernel_rfl) (by kernel_rfl) (by kernel_rfl) (fun _ _ _ h => h) (Or.inl ⟨by rfl, ?yd2⟩) hHeld ?rd2
  case yd2 => intro w hSw; (try dsimp only at hSw); go_simp; (try with_reducible rfl)
  simp only [List.getElem_toArray, List.getElem_cons_zero, List.getElem_cons_succ, Act.put, List.setIfInBounds_toArray, List.set_cons_zero, List.set_cons_succ]
  refine wpAnyH_take (i := 3) (v := ?vd3) rfl (by kernel_rfl) (by kernel_rfl) (by kernel_rfl) (fun _ _ _ h => h) (Or.inl ⟨by rfl, ?yd3⟩) hHeld ?rd3
  case yd3 => intro w hSw; (try dsimp only at hSw); go_simp; (try with_reducible rfl)
  simp only [List.getElem_toArray, List.getElem_cons_zero, List.getElem_cons_succ, Act.put, List.setIfInBounds_toArray, List.set_cons_zero, List.set_cons_succ]
  refine wpAnyH_take (i := 4) (v := ?vd4) rfl (by kernel_rfl) (by kernel_rfl) (by kernel_rfl) (fun _ _ _ h => h) (Or.inl ⟨by rfl, ?yd4⟩) hHeld ?rd4
  case yd4 => intro w hSw; (try dsimp only at hSw); go_simp; (try with_reducible rfl)
  simp only [List.getElem_toArray, List.getElem_cons_zero, List.getElem_cons_succ, Act.put, List.setIfInBounds_toArray, List.set_cons_zero, List.set_cons_succ]
  refine wpAnyH_take (i := 5) (v := ?vd5) rfl (by kernel_rfl) (by kernel_rfl) (by kernel_rfl) (fun _ _ _ h => h) (Or.inl ⟨by rfl, ?yd5⟩) hHeld ?rd5
  case yd5 => intro w hSw; (try dsimp only at hSw); go_simp; (try with_reducible rfl)
  simp only [List.getElem_toArray, List.getElem_cons_zero, List.getElem_cons_succ, Act.put, List.setIfInBounds_toArray, List.set_cons_zero, List.set_cons_succ]
  refine wpAnyH_take (i := 6) (v := ?vd6) rfl (by kernel_rfl) (by kernel_rfl) (by kernel_rfl) (fun _ _ _ h => h) (Or.inl ⟨by rfl, ?yd6⟩) hHeld ?rd6
  case yd6 => intro w hSw; (try dsimp only at hSw); go_simp; (try with_reducible rfl)
  simp only [List.getElem_toArray, List.getElem_cons_zero, List.getElem_cons_succ, Act.put, List.setIfInBounds_toArray, List.set_cons_zero, List.set_cons_succ]
  refine wpAnyH_ready (rs := [7]) (by kernel_rfl) (by simp) ?_
  refine AllReadyH.cons rfl (fun K hK => ?_) AllReadyH.nil
  go_simp
  go_at_call 43
  refine Calls.mono HN.out ?_
  rintro e w2 ⟨sb, hsb, rfl, hs2, hf2⟩
  refine Shut.out hK _ _ (HK.out _ (hf2.mono (fun _ _ f => f.elim))) ?_
  clear hK K
  intro hHeld2
  clear hHeld
  try simp only [List.getElem_toArray, List.getElem_cons_zero, List.getElem_cons_succ, Act.put, List.setIfInBounds_toArray, List.set_cons_zero, List.set_cons_succ]
  refine wpAnyH_ready (rs := [8]) (by kernel_rfl) (by simp) ?_
  refine AllReadyH.cons rfl (fun K hK => ?_) AllReadyH.nil
  refine step_mapUpdate _ rfl _ _ _ 76 rfl 3 82 Tryz.keyed Tryz.underlying76 ptrR mb l.length _ rfl (HM.out _ hf2) Hlen.out (.int .i64 id) (.pointer (some ⟨sb, 0, none⟩)) _ rfl rfl Hkey.out (.lit (.int .i64 sb)) [] rfl ?_
  intro w3 hown3 hg3
  refine Shut.out hK _ _ (HK.out _ ((hf2.mono (fun _ _ f => f.elim)).trans ((Fr.ofGrown hg3).mono (fun _ _ e => by cases e; rfl)))) ?_
  clear hK K
  intro hHeld3
  clear hHeld2
  try simp only [List.getElem_toArray, List.getElem_cons_zero, List.getElem_cons_succ, Act.put, List.setIfInBounds_toArray, List.set_cons_zero, List.set_cons_succ]
  refine wpAnyH_done (by kernel_rfl) ?_ _
  refine NoPanic.normal ?_
  go_end0
  have h := H.out
  obtain ⟨es, clock, hmb, _⟩ := h.mp
  have hmb2 := hf2.get (w := w.drew) hmb (fun f => f)
  have hN2 : New w w2 := (Fr.refl (fun _ => False) w).drew.trans hf2
  have hk : FrK [0] w w3 := (hN2.toK (fun _ _ f _ => f.elim)).trans ((Fr.ofGrown hg3).toK (by
    rintro x o hx ho
    cases hx
    rw [hmb2] at ho; cases ho; simp [kindOf]))
  have hk3 : FrK [0] w2 w3 := (Fr.ofGrown hg3).toK (by
    rintro x o hx ho
    cases hx
    rw [hmb2] at ho; cases ho; simp [kindOf])
  obtain ⟨c0, c2, c3, c4, c5, he⟩ := h.eng
  refine ⟨rfl, ⟨insBl id sb l bl, ⟨hk.block _ _ h.cap (by simp [kindOf]), ⟨c0, c2, c3, c4, c5, hk.block _ _ he (by simp [kindOf])⟩, ?_, ?_, ?_, ?_⟩, fun b hb => (insBl_mem hb).elim (fun e => .inr (by rw [e]; exact hsb)) .inl⟩, (hN2.mono (fun _ _ f => f.elim)).trans ((Fr.ofGrown hg3).mono (fun _ _ e => by cases e; rfl))⟩
  · have h0 := hown3
    rw [dataOf_put (ilOf l bl) id sb (il_none l bl id Hn.out)] at h0
    have h1 := insIL_of (SagaM.new id st) sb l bl h.len
    rw [insSaga_len, show insBl id sb l bl = insBl (SagaM.new id st).id sb l bl from rfl, h1]
    exact h0
  · rw [insSaga_len]
    exact insBl_len id sb l bl h.len
  · intro i g b hg hb
    rcases insSaga_at (g := SagaM.new id st) h.len i hg hb with ⟨rfl, rfl⟩ | ⟨j, h1, h2⟩
    · exact hs2.keepK hk3 (by decide) (by decide)
    · exact (h.sg j g b h1 h2).keepK hk (by decide) (by decide)
  · refine insBl_nd h.nd (fun hm => ?_)
    obtain ⟨i, hi⟩ := List.getElem?_of_mem hm
    have hil := (List.getElem?_eq_some_iff.1 hi).1
    rw [h.len] at hil
    obtain ⟨_, e, _⟩ := h.sg i _ sb (List.getElem?_eq_getElem hil) hi
    have := lt_of_hp e
    have : w.heap.size ≤ sb := hsb
    omega
set_option maxRecDepth 100000 in
set_option maxHeartbeats 4000000 in
theorem moved_calls {w : World} {C xb mb i : Nat} {bl : List Nat} {l : List SagaM} {g : SagaM} {rp : Int} (h : RdAt w C xb mb bl l) (ho : l.Pairwise (fun a b => a.id < b.id)) (hg : l[i]? = some g) (hok : g.ok) (hst : g.st = 1 ∨ g.st = 2) :
    Calls Tryz.prog 82 #[.int .i64 g.id, .int .i64 rp, .pointer (some ⟨C, 0, none⟩)] w fun e w' => e = .returned (.tuple #[]) ∧ RdAt w' C xb mb bl (l.set i (g.moved rp)) ∧ Fr (fun k => k ∈ bl) w w' := by
  obtain ⟨c0, c2, c3, c4, c5, he⟩ := h.eng
  obtain ⟨b, hb, hbo⟩ := blk_of l bl h.len ho i g hg
  have hlk := look_some h.mp g.id (by have := hok.1; have := hok.2.1; omega) hbo
  have hcap := h.cap
  have hsm := hok.2.2.1
  have hstep : 1 ≤ g.step ∧ g.step ≤ 100 := by
    obtain ⟨_, _, h3, _, h5⟩ := hok
    have := h3.2.1
    omega
  have HM := Lib.hid (Move_calls (h.sg i g b hg hb) hst hstep rp)
  have H := Lib.hid h
  have Hg := Lib.hid hg
  have Hb := Lib.hid hb
  have He := Lib.hid he
  clear h ho hok hst hbo hsm hstep hg hb
  have hcv := cellv w
  go_enter Tryz.func82, Tryz.ntmps82
  go_wp2_with (first
    | (go_at_call 55; refine Calls.mono HM.out ?_; rintro e w2 ⟨rfl, hf2, hs2⟩)
    | fail)
  go_end0
  have h := H.out
  have hkk : FrK [89] w w2 := hf2.toK (by
    rintro k o rfl ho
    obtain ⟨_, e, _⟩ := h.sg i g _ Hg.out Hb.out
    rw [e] at ho; cases ho; simp [kindOf])
  have hil := (List.getElem?_eq_some_iff.1 Hg.out).1
  refine ⟨rfl, ⟨hkk.block _ _ h.cap (by simp [kindOf]), ⟨c0, c2, c3, c4, c5, hkk.block _ _ He.out (by simp [kindOf])⟩, ?_, by rw [List.length_set]; exact h.len, ?_, h.nd⟩, hf2.mono (fun k _ e => by rw [e]; exact List.mem_of_getElem? Hb.out)⟩
  · rw [List.length_set, il_set l bl i g (g.moved rp) Hg.out (moved_id g rp)]
    exact map_keepK h.mp hkk (by decide)
  · exact sgs_set h.sg h.nd Hb.out hil hf2 hs2
end Go.Proofs.YtkafmfdipmhleaaGreatDoor
