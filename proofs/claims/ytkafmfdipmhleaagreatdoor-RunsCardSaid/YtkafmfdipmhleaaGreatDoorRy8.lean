/-
  What is proved: the contract of a Submit that is taken, of which blocks turn; and of one for which there is no room. one saga's turn in a Tick, whoever is asked: which blocks turn. a Tick, whoever is asked: which blocks turn. a body's record is read as it was written, whatever its texts.
-/
import Derived.Test.YtkafmfdipmhleaaGreatDoorRy7

namespace Go.Proofs.YtkafmfdipmhleaaGreatDoor
open Go.RowKit Go.Maps
/-- The blocks of an engine. -/
def EngB (q : Pl) (k : Nat) : Prop := k = q.xb ∨ k = q.jb ∨ k = q.mb ∨ k = q.db ∨ k = q.bb
/-- An engine, whatever it asks; its journal, disk and partner. -/
structure StV (cv : Value) (w : World) (q : Pl) (bl : List Nat) (s : StM) : Prop where
  eng : w.heap[q.xb]? = some (.cells (egCells q.jb q.mb s.pause cv s.clock false) 79 (0, 0))
  jn : JnAt w q.jb q.db s.j
  dk : DiskAt w q.db q.bb s.d
  pt : PAt w q.pb s.p
  mp : w.ownsMap Tryz.prog 3 ptrR q.mb s.sagas.length (dataOf (ilOf s.sagas bl))
  len : bl.length = s.sagas.length
  sg : ∀ (i : Nat) (g : SagaM) (b : Nat), s.sagas[i]? = some g → bl[i]? = some b → SagaAt w b g
  nd : bl.Nodup
theorem StV.keepK {cv : Value} {w w' : World} {K : List Nat} {q : Pl} {bl : List Nat} {s : StM} (h : StV cv w q bl s) (hf : FrK K w w') (hK : ∀ k ∈ [80, 133, 103, 104, 108, 45, 47, 49, 4, 0, 89, 55], k ∉ K) : StV cv w' q bl s :=
  ⟨hf.block _ _ h.eng (hK 80 (by simp)), h.jn.keepK hf (hK _ (by simp)), h.dk.keepK hf (hK _ (by simp)) (hK _ (by simp)) (hK _ (by simp)), h.pt.keepK hf (hK _ (by simp)) (hK _ (by simp)) (hK _ (by simp)) (hK _ (by simp)),
   map_keepK h.mp hf (hK _ (by simp)), h.len, sgs_keepK h.sg hf (hK _ (by simp)) (hK _ (by simp)), h.nd⟩
theorem StV.new {cv : Value} {w w' : World} {q : Pl} {bl : List Nat} {s : StM} (h : StV cv w q bl s) (hf : New w w') : StV cv w' q bl s := h.keepK (hf.toK (K := []) (fun _ _ f _ => f.elim)) (by simp)
/-- A saga whose steps lie from B on. -/
def StepsNew (B : Nat) (w : World) (b : Nat) : Prop := ∃ cs a n c, w.heap[b]? = some (.cells cs 88 (0, 0)) ∧ cs[6]? = some (.slice (some a) n c) ∧ B ≤ a.block
theorem StepsNew.keepK {B b : Nat} {w w' : World} {K : List Nat} (h : StepsNew B w b) (hf : FrK K w w') (h1 : 89 ∉ K) : StepsNew B w' b := by
  obtain ⟨cs, a, n, c, h2, h3⟩ := h
  exact ⟨cs, a, n, c, hf.block b _ h2 h1, h3⟩
theorem StepsNew.less {A B b : Nat} {w : World} (h : StepsNew B w b) (hA : A ≤ B) : StepsNew A w b := by
  obtain ⟨cs, a, n, c, h2, h3, h4⟩ := h
  exact ⟨cs, a, n, c, h2, h3, Nat.le_trans hA h4⟩
set_option maxRecDepth 100000 in
set_option maxHeartbeats 2000000 in
theorem Clone_new {w : World} (l : List (ByteArray × ByteArray)) (v : Value) (hv : StepsAt w v l) (hl : 1 ≤ l.length ∧ l.length ≤ 1000) :
    Calls Tryz.prog 64 #[v] w fun e w' => ∃ v', e = .returned v' ∧ StepsVal w' w.heap.size v' l ∧ New w w' := by
  obtain ⟨b, off, cap, c, rfl, h2, h3⟩ := hv
  obtain ⟨i0, hi, hz0, hz1, hz2⟩ := info_parts Tryz.info54
  have q34 : ∀ (w : World) (a : Option Addr) (n c n' c' : Nat), (binOp .eql 34 (.slice a n c) (.slice none n' c')).run Tryz.prog w = .ok (.bool a.isNone) w := fun w a n c n' c' => Lib.run_eql_slice_nil w _ _ a n c n' c' Tryz.underlying34
  have A := Lib.hid h3
  have H2 := Lib.hid h2
  clear h2 h3
  go_enter Tryz.func64, Tryz.ntmps64
  go_wp2_with (at_builtin; refine wpList_append_own _ rfl _ _ 34 rfl w.heap.size 54 i0 (.agg #[.string ⟨#[]⟩, .string ⟨#[]⟩]) 2 32 Tryz.underlying34 hi hz0 hz1 hz2 rfl (by decide) _ _ _ rfl (World.ownsRow_made w #[] 0 (Nat.le_refl _) (Nat.zero_le _) (by simp)) ⟨b, off, none⟩ l.length cap (stepCells l) rfl ?qc1 ?qc2 ?qc3 ?qc4 ?qc5 ?qc6 ?_)
  case qc1 => exact stepCells_length l
  case qc2 =>
    intro j u hj
    rw [Addr.add_lit]
    have hjl : j < 2 * l.length := by
      have := (List.getElem?_eq_some_iff.1 hj).1
      rw [stepCells_length] at this
      omega
    refine Lib.cell?_alloc_some _ ?_
    rw [cellv, H2.out, cellOf_cells, A.out j hjl]
    exact hj
  case qc3 => exact stepCells_one l
  case qc4 => rw [Nat.zero_add]; unfold maxLen; omega
  case qc5 => rw [Nat.zero_add]; omega
  case qc6 => simp
  intro v' w1 hown hgrow hnil
  go_wp2
  go_ret
  refine ⟨v', rfl, hown, ?_⟩
  exact ((Fr.refl _ w).alloc _).trans' (Fr.ofGrown hgrow) (by
    intro i hi he
    simp only [Value.ownBlock, Option.some.injEq] at he
    omega)
set_option maxRecDepth 100000 in
set_option maxHeartbeats 2000000 in
theorem New_new {w : World} (id : Int) (l : List (ByteArray × ByteArray)) (v : Value) (hv : StepsAt w v l) (hl : 1 ≤ l.length ∧ l.length ≤ 1000) :
    Calls Tryz.prog 43 #[.int .i64 id, v] w fun e w' => ∃ sb, w.heap.size ≤ sb ∧ e = .returned (.pointer (some ⟨sb, 0, none⟩)) ∧ SagaAt w' sb (SagaM.new id l) ∧ StepsNew w.heap.size w' sb ∧ New w w' := by
  have hc := Clone_new l v hv hl
  have hvs : ∃ a n c, v = .slice a n c ∧ n = l.length := by
    obtain ⟨b, off, cap, _, e, _⟩ := hv
    exact ⟨_, _, _, e, rfl⟩
  obtain ⟨a, n, cp, rfl, hn⟩ := hvs
  have Hn := Lib.hid hn
  have Hc := Lib.hid hc
  have Hl1 := Lib.hid hl.1
  clear hv hl hn hc
  go_enter Tryz.func43, Tryz.ntmps43
  go_wp2_with (first
    | (go_at_call 64; refine Calls.mono Hc.out ?_; rintro e w1 ⟨v', rfl, hs0, hf1⟩; have hs1 := StepsVal.at hs0 Hl1.out; obtain ⟨va, vn, vc, rfl⟩ := hs1.shape)
    | fail)
  go_ret
  refine ⟨w1.heap.size, hf1.size, rfl, ⟨.slice va vn vc, ?_, hs1.frame (S := fun _ => False) ((Fr.refl _ _).alloc _) (fun _ f => f.elim)⟩, ?_, hf1.alloc _⟩
  · rw [← Hn.out.symm]
    exact heap_alloc_new w1 _
  · rcases hs0.2 with ⟨_, h0⟩ | ⟨g, cap, cur, hv', hg', _⟩
    · have := Hl1.out; omega
    · simp only [Value.slice.injEq] at hv'
      obtain ⟨rfl, _, _⟩ := hv'
      exact ⟨_, _, _, _, heap_alloc_new w1 _, rfl, hg'⟩
set_option maxRecDepth 100000 in
set_option maxHeartbeats 4000000 in
theorem Submit_loc {cv : Value} {w : World} {q : Pl} {bl : List Nat} {s : StM} {id : Int} {l : List (ByteArray × ByteArray)} {v : Value} (hs : StV cv w q bl s) (hi : s.inv) (hv : StepsAt w v l) (hw : wholeB id l = true) (hn : ∀ x ∈ s.sagas, x.id ≠ id)
    (hroom : (s.j.en : Int) + (2 + (2 * l.length - 1) + leftSum s.sagas) ≤ s.d.blocks.length) :
    Calls Tryz.prog 18 #[.pointer (some ⟨q.xb, 0, none⟩), .int .i64 id, v] w fun e w' => e = .returned .nilIface ∧ (∃ bl', StV cv w' q bl' (s.submit id l) ∧ (∀ b ∈ bl', b ∈ bl ∨ w.heap.size ≤ b) ∧ ∀ b ∈ bl', w.heap.size ≤ b → StepsNew w.heap.size w' b) ∧ Fr (EngB q) w w' := by
  have hws := whole_small hw
  have hlk := look_none hs.mp id (by omega) (il_none s.sagas bl id hn)
  have hx := hs.eng
  obtain ⟨sa, sn, sc, rfl⟩ := hv.shape
  have HW := Lib.hid (Whole_calls w id l _ (.inr hv) (by have := hws.2.2.2.1; omega))
  rw [hw] at HW
  have Hs := Lib.hid hs
  have Hi := Lib.hid hi
  have Hv := Lib.hid hv
  have Hw := Lib.hid hw
  have Hn := Lib.hid hn
  have Hroom := Lib.hid hroom
  have Hws := Lib.hid hws
  have Hlk := Lib.hid hlk
  have Hx := Lib.hid hx
  simp only [egCells] at hx
  clear hs hi hv hw hn hroom hws hlk
  have hcv := cellv w
  go_enter Tryz.func18, Tryz.ntmps18
  go_upto_region 5 with (first
    | (go_at_call 41; refine Calls.mono HW.out ?_; rintro e w2 ⟨rfl, hf2⟩)
    | fail)
  have hs2 := Hs.out.keepK (hf2.toK (K := []) (fun _ _ f _ => f.elim)) (by simp)
  have hlk := look_none hs2.mp id (by have := Hws.out; omega) (il_none s.sagas bl id Hn.out)
  have hv2 : StepsAt w2 _ l := Hv.out.frame hf2 (fun _ f => f.elim)
  have HN := Lib.hid (New_new id l _ hv2 (by have := Hws.out.2.2.1; have := Hws.out.2.2.2.1; omega))
  have hx2 := hf2.get Hx.out (fun f => f)
  have Hx2 := Lib.hid hx2
  have Hf2 := Lib.hid hf2
  have Hs2 := Lib.hid hs2
  simp only [egCells] at hx2
  clear hcv hx hs2 hv2 hf2
  have hcv := cellv w2
  go_upto_region 11 with (first
    | (go_at_call 43; refine Calls.mono HN.out ?_; rintro e w3 ⟨sb, hsb, rfl, hs3, hn3, hf3⟩)
    | fail)
  have HL := Lib.hid (Left_calls hs3 (by simp only [SagaM.new]; have := Hws.out.2.2.2.1; omega))
  rw [new_left] at HL
  have Hs3 := Lib.hid hs3
  have Hsb := Lib.hid hsb
  have Hn3 : Hid (StepsNew w.heap.size w3 sb) := hn3.less Hf2.out.size
  have Hf3 := Lib.hid (Hf2.out.trans hf3)
  have hx3 := hf3.get Hx2.out (fun f => f)
  have Hst3 := Lib.hid (Hs2.out.keepK (hf3.toK (K := []) (fun _ _ f _ => f.elim)) (by simp))
  clear hcv hx2 hs3 hsb hf3 hlk hn3
  have h2n : wrap64 (2 + (2 * (l.length : Int) - 1)) = 2 + (2 * (l.length : Int) - 1) := wrap_in _ (by have := Hws.out.2.2.2.1; omega)
  go_upto_region 12 with (first
    | (go_at_call 44; refine Calls.mono HL.out ?_; rintro e w4 ⟨rfl, n4, rfl⟩)
    | fail)
  have hst4 : StV cv (w3.drewN n4) q bl s := Hst3.out.keepK (((Fr.refl (fun _ => False) w3).drewN n4).toK (K := []) (fun _ _ f _ => f.elim)) (by simp)
  have Hs4 := Lib.hid (Hs3.out.new ((Fr.refl _ w3).drewN n4))
  have Hn4 := Lib.hid (Hn3.out.keepK (K := []) (((Fr.refl (fun _ => False) w3).drewN n4).toK (fun _ _ f _ => f.elim)) (by simp))
  have Hf4 := Lib.hid (Hf3.out.drewN n4)
  have Hx4 := Lib.hid (hst4.eng)
  have Hst4 := Lib.hid hst4
  have Hsb4 : Hid (w.heap.size ≤ sb) := by have := Hsb.out; have := Hf2.out.size; show _ ≤ _; omega
  have H2n := Lib.hid h2n
  clear hx3 hst4 h2n
  generalize w3.drewN n4 = w4 at Hs4 Hn4 Hf4 Hx4 Hst4 ⊢
  have hx4 := Hx4.out
  simp only [egCells] at hx4
  have hcv := cellv w4
  go_upto_region 13 with (first
    | (at_range; refine wpList_range_own _ rfl _ 76 rfl 3 82 Tryz.keyed Tryz.underlying76 ptrR q.mb s.sagas.length _ rfl Hst4.out.mp ?_; intro w5 hrg0 hg0 hs0; go_frame)
    | fail)
  have hr0 : restSum s.sagas (Maps.has (dataOf (ilOf s.sagas bl))) = leftSum s.sagas := rest_all _ _ (fun g hg => has_of_mem Hs.out.len hg)
  have hF0 : New w4 w5 := (Fr.ofGrown hg0).mono (fun _ _ e => by cases e)
  have HF0 := Lib.hid hF0
  have Hrg0 := Lib.hid hrg0
  have Hr0 := Lib.hid hr0
  clear hcv hx4 hr0 hF0 hrg0 hg0 hs0
  go_wp2_with fail
  go_loopw [9] (fun v wr => SumAt w4 wr q.mb w4.heap.size s.sagas bl (2 + (2 * (l.length : Int) - 1) + leftSum s.sagas) v) (fun _ wr => wr.rangeLeft q.mb w4.heap.size)
  case atStart => exact ⟨_, _, Hrg0.out, by rw [Hr0.out, H2n.out]; congr 1; omega, HF0.out⟩
  case round =>
    obtain ⟨left, cnt, hrg, rfl, hfr⟩ := hrel
    have Hrg := Lib.hid hrg
    have Hfr := Lib.hid hfr
    clear hrg hfr
    go_upto_region 14 with (first
      | (at_next; refine wpList_next_ranges _ rfl _ rfl 3 Tryz.keyed ptrR (Value.int .i64) ptrV key_shape ptrR_shape q.mb w4.heap.size _ _ _ _ rfl Hrg.out ?_ ?_)
      | fail)
    · intro _ hl0
      have hr0 := rest_none s.sagas left hl0
      rw [hr0, Int.sub_zero]
      have Hl0 := Lib.hid hl0
      clear hl0 hr0
      have hst6 : StV cv wr q bl s := Hst4.out.keepK (Hfr.out.toK (K := []) (fun _ _ f _ => f.elim)) (by simp)
      have Hs6 := Lib.hid (Hs4.out.new Hfr.out)
      have Hn6 := Lib.hid (Hn4.out.keepK (K := []) (Hfr.out.toK (fun _ _ f _ => f.elim)) (by simp))
      have hx6 := hst6.eng
      have HR := Lib.hid (Room_calls hst6.jn hst6.dk)
      have Hst6 := Lib.hid hst6
      simp only [egCells] at hx6
      clear hst6
      have hcv := cellv wr
      have hsz := (Hi.out).size
      have hrm : wrap64 ((s.d.blocks.length : Int) - s.j.en) = (s.d.blocks.length : Int) - s.j.en := wrap_in _ (by
        have := Hroom.out; have := rest_nonneg s.sagas (fun _ => true) (Hi.out).ok; rw [rest_all s.sagas (fun _ => true) (fun _ _ => rfl)] at this
        have := Hws.out.2.2.1; omega)
      have hgt : ¬ ((s.d.blocks.length : Int) - s.j.en < 2 + (2 * (l.length : Int) - 1) + leftSum s.sagas) := by have := Hroom.out; omega
      rw [hrm] at HR
      clear hrm hsz
      go_upto_region 18 with (first
        | (go_at_call 45; refine Calls.mono HR.out ?_; rintro e w7 ⟨rfl, rfl⟩)
        | fail)
      obtain ⟨sv, hsg, hst⟩ := Hs6.out
      obtain ⟨va, vn, vc, rfl⟩ := hst.shape
      have Hsg := Lib.hid hsg
      have Hst := Lib.hid hst
      have Hx6 := Lib.hid hx6
      simp only [sgCells, SagaM.new] at hsg
      clear hcv hx6 hgt hst
      have hcv := cellv wr.drew
      have hsg' : wr.drew.heap[sb]? = _ := hsg
      clear hsg
      have hN9 : New wr (wr.alloc (.cells #[.int .u8 2, .int .u32 0, .int .i64 0, .int .i64 id, .int .i64 0, .slice va vn vc, .int .u8 3, .int .u32 0, .int .i64 0, .int .i64 id, .int .i64 0, .slice none 0 0] 91)).drew := ((Fr.refl _ wr).alloc _).drew
      have hlb : (wr.alloc (.cells #[.int .u8 2, .int .u32 0, .int .i64 0, .int .i64 id, .int .i64 0, .slice va vn vc, .int .u8 3, .int .u32 0, .int .i64 0, .int .i64 id, .int .i64 0, .slice none 0 0] 91)).drew.heap[wr.heap.size]? = some (.cells #[.int .u8 2, .int .u32 0, .int .i64 0, .int .i64 id, .int .i64 0, .slice va vn vc, .int .u8 3, .int .u32 0, .int .i64 0, .int .i64 id, .int .i64 0, .slice none 0 0] 91 (0, 0)) := heap_alloc_new wr _
      have hrec := sub_recs (sv := .slice va vn vc) Hws.out ⟨_, _, _, rfl⟩ hlb (StepsAt.frame Hst.out hN9 (fun _ f => f.elim))
      have HN9 := Lib.hid hN9
      have HWr := Lib.hid (write_calls (n := 2) (cap := 2) (hN9.get Hx6.out (fun f => f)) (hN9.get Hst6.out.jn (fun f => f)) (Hst6.out.dk.new hN9) (Hi.out).quiet (Hi.out).pend hrec rfl (Hi.out).epoch (by
        show s.j.en + 2 ≤ s.d.blocks.length
        have := Hroom.out; have := rest_nonneg s.sagas (fun _ => true) (Hi.out).ok; rw [rest_all s.sagas (fun _ => true) (fun _ _ => rfl)] at this
        have := Hws.out.2.2.1; omega) (Hi.out).size)
      clear hN9 hlb hrec
      go_upto_region 19 with (first
        | (go_at_call 46; refine Calls.mono HWr.out ?_; rintro e w9 ⟨rfl, hf9, hd9, hj9, hx9⟩)
        | fail)
      have hfk9 : FrK [103, 104, 133, 80] wr w9 := (HN9.out.toK (fun _ _ f _ => f.elim)).trans (hf9.toK (by
        obtain ⟨_, _, _, _, e1, e2, _⟩ := Hst6.out.dk
        have e3 := Hst6.out.jn
        have e4 := Hx6.out
        have n1 := HN9.out.get e1 (fun f => f)
        have n2 := HN9.out.get e2 (fun f => f)
        have n3 := HN9.out.get e3 (fun f => f)
        have n4 := HN9.out.get e4 (fun f => f)
        rintro x o (rfl | rfl | rfl | rfl) ho
        · rw [n1] at ho; cases ho; simp [kindOf]
        · rw [n2] at ho; cases ho; simp [kindOf]
        · rw [n3] at ho; cases ho; simp [kindOf]
        · rw [n4] at ho; cases ho; simp [kindOf]))
      have Hfk9 := Lib.hid hfk9
      have HL9 : Hid (Fr (EngB q) wr w9) := (HN9.out.mono (fun _ _ f => f.elim)).trans (hf9.mono (by
        rintro _ k (rfl | rfl | rfl | rfl)
        · exact .inr (.inr (.inr (.inl rfl)))
        · exact .inr (.inr (.inr (.inr rfl)))
        · exact .inr (.inl rfl)
        · exact .inl rfl))
      have Hm9 := Lib.hid (map_keepK Hst6.out.mp hfk9 (by decide))
      have Hd9 := Lib.hid hd9
      have Hj9 := Lib.hid hj9
      have Hx9 := Lib.hid hx9
      simp only [egCells] at hx9
      clear hcv hsg' hfk9 hf9 hd9 hj9
      have hcv := cellv w9
      have hkI := keyI id (by have := Hws.out; omega)
      have Hkn : Hid (s.sagas.length < maxLen) := by have := inv_len Hi.out; show _ < maxLen; unfold maxLen; omega
      go_upto_region 22 with (first
        | (at_mapUpdate; refine wpList_mapUpdate_own _ rfl _ _ _ 76 rfl 3 82 Tryz.keyed Tryz.underlying76 ptrR q.mb s.sagas.length _ rfl Hm9.out Hkn.out (.int .i64 id) (.pointer (some ⟨sb, 0, none⟩)) _ rfl rfl hkI (.lit (.int .i64 sb)) [] rfl ?_; intro w10 hown10 hg10; go_frame)
        | fail)
      have hmk : ∃ es clock, w9.heap[q.mb]? = some (.map es clock) := by
        obtain ⟨es, clock, hb, _⟩ := Hm9.out
        exact ⟨es, clock, hb⟩
      have hk10 : FrK [0] w9 w10 := (Fr.ofGrown hg10).toK (by
        obtain ⟨es, clock, hb⟩ := hmk
        rintro x o hx ho
        cases hx
        rw [hb] at ho; cases ho; simp [kindOf])
      have Hk10 := Lib.hid hk10
      have HL10 : Hid (Fr (EngB q) w9 w10) := (Fr.ofGrown hg10).mono (by
        intro _ k hk
        cases hk
        exact .inr (.inr (.inl rfl)))
      have Hown10 := Lib.hid hown10
      clear hcv hx9 hkI hown10 hg10 hk10 hmk
      go_wp2_with fail
      go_ret
      have hd := dataOf_put (ilOf s.sagas bl) id sb (il_none s.sagas bl id Hn.out)
      have hsb9 : SagaAt w9 sb (SagaM.new id l) := Hs6.out.keepK Hfk9.out (by decide) (by decide)
      refine ⟨rfl, ⟨insBl id sb s.sagas bl, ⟨?_, ?_, ?_, ?_, ?_, ?_, ?_, ?_⟩, fun b hb => (insBl_mem hb).elim (fun e => .inr (by rw [e]; exact Hsb4.out)) .inl, fun b hb hge => ?_⟩, ?_⟩
      · exact Hk10.out.block _ _ Hx9.out (by simp [kindOf])
      · exact Hj9.out.keepK Hk10.out (by decide)
      · exact Hd9.out.keepK Hk10.out (by decide) (by decide) (by decide)
      · exact (Hst6.out.pt.keepK Hfk9.out (by decide) (by decide) (by decide) (by decide)).keepK Hk10.out (by decide) (by decide) (by decide) (by decide)
      · have h0 := Hown10.out
        rw [hd] at h0
        have h1 := insIL_of (SagaM.new id l) sb s.sagas bl Hs.out.len
        show w10.ownsMap Tryz.prog 3 ptrR q.mb (insSaga (SagaM.new id l) s.sagas).length (dataOf (ilOf (insSaga (SagaM.new id l) s.sagas) (insBl id sb s.sagas bl)))
        rw [insSaga_len]
        rw [show insBl id sb s.sagas bl = insBl (SagaM.new id l).id sb s.sagas bl from rfl, h1]
        exact h0
      · show _ = (insSaga _ _).length
        rw [insSaga_len]
        exact insBl_len id sb s.sagas bl Hs.out.len
      · intro i g b hg hb
        rcases insSaga_at (g := SagaM.new id l) Hs.out.len i hg hb with ⟨rfl, rfl⟩ | ⟨j, h1, h2⟩
        · exact hsb9.keepK Hk10.out (by decide) (by decide)
        · exact ((Hst6.out.sg j g b h1 h2).keepK Hfk9.out (by decide) (by decide)).keepK Hk10.out (by decide) (by decide)
      · refine insBl_nd Hs.out.nd (fun hm => ?_)
        obtain ⟨i, hi⟩ := List.getElem?_of_mem hm
        have hil := (List.getElem?_eq_some_iff.1 hi).1
        rw [Hs.out.len] at hil
        obtain ⟨_, e, _⟩ := Hs.out.sg i _ sb (List.getElem?_eq_getElem hil) hi
        have := lt_of_hp e
        have := Hsb4.out
        omega
      · rcases insBl_mem hb with e | e
        · rw [e]
          exact (Hn6.out.keepK Hfk9.out (by decide)).keepK Hk10.out (by decide)
        · obtain ⟨i, hi⟩ := List.getElem?_of_mem e
          have hil := (List.getElem?_eq_some_iff.1 hi).1
          rw [Hs.out.len] at hil
          obtain ⟨_, e1, _⟩ := Hs.out.sg i _ b (List.getElem?_eq_getElem hil) hi
          have := lt_of_hp e1
          omega
      · exact (((Hf4.out.mono (fun _ _ f => f.elim)).trans (Hfr.out.mono (fun _ _ f => f.elim))).trans HL9.out).trans HL10.out
    · intro x c kl y ps w6 cnt6 hkl hleft hy hat hrg6 hlt hg6 hs6 hen
      have hid : kl = .int .i64 x := by
        obtain ⟨x', e1, e2, _⟩ := Maps.keyOf_int_inv Tryz.underlying3 hkl
        cases e1; exact e2
      subst hid
      obtain ⟨i, g, b, hgi, hbi, rfl, rfl⟩ := entry_of Hs.out.len hy hat
      have hrest := rest_step s.sagas left (Hi.out).ord g (List.mem_of_getElem? hgi) hleft
      have hf6 : New w4 w6 := Hfr.out.trans' (Fr.ofGrown hg6) (fun i hi e => by cases e; omega)
      have hg6 := (Hst4.out.keepK (hf6.toK (K := []) (fun _ _ f _ => f.elim)) (by simp)).sg i g b hgi hbi
      have hgok := (Hi.out).ok g (List.mem_of_getElem? hgi)
      have hbd : -100 ≤ g.step ∧ g.step ≤ 100 ∧ g.steps.length ≤ 100 := by
        obtain ⟨_, _, hsm, _, h⟩ := hgok
        have := hsm.2.1
        rcases h with h | h <;> omega
      have HL6 := Lib.hid (Left_calls hg6 hbd)
      have Hrest := Lib.hid hrest
      have Hlt := Lib.hid hlt
      have Hrg6 := Lib.hid hrg6
      have Hf6 := Lib.hid hf6
      have hr1 := rest_nonneg s.sagas (fun z => left z && !z.sameKey (.int .i64 g.id)) (Hi.out).ok
      have hr2 := hgok.left_nonneg
      have hr3 := leftSum_le s.sagas (Hi.out).ok
      have hr4 := inv_len Hi.out
      have hr5 : restSum s.sagas left ≤ leftSum s.sagas := rest_le s.sagas left (Hi.out).ok
      have hl6 : l.length ≤ 6 := Hws.out.2.2.2.1
      have hadd : wrap64 (2 + (2 * (l.length : Int) - 1) + leftSum s.sagas - restSum s.sagas left + g.left) = 2 + (2 * (l.length : Int) - 1) + leftSum s.sagas - restSum s.sagas (fun z => left z && !z.sameKey (.int .i64 g.id)) := by
        rw [show 2 + (2 * (l.length : Int) - 1) + leftSum s.sagas - restSum s.sagas left + g.left = 2 + (2 * (l.length : Int) - 1) + leftSum s.sagas - restSum s.sagas (fun z => left z && !z.sameKey (.int .i64 g.id)) by omega]
        exact wrap_in _ (by omega)
      have Hadd := Lib.hid hadd
      clear hgi hbi hy hat hrest hf6 hg6 hgok hbd hlt hrg6 hr1 hr2 hr3 hr4 hr5 hl6 hadd hleft hkl hs6
      simp only [ptrV]
      simp only [ptrV] at hen
      go_wp2_with (first
        | (go_at_call 44; refine Calls.mono HL6.out ?_; rintro e w7 ⟨rfl, n7, rfl⟩)
        | fail)
      go_roundw
      case rel => exact ⟨_, cnt6, Hrg6.out.kept (w' := w6.drewN n7) (row := none) ⟨rfl, rfl, rfl, Nat.le_refl _, fun _ _ _ => rfl⟩ (by simp) (by simp), by rw [← Hadd.out], Hf6.out.drewN n7⟩
      case measure =>
        have e1 := Hrg6.out.left_eq
        have e2 := Hrg.out.left_eq
        show World.rangeLeft w6 _ _ < _
        rw [e1, e2]; exact Hlt.out
set_option maxRecDepth 100000 in
set_option maxHeartbeats 4000000 in
theorem Submit_full {cv : Value} {w : World} {q : Pl} {bl : List Nat} {s : StM} {id : Int} {l : List (ByteArray × ByteArray)} {v : Value} (hs : StV cv w q bl s) (hi : s.inv) (hv : StepsAt w v l) (hw : wholeB id l = true) (hn : ∀ x ∈ s.sagas, x.id ≠ id)
    (hroom : (s.d.blocks.length : Int) < (s.j.en : Int) + (2 + (2 * l.length - 1) + leftSum s.sagas)) :
    Calls Tryz.prog 18 #[.pointer (some ⟨q.xb, 0, none⟩), .int .i64 id, v] w (FailPost w subStr 3) := by
  have hws := whole_small hw
  have hlk := look_none hs.mp id (by omega) (il_none s.sagas bl id hn)
  have hx := hs.eng
  obtain ⟨sa, sn, sc, rfl⟩ := hv.shape
  have HW := Lib.hid (Whole_calls w id l _ (.inr hv) (by have := hws.2.2.2.1; omega))
  rw [hw] at HW
  have Hs := Lib.hid hs
  have Hi := Lib.hid hi
  have Hv := Lib.hid hv
  have Hw := Lib.hid hw
  have Hn := Lib.hid hn
  have Hroom := Lib.hid hroom
  have Hws := Lib.hid hws
  have Hlk := Lib.hid hlk
  have Hx := Lib.hid hx
  simp only [egCells] at hx
  clear hs hi hv hw hn hroom hws hlk
  have hcv := cellv w
  go_enter Tryz.func18, Tryz.ntmps18
  go_upto_region 5 with (first
    | (go_at_call 41; refine Calls.mono HW.out ?_; rintro e w2 ⟨rfl, hf2⟩)
    | fail)
  have hs2 := Hs.out.keepK (hf2.toK (K := []) (fun _ _ f _ => f.elim)) (by simp)
  have hlk := look_none hs2.mp id (by have := Hws.out; omega) (il_none s.sagas bl id Hn.out)
  have hv2 : StepsAt w2 _ l := Hv.out.frame hf2 (fun _ f => f.elim)
  have HN := Lib.hid (New_calls id l _ hv2 (by have := Hws.out.2.2.1; have := Hws.out.2.2.2.1; omega))
  have hx2 := hf2.get Hx.out (fun f => f)
  have Hx2 := Lib.hid hx2
  have Hf2 := Lib.hid hf2
  have Hs2 := Lib.hid hs2
  simp only [egCells] at hx2
  clear hcv hx hs2 hv2 hf2
  have hcv := cellv w2
  go_upto_region 11 with (first
    | (go_at_call 43; refine Calls.mono HN.out ?_; rintro e w3 ⟨sb, hsb, rfl, hs3, hf3⟩)
    | fail)
  have HL := Lib.hid (Left_calls hs3 (by simp only [SagaM.new]; have := Hws.out.2.2.2.1; omega))
  rw [new_left] at HL
  have Hs3 := Lib.hid hs3
  have Hsb := Lib.hid hsb
  have Hf3 := Lib.hid (Hf2.out.trans hf3)
  have hx3 := hf3.get Hx2.out (fun f => f)
  have Hst3 := Lib.hid (Hs2.out.keepK (hf3.toK (K := []) (fun _ _ f _ => f.elim)) (by simp))
  clear hcv hx2 hs3 hsb hf3 hlk
  have h2n : wrap64 (2 + (2 * (l.length : Int) - 1)) = 2 + (2 * (l.length : Int) - 1) := wrap_in _ (by have := Hws.out.2.2.2.1; omega)
  go_upto_region 12 with (first
    | (go_at_call 44; refine Calls.mono HL.out ?_; rintro e w4 ⟨rfl, n4, rfl⟩)
    | fail)
  have hst4 : StV cv (w3.drewN n4) q bl s := Hst3.out.keepK (((Fr.refl (fun _ => False) w3).drewN n4).toK (K := []) (fun _ _ f _ => f.elim)) (by simp)
  have Hs4 := Lib.hid (Hs3.out.new ((Fr.refl _ w3).drewN n4))
  have Hf4 := Lib.hid (Hf3.out.drewN n4)
  have Hx4 := Lib.hid (hst4.eng)
  have Hst4 := Lib.hid hst4
  have Hsb4 : Hid (w.heap.size ≤ sb) := by have := Hsb.out; have := Hf2.out.size; show _ ≤ _; omega
  have H2n := Lib.hid h2n
  clear hx3 hst4 h2n
  generalize w3.drewN n4 = w4 at Hs4 Hf4 Hx4 Hst4 ⊢
  have hx4 := Hx4.out
  simp only [egCells] at hx4
  have hcv := cellv w4
  go_upto_region 13 with (first
    | (at_range; refine wpList_range_own _ rfl _ 76 rfl 3 82 Tryz.keyed Tryz.underlying76 ptrR q.mb s.sagas.length _ rfl Hst4.out.mp ?_; intro w5 hrg0 hg0 hs0; go_frame)
    | fail)
  have hr0 : restSum s.sagas (Maps.has (dataOf (ilOf s.sagas bl))) = leftSum s.sagas := rest_all _ _ (fun g hg => has_of_mem Hs.out.len hg)
  have hF0 : New w4 w5 := (Fr.ofGrown hg0).mono (fun _ _ e => by cases e)
  have HF0 := Lib.hid hF0
  have Hrg0 := Lib.hid hrg0
  have Hr0 := Lib.hid hr0
  clear hcv hx4 hr0 hF0 hrg0 hg0 hs0
  go_wp2_with fail
  go_loopw [9] (fun v wr => SumAt w4 wr q.mb w4.heap.size s.sagas bl (2 + (2 * (l.length : Int) - 1) + leftSum s.sagas) v) (fun _ wr => wr.rangeLeft q.mb w4.heap.size)
  case atStart => exact ⟨_, _, Hrg0.out, by rw [Hr0.out, H2n.out]; congr 1; omega, HF0.out⟩
  case round =>
    obtain ⟨left, cnt, hrg, rfl, hfr⟩ := hrel
    have Hrg := Lib.hid hrg
    have Hfr := Lib.hid hfr
    clear hrg hfr
    go_upto_region 14 with (first
      | (at_next; refine wpList_next_ranges _ rfl _ rfl 3 Tryz.keyed ptrR (Value.int .i64) ptrV key_shape ptrR_shape q.mb w4.heap.size _ _ _ _ rfl Hrg.out ?_ ?_)
      | fail)
    · intro _ hl0
      have hr0 := rest_none s.sagas left hl0
      rw [hr0, Int.sub_zero]
      have Hl0 := Lib.hid hl0
      clear hl0 hr0
      have hst6 : StV cv wr q bl s := Hst4.out.keepK (Hfr.out.toK (K := []) (fun _ _ f _ => f.elim)) (by simp)
      have Hs6 := Lib.hid (Hs4.out.new Hfr.out)
      have hx6 := hst6.eng
      have HR := Lib.hid (Room_calls hst6.jn hst6.dk)
      have Hst6 := Lib.hid hst6
      simp only [egCells] at hx6
      clear hst6
      have hcv := cellv wr
      have hsz := (Hi.out).size
      have hrm : wrap64 ((s.d.blocks.length : Int) - s.j.en) = (s.d.blocks.length : Int) - s.j.en := wrap_in _ (by
        have := (Hi.out).room; have := rest_nonneg s.sagas (fun _ => true) (Hi.out).ok; rw [rest_all s.sagas (fun _ => true) (fun _ _ => rfl)] at this
        omega)
      have hgt : (s.d.blocks.length : Int) - s.j.en < 2 + (2 * (l.length : Int) - 1) + leftSum s.sagas := by have := Hroom.out; omega
      rw [hrm] at HR
      clear hrm hsz
      have Hf0r : Hid (New w wr) := Hf4.out.trans Hfr.out
      go_wp2_with (first
        | (go_at_call 45; refine Calls.mono HR.out ?_; rintro e w7 ⟨rfl, rfl⟩)
        | (go_at_call 40; refine Calls.mono (fail_calls _ subStr 3) ?_; rintro e w8 ⟨v, rfl, hv8, hf8⟩)
        | fail)
      go_ret
      obtain ⟨fb, h1, h2, h3⟩ := hv8
      exact ⟨v, rfl, ⟨fb, Nat.le_trans Hf0r.out.size h1, h2, h3⟩, Hf0r.out.drew.trans hf8⟩
    · intro x c kl y ps w6 cnt6 hkl hleft hy hat hrg6 hlt hg6 hs6 hen
      have hid : kl = .int .i64 x := by
        obtain ⟨x', e1, e2, _⟩ := Maps.keyOf_int_inv Tryz.underlying3 hkl
        cases e1; exact e2
      subst hid
      obtain ⟨i, g, b, hgi, hbi, rfl, rfl⟩ := entry_of Hs.out.len hy hat
      have hrest := rest_step s.sagas left (Hi.out).ord g (List.mem_of_getElem? hgi) hleft
      have hf6 : New w4 w6 := Hfr.out.trans' (Fr.ofGrown hg6) (fun i hi e => by cases e; omega)
      have hg6 := (Hst4.out.keepK (hf6.toK (K := []) (fun _ _ f _ => f.elim)) (by simp)).sg i g b hgi hbi
      have hgok := (Hi.out).ok g (List.mem_of_getElem? hgi)
      have hbd : -100 ≤ g.step ∧ g.step ≤ 100 ∧ g.steps.length ≤ 100 := by
        obtain ⟨_, _, hsm, _, h⟩ := hgok
        have := hsm.2.1
        rcases h with h | h <;> omega
      have HL6 := Lib.hid (Left_calls hg6 hbd)
      have Hrest := Lib.hid hrest
      have Hlt := Lib.hid hlt
      have Hrg6 := Lib.hid hrg6
      have Hf6 := Lib.hid hf6
      have hr1 := rest_nonneg s.sagas (fun z => left z && !z.sameKey (.int .i64 g.id)) (Hi.out).ok
      have hr2 := hgok.left_nonneg
      have hr3 := leftSum_le s.sagas (Hi.out).ok
      have hr4 := inv_len Hi.out
      have hr5 : restSum s.sagas left ≤ leftSum s.sagas := rest_le s.sagas left (Hi.out).ok
      have hl6 : l.length ≤ 6 := Hws.out.2.2.2.1
      have hadd : wrap64 (2 + (2 * (l.length : Int) - 1) + leftSum s.sagas - restSum s.sagas left + g.left) = 2 + (2 * (l.length : Int) - 1) + leftSum s.sagas - restSum s.sagas (fun z => left z && !z.sameKey (.int .i64 g.id)) := by
        rw [show 2 + (2 * (l.length : Int) - 1) + leftSum s.sagas - restSum s.sagas left + g.left = 2 + (2 * (l.length : Int) - 1) + leftSum s.sagas - restSum s.sagas (fun z => left z && !z.sameKey (.int .i64 g.id)) by omega]
        exact wrap_in _ (by omega)
      have Hadd := Lib.hid hadd
      clear hgi hbi hy hat hrest hf6 hg6 hgok hbd hlt hrg6 hr1 hr2 hr3 hr4 hr5 hl6 hadd hleft hkl hs6
      simp only [ptrV]
      simp only [ptrV] at hen
      go_wp2_with (first
        | (go_at_call 44; refine Calls.mono HL6.out ?_; rintro e w7 ⟨rfl, n7, rfl⟩)
        | fail)
      go_roundw
      case rel => exact ⟨_, cnt6, Hrg6.out.kept (w' := w6.drewN n7) (row := none) ⟨rfl, rfl, rfl, Nat.le_refl _, fun _ _ _ => rfl⟩ (by simp) (by simp), by rw [← Hadd.out], Hf6.out.drewN n7⟩
      case measure =>
        have e1 := Hrg6.out.left_eq
        have e2 := Hrg.out.left_eq
        show World.rangeLeft w6 _ _ < _
        rw [e1, e2]; exact Hlt.out
set_option maxRecDepth 100000 in
set_option maxHeartbeats 2000000 in
theorem Whole_any (w : World) (id : Int) (l : List (ByteArray × ByteArray)) (v : Value) (hv : SlAt w v l) (hl : l.length ≤ 100000) :
    Calls Tryz.prog 41 #[.int .i64 id, v] w fun e w' => e = .returned (.bool (wholeB id l)) ∧ New w w' := by
  by_cases h : l.length ≤ 1000
  · exact Whole_calls w id l v hv h
  have hsh : ∃ a c, v = .slice a l.length c := by
    rcases hv with ⟨rfl, a, c, rfl⟩ | ⟨b, off, cap, _, e, _⟩
    · exact ⟨a, c, rfl⟩
    · exact ⟨_, _, e⟩
  obtain ⟨a, c, rfl⟩ := hsh
  have Hd : Hid (wholeB id l = false) := by
    show _ = _
    have e4 : decide (l.length ≤ 6) = false := by simp; omega
    simp [wholeB, e4]
  have h4 : ¬ (l.length : Int) ≤ 6 := by omega
  have h3 : (1 : Int) ≤ l.length := by omega
  clear hv h
  by_cases h1 : 1 ≤ id
  · by_cases h2 : id ≤ 1000
    · go_enter Tryz.func41, Tryz.ntmps41
      go_wp2_with fail
      go_ret
      exact ⟨by rw [Hd.out]; rfl, Fr.refl _ _⟩
    · go_enter Tryz.func41, Tryz.ntmps41
      go_wp2_with fail
      go_ret
      exact ⟨by rw [Hd.out]; rfl, Fr.refl _ _⟩
  · go_enter Tryz.func41, Tryz.ntmps41
    go_wp2_with fail
    go_ret
    exact ⟨by rw [Hd.out]; rfl, Fr.refl _ _⟩
set_option maxRecDepth 100000 in
set_option maxHeartbeats 2000000 in
/-- A saga that is none. -/
theorem Submit_badV {cv : Value} {w : World} {q : Pl} {bl : List Nat} {s : StM} {id : Int} {l : List (ByteArray × ByteArray)} {v : Value} (hs : StV cv w q bl s) (hv : SlAt w v l) (hll : l.length ≤ 100000) (hw : wholeB id l = false) :
    Calls Tryz.prog 18 #[.pointer (some ⟨q.xb, 0, none⟩), .int .i64 id, v] w (FailPost w subStr 1) := by
  have hsh : ∃ a c, v = .slice a l.length c := by
    rcases hv with ⟨rfl, a, c, rfl⟩ | ⟨b, off, cap, _, e, _⟩
    · exact ⟨a, c, rfl⟩
    · exact ⟨_, _, e⟩
  have HW := Lib.hid (Whole_any w id l v hv hll)
  obtain ⟨a, c, rfl⟩ := hsh
  rw [hw] at HW
  have hx := hs.eng
  simp only [egCells] at hx
  clear hs hv hll hw
  have hcv := cellv w
  go_enter Tryz.func18, Tryz.ntmps18
  go_wp2_with (first
    | (go_at_call 41; refine Calls.mono HW.out ?_; rintro e w2 ⟨rfl, hf2⟩)
    | (go_at_call 40; refine Calls.mono (fail_calls w2 subStr 1) ?_; rintro e w3 ⟨v, rfl, hv3, hf3⟩)
    | fail)
  go_ret
  obtain ⟨fb, h1, h2, h3⟩ := hv3
  exact ⟨v, rfl, ⟨fb, Nat.le_trans hf2.size h1, h2, h3⟩, hf2.trans hf3⟩
set_option maxRecDepth 100000 in
set_option maxHeartbeats 2000000 in
/-- A saga of this number is there: the same one, or another. -/
theorem Submit_thereV {cv : Value} {w : World} {q : Pl} {bl : List Nat} {s : StM} {i : Nat} {g : SagaM} {l : List (ByteArray × ByteArray)} {v : Value} (hs : StV cv w q bl s) (hi : s.inv) (hg : s.sagas[i]? = some g) (hv : StepsAt w v l) (hw : wholeB g.id l = true) :
    Calls Tryz.prog 18 #[.pointer (some ⟨q.xb, 0, none⟩), .int .i64 g.id, v] w fun e w' => New w w' ∧ (if l = g.steps then e = .returned .nilIface else ∃ x, e = .returned x ∧ FaultAt w w' subStr 2 x) := by
  have hws := whole_small hw
  obtain ⟨b, hb, hbo⟩ := blk_of s.sagas bl hs.len hi.ord i g hg
  have hgok := hi.ok g (List.mem_of_getElem? hg)
  obtain ⟨sa, sn, sc, rfl⟩ := hv.shape
  have HW := Lib.hid (Whole_calls w g.id l _ (.inr hv) (by have := hws.2.2.2.1; omega))
  rw [hw] at HW
  have HS := Lib.hid (fun (w2 : World) (hf : New w w2) => Same_calls ((hs.keepK (hf.toK (K := []) (fun _ _ f _ => f.elim)) (by simp)).sg i g b hg hb) l _ (hv.frame hf (fun _ f => f.elim)) (by have := hws.2.2.2.1; omega) (by have := hgok.2.2.1.2.1; omega))
  have HL := Lib.hid (fun (w2 : World) (hf : New w w2) => look_some (hs.keepK (hf.toK (K := []) (fun _ _ f _ => f.elim)) (by simp)).mp g.id (by omega) hbo)
  have Hx := Lib.hid hs.eng
  have hx := hs.eng
  simp only [egCells] at hx
  clear hs hi hg hv hw hb hbo hgok hws
  have hcv := cellv w
  go_enter Tryz.func18, Tryz.ntmps18
  go_upto_region 5 with (first
    | (go_at_call 41; refine Calls.mono HW.out ?_; rintro e w2 ⟨rfl, hf2⟩)
    | fail)
  have hx2 := hf2.get Hx.out (fun f => f)
  have hlk := HL.out w2 hf2
  have HS2 := Lib.hid (HS.out w2 hf2)
  have Hf2 := Lib.hid hf2
  simp only [egCells] at hx2
  clear hcv hx hf2
  have hcv := cellv w2
  by_cases he : l = g.steps
  · rw [decide_eq_true he] at HS2
    have He := Lib.hid he
    clear he
    go_wp2_with (first
      | (go_at_call 42; refine Calls.mono HS2.out ?_; rintro e w3 ⟨rfl, n3, rfl⟩)
      | fail)
    go_ret
    exact ⟨Hf2.out.drewN n3, rfl⟩
  · rw [decide_eq_false he] at HS2
    have He := Lib.hid he
    clear he
    go_wp2_with (first
      | (go_at_call 42; refine Calls.mono HS2.out ?_; rintro e w3 ⟨rfl, n3, rfl⟩)
      | (go_at_call 40; refine Calls.mono (fail_calls (w2.drewN n3) subStr 2) ?_; rintro e w4 ⟨v, rfl, hv4, hf4⟩)
      | fail)
    go_ret
    obtain ⟨fb, h1, h2, h3⟩ := hv4
    exact ⟨(Hf2.out.drewN n3).trans hf4, v, rfl, fb, Nat.le_trans Hf2.out.size h1, h2, h3⟩
set_option maxRecDepth 100000 in
set_option maxHeartbeats 2000000 in
theorem StatusV {cv : Value} {w : World} {q : Pl} {bl : List Nat} {s : StM} {i : Nat} {g : SagaM} (hs : StV cv w q bl s) (ho : s.sagas.Pairwise (fun a b => a.id < b.id)) (hg : s.sagas[i]? = some g) (hgi : 1 ≤ g.id ∧ g.id ≤ 1000) :
    Calls Tryz.prog 21 #[.pointer (some ⟨q.xb, 0, none⟩), .int .i64 g.id] w fun e w' => e = .returned (.tuple #[.agg g.status, .nilIface]) ∧ New w w' := by
  obtain ⟨b, hb, hbo⟩ := blk_of s.sagas bl hs.len ho i g hg
  have hN : New w (w.alloc (.cells #[.int .i64 0, .int .i64 0, .int .i64 0, .int .i64 0, .int .i64 0, .int .i64 0] 38)) := (Fr.refl _ w).alloc _
  have hs1 := hs.keepK (hN.toK (K := []) (fun _ _ f _ => f.elim)) (by simp)
  have hlk := look_some hs1.mp g.id (by omega) hbo
  have hsg := hs1.sg i g b hg hb
  have hx := hs1.eng
  have hr := heap_alloc_new w (.cells #[.int .i64 0, .int .i64 0, .int .i64 0, .int .i64 0, .int .i64 0, .int .i64 0] 38)
  obtain ⟨sv, hsb, _⟩ := hsg
  have HN := Lib.hid hN
  have Hr := Lib.hid hr
  simp only [egCells] at hx
  simp only [sgCells] at hsb
  have Hst : Hid (g.status = #[.int .i64 g.id, .int .i64 g.st, .int .i64 g.step, .int .i64 g.steps.length, .int .i64 g.tries, .int .i64 g.due]) := rfl
  clear hs ho hg hgi hb hbo hN hs1
  go_enter Tryz.func21, Tryz.ntmps21
  go_upto_region 1 with fail
  generalize w.alloc (.cells #[.int .i64 0, .int .i64 0, .int .i64 0, .int .i64 0, .int .i64 0, .int .i64 0] 38) = w1 at HN Hr hlk hx hsb hr ⊢
  have hcv := cellv w1
  have hfv := frozv w1
  go_wp2_with fail
  refine bodyPost_ret (results_row_tmp rfl _ _ w.heap.size 38 g.status (0, 0) _ rfl (by
    rw [hp_setCell, if_pos rfl, hp_setCell, if_pos rfl, hp_setCell, if_pos rfl, hp_setCell, if_pos rfl, hp_setCell, if_pos rfl, hp_setCell, if_pos rfl, Hr.out]; rfl) Tryz.underlying38 rfl Tryz.info38s) rfl ?_
  refine ⟨rfl, HN.out.trans' ((((((Fr.one w.heap.size w1 0 _).trans (Fr.one w.heap.size _ 1 _)).trans (Fr.one w.heap.size _ 2 _)).trans (Fr.one w.heap.size _ 3 _)).trans (Fr.one w.heap.size _ 4 _)).trans (Fr.one w.heap.size _ 5 _)) (fun i hi e => by omega)⟩
set_option maxRecDepth 100000 in
set_option maxHeartbeats 2000000 in
/-- No saga of this number is there. -/
theorem Status_noneV {cv : Value} {w : World} {q : Pl} {bl : List Nat} {s : StM} {id : Int} (hs : StV cv w q bl s) (hid : i64 id) (hn : ∀ x ∈ s.sagas, x.id ≠ id) :
    Calls Tryz.prog 21 #[.pointer (some ⟨q.xb, 0, none⟩), .int .i64 id] w fun e w' => (∃ nb op, e = .returned (.tuple #[.agg #[.int .i64 0, .int .i64 0, .int .i64 0, .int .i64 0, .int .i64 0, .int .i64 0], .iface 121 (.pointer (some ⟨nb, 0, none⟩))]) ∧ w'.heap[nb]? = some (.cells (faultCells op 9) 123 (0, 0))) ∧ New w w' := by
  have hN : New w (w.alloc (.cells #[.int .i64 0, .int .i64 0, .int .i64 0, .int .i64 0, .int .i64 0, .int .i64 0] 38)) := (Fr.refl _ w).alloc _
  have hs1 := hs.keepK (hN.toK (K := []) (fun _ _ f _ => f.elim)) (by simp)
  have hlk := look_none hs1.mp id (by unfold i64 at hid; omega) (il_none s.sagas bl id hn)
  have hx := hs1.eng
  have hr := heap_alloc_new w (.cells #[.int .i64 0, .int .i64 0, .int .i64 0, .int .i64 0, .int .i64 0, .int .i64 0] 38)
  have HN := Lib.hid hN
  have Hr := Lib.hid hr
  have hlt : w.heap.size < (w.alloc (.cells #[.int .i64 0, .int .i64 0, .int .i64 0, .int .i64 0, .int .i64 0, .int .i64 0] 38)).heap.size := lt_of_hp hr
  have Hlt := Lib.hid hlt
  simp only [egCells] at hx
  clear hs hid hn hN hs1 hlt
  go_enter Tryz.func21, Tryz.ntmps21
  go_upto_region 1 with fail
  generalize w.alloc (.cells #[.int .i64 0, .int .i64 0, .int .i64 0, .int .i64 0, .int .i64 0, .int .i64 0] 38) = w1 at HN Hr Hlt hlk hx hr ⊢
  have hcv := cellv w1
  have hfv := frozv w1
  go_wp2_with (first
    | (go_at_call 40; refine Calls.mono (fail_calls _ _ _) ?_; rintro e w3 ⟨v, rfl, ⟨fb, hfb, rfl, hfb2⟩, hf3⟩; have hr3 := hf3.get Hr.out (fun f => f); have hcv3 := cellv w3; have hfv3 := frozv w3)
    | fail)
  refine bodyPost_ret (results_row_tmp rfl _ _ w.heap.size 38 #[.int .i64 0, .int .i64 0, .int .i64 0, .int .i64 0, .int .i64 0, .int .i64 0] (0, 0) _ rfl (by
    simp only [hp_setCell, if_true, hr3]; rfl) Tryz.underlying38 rfl Tryz.info38s) rfl ?_
  exact ⟨⟨fb, _, rfl, by simp only [hp_setCell, if_neg (show ¬ fb = w.heap.size by have := Hlt.out; omega)]; exact hfb2⟩, (HN.out.trans hf3).trans' ((((((Fr.one w.heap.size w3 0 _).trans (Fr.one w.heap.size _ 1 _)).trans (Fr.one w.heap.size _ 2 _)).trans (Fr.one w.heap.size _ 3 _)).trans (Fr.one w.heap.size _ 4 _)).trans (Fr.one w.heap.size _ 5 _)) (fun i hi e => by omega)⟩
end Go.Proofs.YtkafmfdipmhleaaGreatDoor

namespace Go.Proofs.YtkafmfdipmhleaaGreatDoor
open Go.RowKit Go.Maps
/-- Who is asked: what it answers, what becomes of the partner. -/
structure AskM where
  rep : PartM → CallM → Int
  nxt : PartM → CallM → PartM
def askP : AskM := ⟨fun p c => replyM (p.knows c) c.back p.k, PartM.ask⟩
def askF : AskM := ⟨fun _ _ => 1, fun p _ => p⟩
def Asks (cv : Value) (pb : Nat) (a : AskM) : Prop := ∀ (w : World) (xb jb mb : Nat) (pause clock : Int) (c : CallM) (p : PartM),
    w.heap[xb]? = some (.cells (egCells jb mb pause cv clock false) 79 (0, 0)) → PAt w pb p → p.small →
    Calls Tryz.prog 51 #[.pointer (some ⟨xb, 0, none⟩), c.val] w fun e w' => e = .returned (.int .i64 (a.rep p c)) ∧ PAt w' pb (a.nxt p c) ∧ FrK [45, 47, 49] w w' ∧ PGo w pb w'
theorem asks_p (pb : Nat) : Asks (askFn pb) pb askP := fun _ _ _ _ _ _ c p hx hp hs => ask_G c p hx hp hs
def StM.stepA (a : AskM) (s : StM) (k : Nat) : StM :=
  match s.sagas[k]? with
  | none => s
  | some g =>
    if g.waits s.clock = false then s
    else if g.moves (a.rep s.p g.call) = false then { s with sagas := s.sagas.set k (g.paused s.clock s.pause), j := { s.j with fresh := false }, d := settleD s.j s.d, p := a.nxt s.p g.call }
    else { s with sagas := s.sagas.set k (g.moved (a.rep s.p g.call)), j := ⟨s.j.epoch, s.j.en + 1, false⟩, d := (settleD s.j s.d).append s.j.epoch s.j.en [⟨4, 0, 0, g.id.toNat, (a.rep s.p g.call).toNat, []⟩], p := a.nxt s.p g.call }
theorem PG.keepK {w w' : World} {pb : Nat} {G : Nat → Prop} {K : List Nat} {iv : Value} (h : PG w pb G iv) (hf : FrK K w w') (h1 : 45 ∉ K) : PG w' pb G iv := by
  obtain ⟨h0, lv, ev, av, h2, h3⟩ := h
  exact ⟨h0, lv, ev, av, hf.block pb _ h2 h1, h3⟩
/-- Which blocks a turn turns: the engine's, its sagas', its partner's. -/
def TkF (q : Pl) (bl : List Nat) (w w' : World) : Prop := ∀ (G : Nat → Prop) (iv : Value), (∀ k, w.heap.size ≤ k → G k) → (∀ k, EngB q k → G k) → (∀ b ∈ bl, G b) → PG w q.pb G iv → PG w' q.pb G iv ∧ Fr G w w'
theorem TkF.refl (q : Pl) (bl : List Nat) (w : World) : TkF q bl w w := fun G _ _ _ _ h => ⟨h, Fr.refl G w⟩
theorem TkF.trans {q : Pl} {bl : List Nat} {a b c : World} (h : TkF q bl a b) (k : TkF q bl b c) : TkF q bl a c := by
  intro G iv h1 h2 h3 h4
  obtain ⟨p, f⟩ := h G iv h1 h2 h3 h4
  obtain ⟨p', f'⟩ := k G iv (fun i hi => h1 i (Nat.le_trans f.size hi)) h2 h3 p
  exact ⟨p', f.trans f'⟩
theorem TkF.of {q : Pl} {bl : List Nat} {w w' : World} {S : Nat → Prop} {K : List Nat} (hf : Fr S w w') (hk : FrK K w w') (h45 : 45 ∉ K) (hS : ∀ k, S k → EngB q k ∨ k ∈ bl) : TkF q bl w w' :=
  fun G _ _ h2 h3 h4 => ⟨h4.keepK hk h45, hf.mono (fun k _ s => (hS k s).elim (h2 k) (h3 k))⟩
theorem TkF.ofPGo {q : Pl} {bl : List Nat} {w w' : World} (h : PGo w q.pb w') : TkF q bl w w' := fun G iv h1 _ _ h4 => h G iv h1 h4
set_option maxRecDepth 100000 in
set_option maxHeartbeats 4000000 in
/-- It is not its turn. -/
theorem tick_idleV (cv : Value) (q : Pl) (bl : List Nat) (s : StM) (k : Nat) (g : SagaM) (b ib len cap : Nat) (W : World) (hs : StV cv W q bl s) (hg : s.sagas[k]? = some g) (hb : bl[k]? = some b) (hbo : blkOfId (ilOf s.sagas bl) g.id = some b) (hgi : 1 ≤ g.id ∧ g.id ≤ 1000)
    (hid : W.cell? ⟨ib, k, none⟩ = some (.int .i64 g.id)) (hk : k < len) (hw : g.waits s.clock = false)
    {ds : List Deferred} {x1 x2 x3 x4 x5 x6 x7 x8 x9 x10 x11 x12 x13 x14 x15 x16 x17 x18 x19 x20 x21 x22 x23 x24 x25 x27 x29 x30 x31 x32 x33 x34 x35 x36 x37 x38 x39 x40 x41 x42 x43 x44 x45 x46 x47 x48 x49 x50 x51 x52 x53 x54 x55 x56 x57 x58 x59 x60 x61 x62 x63 x64 x65 x66 x67 x68 x69 x70 x71 x72 x73 x74 x75 x76 x77 x78 x79 x80 x81 x82 x83 x84 x85 x86 : Value} {Q : Exit → Act → World → Prop}
    (hQ : ∀ (y4 y5 y6 y7 y8 y30 y31 y32 y33 y34 y35 y36 y37 y38 y39 y40 y41 y42 y43 y44 y45 y46 y47 y48 y49 y50 y51 y52 y53 y54 y55 y56 y57 y58 y59 y60 y61 y62 y63 y64 y65 y66 y67 y68 y69 y70 y71 y72 y73 y74 y75 y76 y77 y78 y79 y80 y81 y82 y83 y84 y85 : Value), Q .normal ⟨#[.pointer (some ⟨q.xb, 0, none⟩), x1,x2,x3,y4,y5,y6,y7,y8,x9,x10,x11,x12,x13,x14,x15,x16,x17,x18,x19,x20,x21,x22,x23,x24,x25, .slice (some ⟨ib, 0, none⟩) len cap, x27, .int .i64 k, x29,y30,y31,y32,y33,y34,y35,y36,y37,y38,y39,y40,y41,y42,y43,y44,y45,y46,y47,y48,y49,y50,y51,y52,y53,y54,y55,y56,y57,y58,y59,y60,y61,y62,y63,y64,y65,y66,y67,y68,y69,y70,y71,y72,y73,y74,y75,y76,y77,y78,y79,y80,y81,y82,y83,y84,y85,x86], ds⟩ W) :
    Code.wp Tryz.prog tickB1 Q ⟨#[.pointer (some ⟨q.xb, 0, none⟩), x1,x2,x3,x4,x5,x6,x7,x8,x9,x10,x11,x12,x13,x14,x15,x16,x17,x18,x19,x20,x21,x22,x23,x24,x25, .slice (some ⟨ib, 0, none⟩) len cap, x27, .int .i64 k, x29,x30,x31,x32,x33,x34,x35,x36,x37,x38,x39,x40,x41,x42,x43,x44,x45,x46,x47,x48,x49,x50,x51,x52,x53,x54,x55,x56,x57,x58,x59,x60,x61,x62,x63,x64,x65,x66,x67,x68,x69,x70,x71,x72,x73,x74,x75,x76,x77,x78,x79,x80,x81,x82,x83,x84,x85,x86], ds⟩ W := by
  have hlk := look_some hs.mp g.id (by omega) hbo
  have hx := hs.eng
  have HW := Lib.hid (Waits_calls (hs.sg k g b hg hb) s.clock)
  rw [hw] at HW
  have hkI : (k : Int) < len := by omega
  have hk0 : (0 : Int) ≤ k := by omega
  have HQ := Lib.hid hQ
  simp only [egCells] at hx
  clear hs hg hb hbo hgi hk hw hQ
  have hcv := cellv W
  conv => arg 2; whnf
  go_wp2_with (first
    | (go_at_call 49; refine Calls.mono HW.out ?_; rintro e w2 ⟨rfl, rfl⟩)
    | fail)
  exact HQ.out _ _ _ _ _ _ _ _ _ _ _ _ _ _ _ _ _ _ _ _ _ _ _ _ _ _ _ _ _ _ _ _ _ _ _ _ _ _ _ _ _ _ _ _ _ _ _ _ _ _ _ _ _ _ _ _ _ _ _ _ _
set_option maxRecDepth 100000 in
set_option maxHeartbeats 4000000 in
/-- It is asked in vain. -/
theorem tick_vainV (cv : Value) (a : AskM) (q : Pl) (bl : List Nat) (s : StM) (k : Nat) (g : SagaM) (b ib len cap : Nat) (W : World) (hs : StV cv W q bl s) (hA : Asks cv q.pb a) (hi : s.inv) (hg : s.sagas[k]? = some g) (hb : bl[k]? = some b) (hbo : blkOfId (ilOf s.sagas bl) g.id = some b) (hgi : 1 ≤ g.id ∧ g.id ≤ 1000)
    (hid : W.cell? ⟨ib, k, none⟩ = some (.int .i64 g.id)) (hk : k < len) (hw : g.waits s.clock = true) (hgo : g.ok) (hst : g.st = 1 ∨ g.st = 2) (hsm : s.p.small) (hm : g.moves (a.rep s.p g.call) = false)
    {ds : List Deferred} {x1 x2 x3 x4 x5 x6 x7 x8 x9 x10 x11 x12 x13 x14 x15 x16 x17 x18 x19 x20 x21 x22 x23 x24 x25 x27 x29 x30 x31 x32 x33 x34 x35 x36 x37 x38 x39 x40 x41 x42 x43 x44 x45 x46 x47 x48 x49 x50 x51 x52 x53 x54 x55 x56 x57 x58 x59 x60 x61 x62 x63 x64 x65 x66 x67 x68 x69 x70 x71 x72 x73 x74 x75 x76 x77 x78 x79 x80 x81 x82 x83 x84 x85 x86 : Value} {Q : Exit → Act → World → Prop}
    (hQ : ∀ (y4 y5 y6 y7 y8 y30 y31 y32 y33 y34 y35 y36 y37 y38 y39 y40 y41 y42 y43 y44 y45 y46 y47 y48 y49 y50 y51 y52 y53 y54 y55 y56 y57 y58 y59 y60 y61 y62 y63 y64 y65 y66 y67 y68 y69 y70 y71 y72 y73 y74 y75 y76 y77 y78 y79 y80 y81 y82 y83 y84 y85 : Value) (w' : World), StV cv w' q bl (s.stepA a k) → FrK KT W w' → TkF q bl W w' → Q .normal ⟨#[.pointer (some ⟨q.xb, 0, none⟩), x1,x2,x3,y4,y5,y6,y7,y8,x9,x10,x11,x12,x13,x14,x15,x16,x17,x18,x19,x20,x21,x22,x23,x24,x25, .slice (some ⟨ib, 0, none⟩) len cap, x27, .int .i64 k, x29,y30,y31,y32,y33,y34,y35,y36,y37,y38,y39,y40,y41,y42,y43,y44,y45,y46,y47,y48,y49,y50,y51,y52,y53,y54,y55,y56,y57,y58,y59,y60,y61,y62,y63,y64,y65,y66,y67,y68,y69,y70,y71,y72,y73,y74,y75,y76,y77,y78,y79,y80,y81,y82,y83,y84,y85,x86], ds⟩ w') :
    Code.wp Tryz.prog tickB1 Q ⟨#[.pointer (some ⟨q.xb, 0, none⟩), x1,x2,x3,x4,x5,x6,x7,x8,x9,x10,x11,x12,x13,x14,x15,x16,x17,x18,x19,x20,x21,x22,x23,x24,x25, .slice (some ⟨ib, 0, none⟩) len cap, x27, .int .i64 k, x29,x30,x31,x32,x33,x34,x35,x36,x37,x38,x39,x40,x41,x42,x43,x44,x45,x46,x47,x48,x49,x50,x51,x52,x53,x54,x55,x56,x57,x58,x59,x60,x61,x62,x63,x64,x65,x66,x67,x68,x69,x70,x71,x72,x73,x74,x75,x76,x77,x78,x79,x80,x81,x82,x83,x84,x85,x86], ds⟩ W := by
  have hlk := look_some hs.mp g.id (by omega) hbo
  have hx := hs.eng
  have HW := Lib.hid (Waits_calls (hs.sg k g b hg hb) s.clock)
  rw [hw] at HW
  have HS := Lib.hid (Settle_calls hs.jn hs.dk hi.quiet)
  have hstep : Hid (s.stepA a k = { s with sagas := s.sagas.set k (g.paused s.clock s.pause), j := { s.j with fresh := false }, d := settleD s.j s.d, p := a.nxt s.p g.call }) := by
    show _ = _
    simp [StM.stepA, hg, hw, hm]
  have hkI : (k : Int) < len := by omega
  have hk0 : (0 : Int) ≤ k := by omega
  have HQ := Lib.hid hQ
  have Hs := Lib.hid hs
  have HA := Lib.hid hA
  have Hg := Lib.hid hg
  have Hb := Lib.hid hb
  have Hgo := Lib.hid hgo
  have Hst := Lib.hid hst
  have Hsm := Lib.hid hsm
  have Hm := Lib.hid hm
  have Hx := Lib.hid hx
  simp only [egCells] at hx
  clear hA hs hg hb hbo hgi hk hw hQ hgo hst hsm hm hi
  have hcv := cellv W
  conv => arg 2; whnf
  go_upto_region 13 with (first
    | (go_at_call 49; refine Calls.mono HW.out ?_; rintro e w2 ⟨rfl, rfl⟩)
    | (go_at_call 50; refine Calls.mono HS.out ?_; rintro e w2 ⟨rfl, hf2, hd2, hj2⟩)
    | fail)
  have hfk2 : FrK [103, 104, 133] W w2 := hf2.toK (by
    obtain ⟨_, _, _, _, e1, e2, _⟩ := Hs.out.dk
    have e3 := Hs.out.jn
    rintro x o (rfl | rfl | rfl) ho
    · rw [e1] at ho; cases ho; simp [kindOf]
    · rw [e2] at ho; cases ho; simp [kindOf]
    · rw [e3] at ho; cases ho; simp [kindOf])
  have Hfk2 := Lib.hid hfk2
  have HL2 : Hid (TkF q bl W w2) := TkF.of hf2 hfk2 (by decide) (by
    rintro k (rfl | rfl | rfl)
    · exact .inl (.inr (.inr (.inr (.inl rfl))))
    · exact .inl (.inr (.inr (.inr (.inr rfl))))
    · exact .inl (.inr (.inl rfl)))
  have Hg2 := Lib.hid ((Hs.out.sg k g b Hg.out Hb.out).keepK hfk2 (by decide) (by decide))
  have Hx2 := Lib.hid (hfk2.block _ _ Hx.out (by simp [kindOf]))
  have Hp2 := Lib.hid (Hs.out.pt.keepK hfk2 (by decide) (by decide) (by decide) (by decide))
  have Hd2 := Lib.hid hd2
  have Hj2 := Lib.hid hj2
  have hkk : ∃ kk : Nat, g.step = (kk : Int) + 1 ∧ kk < g.steps.length := by
    obtain ⟨_, _, _, _, h | h⟩ := Hgo.out
    · exact ⟨(g.step - 1).toNat, by omega, by omega⟩
    · rcases h.1 with e | e <;> rcases Hst.out with e' | e' <;> omega
  obtain ⟨kk, hk1, hk2⟩ := hkk
  have hl6 : g.steps.length ≤ 100 := by have := Hgo.out.2.2.1.2.1; omega
  have HC := Lib.hid (Call_calls Hg2.out Hst.out kk hk1 hk2 hl6)
  clear hf2 hfk2 hd2 hj2 hx hcv hk1 hk2 hl6 hlk hid
  go_upto_region 14 with (first
    | (go_at_call 52; refine Calls.mono HC.out ?_; rintro e w3 ⟨rfl, hf3⟩)
    | (go_at_call 51; refine Calls.mono (HA.out _ _ _ _ _ _ g.call s.p (hf3.get Hx2.out (fun f => f)) (Hp2.out.keep hf3.size (fun k o ho _ => hf3.get ho (fun f => f))) Hsm.out) ?_; rintro e w4 ⟨rfl, hp4, hf4, ho4⟩)
    | fail)
  have hO4 : TkF q bl W w4 := HL2.out.trans ((TkF.of hf3 (K := []) (hf3.toK (fun _ _ f _ => f.elim)) (by simp) (fun _ f => f.elim)).trans (TkF.ofPGo ho4))
  have HO4 := Lib.hid hO4
  clear hO4 ho4
  have hfk4 : FrK [45, 47, 49] w2 w4 := (hf3.toK (fun _ _ f _ => f.elim)).trans hf4
  have Hfk4 := Lib.hid hfk4
  have Hp4 := Lib.hid hp4
  have Hg4 := Lib.hid (Hg2.out.keepK hfk4 (by decide) (by decide))
  have Hx4 := Lib.hid (hfk4.block _ _ Hx2.out (by simp [kindOf]))
  have Hj4 := Lib.hid (Hj2.out.keepK hfk4 (by decide))
  have Hd4 := Lib.hid (Hd2.out.keepK hfk4 (by decide) (by decide) (by decide))
  have HM := Lib.hid (Moves_calls Hg4.out (a.rep s.p g.call))
  rw [Hm.out] at HM
  clear hf3 hp4 hf4 hfk4
  go_upto_region 15 with (first
    | (go_at_call 53; refine Calls.mono HM.out ?_; rintro e w5 ⟨rfl, rfl⟩)
    | fail)
  refine tick_r15 q.xb b q.jb q.mb s.pause s.clock cv g w4 Hx4.out Hg4.out Hgo.out.2.2.2.1 ?_
  intro y64 y65 y66 y67 y68 y69 y70 y71 y72 y73 w6 hf6 hs6
  have hfk6 : FrK [89] w4 w6 := hf6.toK (by
    obtain ⟨_, e1, _⟩ := Hg4.out
    rintro x o rfl ho
    rw [e1] at ho; cases ho; simp [kindOf])
  have hall : FrK KT W w6 := ((Hfk2.out.mono (by decide)).trans (Hfk4.out.mono (by decide))).trans (hfk6.mono (by decide))
  have Hall := Lib.hid hall
  have HO6 : Hid (TkF q bl W w6) := HO4.out.trans (TkF.of hf6 hfk6 (by decide) (by
    rintro k rfl
    exact .inr (List.mem_of_getElem? Hb.out)))
  have Hfk6 := Lib.hid hfk6
  have Hf6 := Lib.hid hf6
  have Hs6 := Lib.hid hs6
  clear hfk6 hall hf6 hs6
  go_wp2_with fail
  refine HQ.out  _ _ _ _ _ _ _ _ _ _ _ _ _ _ _ _ _ _ _ _ _ _ _ _ _ _ _ _ _ _ _ _ _ _ _ _ _ _ _ _ _ _ _ _ _ _ _ _ _ _ _ _ _ _ _ _ _ _ _ _ _ w6 ?_ Hall.out HO6.out
  rw [hstep.out]
  have hlen := (List.getElem?_eq_some_iff.1 Hg.out).1
  have hsg4 := sgs_keepK (sgs_keepK Hs.out.sg Hfk2.out (by decide) (by decide)) Hfk4.out (by decide) (by decide)
  refine ⟨Hfk6.out.block _ _ Hx4.out (by simp [kindOf]), Hj4.out.keepK Hfk6.out (by decide), Hd4.out.keepK Hfk6.out (by decide) (by decide) (by decide), Hp4.out.keepK Hfk6.out (by decide) (by decide) (by decide) (by decide), ?_, ?_, ?_, Hs.out.nd⟩
  · simp only
    rw [il_set s.sagas bl k g (g.paused s.clock s.pause) Hg.out rfl, List.length_set]
    exact map_keepK (map_keepK (map_keepK Hs.out.mp Hfk2.out (by decide)) Hfk4.out (by decide)) Hfk6.out (by decide)
  · simp only
    rw [List.length_set]; exact Hs.out.len
  · exact sgs_set hsg4 Hs.out.nd Hb.out hlen Hf6.out Hs6.out
set_option maxRecDepth 100000 in
set_option maxHeartbeats 4000000 in
/-- It is asked, and moved. -/
theorem tick_movedV (cv : Value) (a : AskM) (q : Pl) (bl : List Nat) (s : StM) (k : Nat) (g : SagaM) (b ib len cap : Nat) (W : World) (hs : StV cv W q bl s) (hA : Asks cv q.pb a) (hi : s.inv) (hg : s.sagas[k]? = some g) (hb : bl[k]? = some b) (hbo : blkOfId (ilOf s.sagas bl) g.id = some b) (hgi : 1 ≤ g.id ∧ g.id ≤ 1000)
    (hid : W.cell? ⟨ib, k, none⟩ = some (.int .i64 g.id)) (hk : k < len) (hw : g.waits s.clock = true) (hgo : g.ok) (hst : g.st = 1 ∨ g.st = 2) (hsm : s.p.small) (hroom : s.j.en + 1 ≤ s.d.blocks.length) (hm : g.moves (a.rep s.p g.call) = true)
    {ds : List Deferred} {x1 x2 x3 x4 x5 x6 x7 x8 x9 x10 x11 x12 x13 x14 x15 x16 x17 x18 x19 x20 x21 x22 x23 x24 x25 x27 x29 x30 x31 x32 x33 x34 x35 x36 x37 x38 x39 x40 x41 x42 x43 x44 x45 x46 x47 x48 x49 x50 x51 x52 x53 x54 x55 x56 x57 x58 x59 x60 x61 x62 x63 x64 x65 x66 x67 x68 x69 x70 x71 x72 x73 x74 x75 x76 x77 x78 x79 x80 x81 x82 x83 x84 x85 x86 : Value} {Q : Exit → Act → World → Prop}
    (hQ : ∀ (y4 y5 y6 y7 y8 y30 y31 y32 y33 y34 y35 y36 y37 y38 y39 y40 y41 y42 y43 y44 y45 y46 y47 y48 y49 y50 y51 y52 y53 y54 y55 y56 y57 y58 y59 y60 y61 y62 y63 y64 y65 y66 y67 y68 y69 y70 y71 y72 y73 y74 y75 y76 y77 y78 y79 y80 y81 y82 y83 y84 y85 : Value) (w' : World), StV cv w' q bl (s.stepA a k) → FrK KT W w' → TkF q bl W w' → Q .normal ⟨#[.pointer (some ⟨q.xb, 0, none⟩), x1,x2,x3,y4,y5,y6,y7,y8,x9,x10,x11,x12,x13,x14,x15,x16,x17,x18,x19,x20,x21,x22,x23,x24,x25, .slice (some ⟨ib, 0, none⟩) len cap, x27, .int .i64 k, x29,y30,y31,y32,y33,y34,y35,y36,y37,y38,y39,y40,y41,y42,y43,y44,y45,y46,y47,y48,y49,y50,y51,y52,y53,y54,y55,y56,y57,y58,y59,y60,y61,y62,y63,y64,y65,y66,y67,y68,y69,y70,y71,y72,y73,y74,y75,y76,y77,y78,y79,y80,y81,y82,y83,y84,y85,x86], ds⟩ w') :
    Code.wp Tryz.prog tickB1 Q ⟨#[.pointer (some ⟨q.xb, 0, none⟩), x1,x2,x3,x4,x5,x6,x7,x8,x9,x10,x11,x12,x13,x14,x15,x16,x17,x18,x19,x20,x21,x22,x23,x24,x25, .slice (some ⟨ib, 0, none⟩) len cap, x27, .int .i64 k, x29,x30,x31,x32,x33,x34,x35,x36,x37,x38,x39,x40,x41,x42,x43,x44,x45,x46,x47,x48,x49,x50,x51,x52,x53,x54,x55,x56,x57,x58,x59,x60,x61,x62,x63,x64,x65,x66,x67,x68,x69,x70,x71,x72,x73,x74,x75,x76,x77,x78,x79,x80,x81,x82,x83,x84,x85,x86], ds⟩ W := by
  have hlk := look_some hs.mp g.id (by omega) hbo
  have hx := hs.eng
  have HW := Lib.hid (Waits_calls (hs.sg k g b hg hb) s.clock)
  rw [hw] at HW
  have HS := Lib.hid (Settle_calls hs.jn hs.dk hi.quiet)
  have hstep : Hid (s.stepA a k = { s with sagas := s.sagas.set k (g.moved (a.rep s.p g.call)), j := ⟨s.j.epoch, s.j.en + 1, false⟩, d := (settleD s.j s.d).append s.j.epoch s.j.en [⟨4, 0, 0, g.id.toNat, (a.rep s.p g.call).toNat, []⟩], p := a.nxt s.p g.call }) := by
    show _ = _
    simp [StM.stepA, hg, hw, hm]
  have hkI : (k : Int) < len := by omega
  have hk0 : (0 : Int) ≤ k := by omega
  have HQ := Lib.hid hQ
  have Hs := Lib.hid hs
  have HA := Lib.hid hA
  have Hg := Lib.hid hg
  have Hb := Lib.hid hb
  have Hgo := Lib.hid hgo
  have Hst := Lib.hid hst
  have Hsm := Lib.hid hsm
  have Hm := Lib.hid hm
  have Hroom := Lib.hid hroom
  have Hi := Lib.hid hi
  have Hgi := Lib.hid hgi
  have Hx := Lib.hid hx
  simp only [egCells] at hx
  clear hA hs hg hb hbo hgi hk hw hQ hgo hst hsm hm hi hroom
  have hcv := cellv W
  conv => arg 2; whnf
  go_upto_region 13 with (first
    | (go_at_call 49; refine Calls.mono HW.out ?_; rintro e w2 ⟨rfl, rfl⟩)
    | (go_at_call 50; refine Calls.mono HS.out ?_; rintro e w2 ⟨rfl, hf2, hd2, hj2⟩)
    | fail)
  have hfk2 : FrK [103, 104, 133] W w2 := hf2.toK (by
    obtain ⟨_, _, _, _, e1, e2, _⟩ := Hs.out.dk
    have e3 := Hs.out.jn
    rintro x o (rfl | rfl | rfl) ho
    · rw [e1] at ho; cases ho; simp [kindOf]
    · rw [e2] at ho; cases ho; simp [kindOf]
    · rw [e3] at ho; cases ho; simp [kindOf])
  have Hfk2 := Lib.hid hfk2
  have HL2 : Hid (TkF q bl W w2) := TkF.of hf2 hfk2 (by decide) (by
    rintro k (rfl | rfl | rfl)
    · exact .inl (.inr (.inr (.inr (.inl rfl))))
    · exact .inl (.inr (.inr (.inr (.inr rfl))))
    · exact .inl (.inr (.inl rfl)))
  have Hg2 := Lib.hid ((Hs.out.sg k g b Hg.out Hb.out).keepK hfk2 (by decide) (by decide))
  have Hx2 := Lib.hid (hfk2.block _ _ Hx.out (by simp [kindOf]))
  have Hp2 := Lib.hid (Hs.out.pt.keepK hfk2 (by decide) (by decide) (by decide) (by decide))
  have Hd2 := Lib.hid hd2
  have Hj2 := Lib.hid hj2
  have hkk : ∃ kk : Nat, g.step = (kk : Int) + 1 ∧ kk < g.steps.length := by
    obtain ⟨_, _, _, _, h | h⟩ := Hgo.out
    · exact ⟨(g.step - 1).toNat, by omega, by omega⟩
    · rcases h.1 with e | e <;> rcases Hst.out with e' | e' <;> omega
  obtain ⟨kk, hk1, hk2⟩ := hkk
  have hl6 : g.steps.length ≤ 100 := by have := Hgo.out.2.2.1.2.1; omega
  have HC := Lib.hid (Call_calls Hg2.out Hst.out kk hk1 hk2 hl6)
  clear hf2 hfk2 hd2 hj2 hx hcv hk1 hk2 hl6 hlk hid
  go_upto_region 14 with (first
    | (go_at_call 52; refine Calls.mono HC.out ?_; rintro e w3 ⟨rfl, hf3⟩)
    | (go_at_call 51; refine Calls.mono (HA.out _ _ _ _ _ _ g.call s.p (hf3.get Hx2.out (fun f => f)) (Hp2.out.keep hf3.size (fun k o ho _ => hf3.get ho (fun f => f))) Hsm.out) ?_; rintro e w4 ⟨rfl, hp4, hf4, ho4⟩)
    | fail)
  have hO4 : TkF q bl W w4 := HL2.out.trans ((TkF.of hf3 (K := []) (hf3.toK (fun _ _ f _ => f.elim)) (by simp) (fun _ f => f.elim)).trans (TkF.ofPGo ho4))
  have HO4 := Lib.hid hO4
  clear hO4 ho4
  have hfk4 : FrK [45, 47, 49] w2 w4 := (hf3.toK (fun _ _ f _ => f.elim)).trans hf4
  have Hfk4 := Lib.hid hfk4
  have Hp4 := Lib.hid hp4
  have Hg4 := Lib.hid (Hg2.out.keepK hfk4 (by decide) (by decide))
  have Hx4 := Lib.hid (hfk4.block _ _ Hx2.out (by simp [kindOf]))
  have Hj4 := Lib.hid (Hj2.out.keepK hfk4 (by decide))
  have Hd4 := Lib.hid (Hd2.out.keepK hfk4 (by decide) (by decide) (by decide))
  have HM := Lib.hid (Moves_calls Hg4.out (a.rep s.p g.call))
  rw [Hm.out] at HM
  clear hf3 hp4 hf4 hfk4
  have Hrp2 : Hid (a.rep s.p g.call = 0 ∨ a.rep s.p g.call = 2) := by
    have := Hm.out
    simp [SagaM.moves] at this
    exact this.imp id (fun h => h.1)
  generalize a.rep s.p g.call = rp at Hm HM Hrp2 hstep HQ ⊢
  go_upto_region 16 with (first
    | (go_at_call 53; refine Calls.mono HM.out ?_; rintro e w5 ⟨rfl, rfl⟩)
    | fail)
  have hN4 : New w4 (w4.alloc (.cells #[.int .u8 4, .int .u32 0, .int .i64 0, .int .i64 g.id, .int .i64 rp, .slice none 0 0] 91)) := (Fr.refl _ _).alloc _
  have hlb := heap_alloc_new w4 (.cells #[.int .u8 4, .int .u32 0, .int .i64 0, .int .i64 g.id, .int .i64 rp, .slice none 0 0] 91)
  have hrec : RecsAt (w4.alloc (.cells #[.int .u8 4, .int .u32 0, .int .i64 0, .int .i64 g.id, .int .i64 rp, .slice none 0 0] 91)) w4.heap.size [⟨4, 0, 0, g.id.toNat, rp.toNat, []⟩] := by
    have h1 := Hgi.out
    have h2 := Hrp2.out
    refine ⟨?_, _, hlb, ?_⟩
    · intro r hr ep ix hep hix
      simp at hr
      subst hr
      exact ⟨by show 4 < 256; omega, hep, hix, by show g.id.toNat < 65536; omega, by show rp.toNat < 256; omega, fun _ => rfl, fun h => by simp [placed] at h⟩
    · intro k r hr
      cases k with
      | succ k => simp at hr
      | zero =>
        simp at hr
        subst hr
        refine ⟨.slice none 0 0, ⟨none, 0, 0, rfl⟩, fun h => by simp at h, fun i hi => ?_⟩
        have e1 : ((g.id.toNat : Nat) : Int) = g.id := by omega
        have e2 : ((rp.toNat : Nat) : Int) = rp := by omega
        simp only [rcells, Nat.zero_mul, Nat.zero_add, e1, e2]
        rfl
  have hpend : (settleD s.j s.d).pend = none := settle_pend _ _ Hi.out.pend
  have hlen1 : (settleD s.j s.d).blocks.length = s.d.blocks.length := settle_len _ _ Hi.out.pend
  have HWr := Lib.hid (write_calls (cap := 1) (hN4.get Hx4.out (fun f => f)) (hN4.get Hj4.out (fun f => f)) (Hd4.out.new hN4) (settle_quiet _ _ Hi.out.quiet) hpend hrec rfl Hi.out.epoch (by rw [hlen1]; exact Hroom.out) (by rw [hlen1]; exact Hi.out.size))
  have HN4 := Lib.hid hN4
  clear hN4 hlb hrec hpend hlen1
  go_upto_region 19 with (first
    | (go_at_call 46; refine Calls.mono HWr.out ?_; rintro e w6 ⟨rfl, hf6, hd6, hj6, hx6⟩)
    | fail)
  have hfw6 : FrK [103, 104, 133, 80] _ w6 := hf6.toK (by
    obtain ⟨_, _, _, _, e1, e2, _⟩ := Hd4.out
    have e3 := Hj4.out
    have e4 := Hx4.out
    have n1 := HN4.out.get e1 (fun f => f)
    have n2 := HN4.out.get e2 (fun f => f)
    have n3 := HN4.out.get e3 (fun f => f)
    have n4 := HN4.out.get e4 (fun f => f)
    rintro x o (rfl | rfl | rfl | rfl) ho
    · rw [n1] at ho; cases ho; simp [kindOf]
    · rw [n2] at ho; cases ho; simp [kindOf]
    · rw [n3] at ho; cases ho; simp [kindOf]
    · rw [n4] at ho; cases ho; simp [kindOf])
  have hfk6 : FrK [103, 104, 133, 80] w4 w6 := (HN4.out.toK (fun _ _ f _ => f.elim)).trans hfw6
  have Hfk6 := Lib.hid hfk6
  have Hg6 := Lib.hid (Hg4.out.keepK hfk6 (by decide) (by decide))
  have HL6 : Hid (TkF q bl w4 w6) := (TkF.of HN4.out (K := []) (HN4.out.toK (fun _ _ f _ => f.elim)) (by simp) (fun _ f => f.elim)).trans (TkF.of hf6 hfw6 (by decide) (by
    rintro k (rfl | rfl | rfl | rfl)
    · exact .inl (.inr (.inr (.inr (.inl rfl))))
    · exact .inl (.inr (.inr (.inr (.inr rfl))))
    · exact .inl (.inr (.inl rfl))
    · exact .inl (.inl rfl)))
  have Hd6 := Lib.hid hd6
  have Hj6 := Lib.hid hj6
  have Hx6 := Lib.hid hx6
  have hst1 : 1 ≤ g.step ∧ g.step ≤ 100 := by
    obtain ⟨_, _, hsm, _, h | h⟩ := Hgo.out
    · have := hsm.2.1; omega
    · rcases h.1 with e | e <;> rcases Hst.out with e' | e' <;> omega
  have HMv := Lib.hid (Move_calls Hg6.out Hst.out hst1 rp)
  clear hf6 hd6 hj6 hx6 hfk6 hfw6 hst1
  go_wp2_with (first
    | (go_at_call 55; refine Calls.mono HMv.out ?_; rintro e w7 ⟨rfl, hf7, hs7⟩)
    | fail)
  have hfk7 : FrK [89] w6 w7 := hf7.toK (by
    obtain ⟨_, e1, _⟩ := Hg6.out
    rintro x o rfl ho
    rw [e1] at ho; cases ho; simp [kindOf])
  have hall : FrK KT W w7 := (((Hfk2.out.mono (by decide)).trans (Hfk4.out.mono (by decide))).trans (Hfk6.out.mono (by decide))).trans (hfk7.mono (by decide))
  refine HQ.out  _ _ _ _ _ _ _ _ _ _ _ _ _ _ _ _ _ _ _ _ _ _ _ _ _ _ _ _ _ _ _ _ _ _ _ _ _ _ _ _ _ _ _ _ _ _ _ _ _ _ _ _ _ _ _ _ _ _ _ _ _ w7 ?_ hall ((HO4.out.trans HL6.out).trans (TkF.of hf7 hfk7 (by decide) (by
    rintro k rfl
    exact .inr (List.mem_of_getElem? Hb.out))))
  rw [hstep.out]
  have hlen := (List.getElem?_eq_some_iff.1 Hg.out).1
  have hsg6 := sgs_keepK (sgs_keepK (sgs_keepK Hs.out.sg Hfk2.out (by decide) (by decide)) Hfk4.out (by decide) (by decide)) Hfk6.out (by decide) (by decide)
  have hidm := moved_id g rp
  refine ⟨hfk7.block _ _ Hx6.out (by simp [kindOf]), Hj6.out.keepK hfk7 (by decide), Hd6.out.keepK hfk7 (by decide) (by decide) (by decide), ?_, ?_, ?_, ?_, Hs.out.nd⟩
  · exact (Hp4.out.keepK Hfk6.out (by decide) (by decide) (by decide) (by decide)).keepK hfk7 (by decide) (by decide) (by decide) (by decide)
  · simp only
    rw [il_set s.sagas bl k g (g.moved rp) Hg.out hidm, List.length_set]
    exact map_keepK (map_keepK (map_keepK (map_keepK Hs.out.mp Hfk2.out (by decide)) Hfk4.out (by decide)) Hfk6.out (by decide)) hfk7 (by decide)
  · simp only
    rw [List.length_set]; exact Hs.out.len
  · exact sgs_set hsg6 Hs.out.nd Hb.out hlen hf7 hs7
end Go.Proofs.YtkafmfdipmhleaaGreatDoor

namespace Go.Proofs.YtkafmfdipmhleaaGreatDoor
open Go.RowKit Go.Maps
def PartM.fine (p : PartM) (m : Nat) : Prop := p.log.length + m < 2 ^ 30 ∧ p.effs.length + m < 2 ^ 30 ∧ p.l.length < 2 ^ 30 ∧ 0 ≤ p.at_ ∧ p.at_ + m < 2 ^ 30
theorem PartM.fine.less {p : PartM} {m k : Nat} (h : p.fine m) (hk : k ≤ m) : p.fine k := by
  obtain ⟨h1, h2, h3, h4, h5⟩ := h
  exact ⟨by omega, by omega, h3, h4, by omega⟩
theorem PartM.fine.small {p : PartM} {m : Nat} (h : p.fine m) : p.small := by
  obtain ⟨h1, h2, h3, h4, h5⟩ := h
  exact ⟨by omega, by omega, h3, h4, by omega⟩
def AskM.good (a : AskM) : Prop := ∀ p c m, p.fine (m + 1) → (a.nxt p c).fine m
theorem good_p : askP.good := by
  intro p c m h
  obtain ⟨h1, h2, h3, h4, h5⟩ := h
  obtain ⟨a1, a2, a3, a4, a5, a6⟩ := ask_fine (c := c) h1 h2 h4 (by omega)
  exact ⟨a1, a2, by show (p.ask c).l.length < _; rw [a3]; exact h3, a4, a5⟩
theorem good_f : askF.good := fun p _ m h => h.less (by omega)
/-- There is room in the numbers for m more questions. -/
def StM.fineV (s : StM) (m : Nat) : Prop := s.p.fine m ∧ ∀ g ∈ s.sagas, g.tries + m < 2 ^ 30
theorem stepA_inv {a : AskM} (ha : a.good) {s : StM} {k m : Nat} (h : s.inv) (hf : s.fineV (m + 1)) : (s.stepA a k).inv ∧ (s.stepA a k).fineV m ∧ (s.stepA a k).clock = s.clock ∧ (s.stepA a k).sagas.length = s.sagas.length := by
  have hf0 : s.fineV m := by
    obtain ⟨h1, h6⟩ := hf
    exact ⟨h1.less (by omega), fun g hg => by have := h6 g hg; omega⟩
  cases hg : s.sagas[k]? with
  | none => simp only [StM.stepA, hg]; exact ⟨h, hf0, trivial, trivial⟩
  | some g =>
    by_cases hw : g.waits s.clock = false
    · simp only [StM.stepA, hg, hw, if_true]; exact ⟨h, hf0, trivial, trivial⟩
    · have hmem : g ∈ s.sagas := List.mem_of_getElem? hg
      have hok := h.ok g hmem
      have hst : g.st = 1 ∨ g.st = 2 := by
        simp [SagaM.waits] at hw
        obtain ⟨_, _, _, _, h | h⟩ := hok
        · exact h.1
        · omega
      obtain ⟨f1, f6⟩ := hf
      have a1 := ha s.p g.call m f1
      have hlen : (settleD s.j s.d).blocks.length = s.d.blocks.length := settle_len _ _ h.pend
      by_cases hm : g.moves (a.rep s.p g.call) = false
      · have e : s.stepA a k = { s with sagas := s.sagas.set k (g.paused s.clock s.pause), j := { s.j with fresh := false }, d := settleD s.j s.d, p := a.nxt s.p g.call } := by
          simp [StM.stepA, hg, hw, hm]
        have ht := f6 g hmem
        have htr : (g.paused s.clock s.pause).tries = g.tries + 1 := by
          show wrap64 (g.tries + 1) = _
          have := hok.2.2.2.1
          exact wrap_in _ (by omega)
        have hpok : (g.paused s.clock s.pause).ok := by
          obtain ⟨b1, b2, b3, b4, b5⟩ := hok
          exact ⟨b1, b2, b3, by rw [htr]; omega, b5⟩
        rw [e]
        refine ⟨⟨settle_quiet _ _ h.quiet, settle_pend _ _ h.pend, h.epoch, ?_, ord_set h.ord hg rfl, ?_, by simp only; rw [hlen]; exact h.size, h.pause⟩, ⟨a1, ?_⟩, rfl, by simp⟩
        · intro x hx
          rcases mem_set_cases hx with rfl | hx
          · exact hpok
          · exact h.ok x hx
        · simp only
          rw [leftSum_set _ _ g _ hg, hlen]
          have e2 : (g.paused s.clock s.pause).left = g.left := rfl
          rw [e2]
          have := h.room
          omega
        · intro x hx
          rcases mem_set_cases hx with rfl | hx
          · rw [htr]; omega
          · have := f6 x hx; omega
      · have e : s.stepA a k = { s with sagas := s.sagas.set k (g.moved (a.rep s.p g.call)), j := ⟨s.j.epoch, s.j.en + 1, false⟩, d := (settleD s.j s.d).append s.j.epoch s.j.en [⟨4, 0, 0, g.id.toNat, (a.rep s.p g.call).toNat, []⟩], p := a.nxt s.p g.call } := by
          simp [StM.stepA, hg, hw, hm]
        obtain ⟨hmo, hml⟩ := hok.moved hst (a.rep s.p g.call)
        rw [e]
        refine ⟨⟨(settle_quiet _ _ h.quiet).append _ _ _, append_pend _ _ _ _ (settle_pend _ _ h.pend), h.epoch, ?_, ord_set h.ord hg (moved_id g _), ?_, by simp only; rw [append_len, hlen]; exact h.size, h.pause⟩, ⟨a1, ?_⟩, rfl, by simp⟩
        · intro x hx
          rcases mem_set_cases hx with rfl | hx
          · exact hmo
          · exact h.ok x hx
        · simp only
          rw [leftSum_set _ _ g _ hg, append_len, hlen]
          have := h.room
          omega
        · intro x hx
          rcases mem_set_cases hx with rfl | hx
          · have : (g.moved (a.rep s.p g.call)).tries = 0 := by
              by_cases h1 : g.st = 1 <;> by_cases h2 : a.rep s.p g.call = 0 <;> by_cases h3 : (g.steps.length : Int) < g.step + 1 <;> simp [SagaM.moved, SagaM.forward, SagaM.backward, h1, h2, h3]
            have := f1.2.2.2.1
            rw [show (g.moved (a.rep s.p g.call)).tries = 0 by assumption]
            have := f6 g hmem
            have := hok.2.2.2.1
            omega
          · have := f6 x hx; omega
theorem foldA_inv {a : AskM} (ha : a.good) (l : List Nat) (s : StM) {m : Nat} (h : s.inv) (hf : s.fineV (m + l.length)) : (l.foldl (StM.stepA a) s).inv ∧ (l.foldl (StM.stepA a) s).fineV m ∧ (l.foldl (StM.stepA a) s).clock = s.clock ∧ (l.foldl (StM.stepA a) s).sagas.length = s.sagas.length := by
  induction l generalizing s with
  | nil => exact ⟨h, hf, rfl, rfl⟩
  | cons x l ih =>
    obtain ⟨h1, h2, h3, h4⟩ := stepA_inv ha (k := x) (m := m + l.length) h (by simpa [Nat.add_assoc] using hf)
    obtain ⟨i1, i2, i3, i4⟩ := ih (s.stepA a x) h1 h2
    exact ⟨i1, i2, i3.trans h3, i4.trans h4⟩
theorem stepA_ids (a : AskM) (s : StM) (k : Nat) : (s.stepA a k).sagas.map (·.id) = s.sagas.map (·.id) := by
  have key : ∀ (g g' : SagaM), s.sagas[k]? = some g → g'.id = g.id → (s.sagas.set k g').map (·.id) = s.sagas.map (·.id) := by
    intro g g' hg hid
    apply List.ext_getElem?
    intro i
    by_cases e : i = k
    · subst e
      have hl := (List.getElem?_eq_some_iff.1 hg).1
      rw [List.getElem?_map, List.getElem?_map, List.getElem?_set_self hl, hg]
      simp [hid]
    · rw [List.getElem?_map, List.getElem?_map, List.getElem?_set_ne (fun h => e h.symm)]
  cases hg : s.sagas[k]? with
  | none => simp only [StM.stepA, hg]
  | some g =>
    by_cases hw : g.waits s.clock = false
    · simp only [StM.stepA, hg, hw, if_true]
    · by_cases hm : g.moves (a.rep s.p g.call) = false
      · simp only [StM.stepA, hg, hw, hm, if_true, if_false]
        exact key g _ hg rfl
      · simp only [StM.stepA, hg, hw, hm, if_false]
        exact key g _ hg (moved_id g _)
theorem foldA_ids (a : AskM) (l : List Nat) (s : StM) : (l.foldl (StM.stepA a) s).sagas.map (·.id) = s.sagas.map (·.id) := by
  induction l generalizing s with
  | nil => rfl
  | cons x l ih => rw [List.foldl_cons, ih, stepA_ids]
def StM.tickA (s : StM) (a : AskM) : StM := (List.range s.sagas.length).foldl (StM.stepA a) { s with clock := s.clock + 1 }
theorem below_New {B : Nat} {w w' : World} (h : Below B w w') (hB : w.heap.size ≤ B) : New w w' := ⟨h.os, h.tape, h.output, h.size, fun k hk _ => h.block k (Nat.lt_of_lt_of_le hk hB)⟩
set_option maxRecDepth 100000 in
set_option maxHeartbeats 4000000 in
theorem Tick_V {cv : Value} {a : AskM} {w : World} {q : Pl} {bl : List Nat} {s : StM} {m : Nat} (hs : StV cv w q bl s) (hA : Asks cv q.pb a) (ha : a.good) (hi : s.inv) (hf : s.fineV (m + s.sagas.length)) (hck : -9223372036854775808 ≤ s.clock + 1 ∧ s.clock + 1 ≤ 9223372036854775807) :
    Calls Tryz.prog 20 #[.pointer (some ⟨q.xb, 0, none⟩)] w fun e w' => e = .returned .nilIface ∧ StV cv w' q bl (s.tickA a) ∧ FrK KT w w' ∧ TkF q bl w w' := by
  have hx := hs.eng
  have Hs := Lib.hid hs
  have Hi := Lib.hid hi
  have Hf := Lib.hid hf
  have HA := Lib.hid hA
  have Hck := Lib.hid hck
  have hwr : wrap64 (s.clock + 1) = s.clock + 1 := wrap_in _ (by omega)
  have Hx := Lib.hid hx
  simp only [egCells] at hx
  clear hA hs hi hf hck
  have hcv := cellv w
  have hfv := frozv w
  go_enter Tryz.func20, Tryz.ntmps20
  go_upto_region 4 with fail
  have hF0 : FrK KT w (w.setCell ⟨q.xb, 4, none⟩ (.int .i64 (s.clock + 1))) := (Fr.one q.xb w 4 (.int .i64 (s.clock + 1))).toK (by
    rintro k o rfl ho
    rw [Hx.out] at ho; cases ho; simp [kindOf])
  have hs1 : StV cv (w.setCell ⟨q.xb, 4, none⟩ (.int .i64 (s.clock + 1))) q bl { s with clock := s.clock + 1 } := by
    have hk : FrK [80] w (w.setCell ⟨q.xb, 4, none⟩ (.int .i64 (s.clock + 1))) := (Fr.one q.xb w 4 (.int .i64 (s.clock + 1))).toK (by
      rintro k o rfl ho
      rw [Hx.out] at ho; cases ho; simp [kindOf])
    have h0 := Hs.out
    refine ⟨?_, h0.jn.keepK hk (by decide), h0.dk.keepK hk (by decide) (by decide) (by decide), h0.pt.keepK hk (by decide) (by decide) (by decide) (by decide), map_keepK h0.mp hk (by decide), h0.len, sgs_keepK h0.sg hk (by decide) (by decide), h0.nd⟩
    rw [hp_setCell, if_pos rfl, Hx.out]; simp [egCells]
  have HO0 : Hid (TkF q bl w (w.setCell ⟨q.xb, 4, none⟩ (.int .i64 (s.clock + 1)))) := TkF.of (Fr.one q.xb w 4 (.int .i64 (s.clock + 1))) (K := [80]) ((Fr.one q.xb w 4 (.int .i64 (s.clock + 1))).toK (by
    rintro k o rfl ho
    rw [Hx.out] at ho; cases ho; simp [kindOf])) (by decide) (by
    rintro k rfl
    exact .inl (.inl rfl))
  have HF0 := Lib.hid hF0
  have Hs1 := Lib.hid hs1
  clear hcv hfv hF0 hs1
  generalize w.setCell ⟨q.xb, 4, none⟩ (.int .i64 (s.clock + 1)) = w1 at HF0 HO0 Hs1 ⊢
  have hx := Hs1.out.eng
  simp only [egCells] at hx
  have hcv := cellv w1
  have hlen30 : s.sagas.length ≤ 1000 := inv_len Hi.out
  have hz : Maps.size (dataOf (ilOf s.sagas bl)) = s.sagas.length := by
    rw [size_dataOf, ilOf, List.length_zip, List.length_map, Hs.out.len]; omega
  have HS := Lib.hid (Sorted_calls q.mb s.sagas.length (dataOf (ilOf s.sagas bl)) ptrR w1 Hs1.out.mp (by rw [hz]; unfold maxLen; omega) (by rw [hz]; omega))
  clear hlen30 hz
  go_upto_region 5 with (first
    | (go_at_call 48; refine Calls.mono (Keys_calls (some q.mb) w1) ?_; rintro e w2 ⟨rfl, rfl⟩)
    | (go_at_call 47; refine Calls.mono HS.out ?_; rintro e w3 ⟨v, ss, rfl, hperm, hown, hnil, hbel⟩; obtain ⟨va, vc, rfl, hva⟩ := ids_shape hown)
    | fail)
  have hk3 : FrK [] w1 w3 := ((Fr.refl (fun _ => False) w1).alloc (.cells #[.map (some q.mb)] 76)).toK (fun _ _ f _ => f.elim) |>.trans (below_toK hbel (Nat.le_refl _) [])
  have hs3 := Hs1.out.keepK hk3 (by simp)
  have hids := keys_sorted Hs.out.len (Hi.out).ord hperm
  rw [hids] at hown
  have hlen : ss.length = s.sagas.length := by
    have := congrArg List.length hids
    simpa using this
  rw [hlen] at hown
  have HF3 := Lib.hid (HF0.out.trans (hk3.mono (by simp)))
  have HO3 := Lib.hid (HO0.out.trans (TkF.of ((((Fr.refl (fun _ => False) w1).alloc (.cells #[.map (some q.mb)] 76))).trans (below_New hbel (by simp))) hk3 (by simp) (fun _ f => f.elim)))
  have Hs3 := Lib.hid hs3
  rw [hlen] at hva
  have Hva := Lib.hid hva
  have Hlen := Lib.hid hlen
  clear hcv hx hnil hbel hk3 hs3 hids hperm hva
  have Hown := Lib.hid hown
  clear hown
  rw [hlen]
  clear hlen
  go_wp2_with fail
  go_loopw [28] (fun i wr => ∃ k : Nat, k ≤ s.sagas.length ∧ i = .int .i64 (k : Nat) ∧ StV cv wr q bl ((List.range k).foldl (StM.stepA a) { s with clock := s.clock + 1 }) ∧ FrK KT w3 wr ∧ TkF q bl w3 wr) (fun i _ => s.sagas.length - (intOf i).toNat)
  case atStart => exact ⟨0, Nat.zero_le _, rfl, Hs3.out, FrK.refl _ _, TkF.refl _ _ _⟩
  case round =>
    obtain ⟨k, hk, rfl, hsk, hfk, hok45⟩ := hrel
    have Hok45 := Lib.hid hok45
    clear hok45
    by_cases hkn : k < s.sagas.length
    · have hstep : (List.range (k + 1)).foldl (StM.stepA a) { s with clock := s.clock + 1 } = ((List.range k).foldl (StM.stepA a) { s with clock := s.clock + 1 }).stepA a k := by
        rw [List.range_succ, List.foldl_append]; rfl
      obtain ⟨t1, t2, t3, t4⟩ := foldA_inv ha (m := m + (s.sagas.length - k)) (List.range k) { s with clock := s.clock + 1 } (inv_clock Hi.out _) (by
        rw [List.length_range, show m + (s.sagas.length - k) + k = m + s.sagas.length by omega]; exact Hf.out)
      have t5 := foldA_ids a (List.range k) { s with clock := s.clock + 1 }
      have Hstep := Lib.hid hstep
      clear hstep
      generalize (List.range k).foldl (StM.stepA a) { s with clock := s.clock + 1 } = t at Hstep hsk t1 t2 t3 t4 t5
      obtain ⟨g, hg⟩ : ∃ g, t.sagas[k]? = some g := ⟨t.sagas[k], List.getElem?_eq_getElem (by rw [t4]; exact hkn)⟩
      obtain ⟨b, hb, hbo⟩ := blk_of t.sagas bl hsk.len t1.ord k g hg
      have hok := t1.ok g (List.mem_of_getElem? hg)
      have hgid : (s.sagas.map (·.id))[k]? = some g.id := by
        have : (t.sagas.map (·.id))[k]? = some g.id := by rw [List.getElem?_map, hg]; rfl
        rw [t5] at this; exact this
      obtain ⟨ib, rfl⟩ : ∃ ib, va = some ⟨ib, 0, none⟩ := by
        rcases Hva.out with h | h
        · omega
        · exact h
      have hcell := ints_at (own_keepK Hown.out hfk (by decide)) k g.id hgid
      have Hfk := Lib.hid hfk
      have Ht1 := Lib.hid t1
      have Ht2 := Lib.hid t2
      have Ht3 := Lib.hid t3
      clear t1 t2 t3 t4 t5 hfk hgid
      have hkI : (k : Int) < s.sagas.length := by omega
      have hl30 := inv_len Hi.out
      go_upto_block 1 with fail
      by_cases hw : g.waits t.clock = false
      · refine tick_idleV cv q bl t k g b ib s.sagas.length vc wr hsk hg hb hbo ⟨hok.1, hok.2.1⟩ hcell hkn hw ?_
        intros
        have e : t.stepA a k = t := by simp only [StM.stepA, hg, hw, if_true]
        clear hcell hb hbo hok hg hw
        go_wp2_with fail
        go_roundw
        case rel => exact ⟨k + 1, hkn, by go_num, by rw [Hstep.out, e]; exact hsk, Hfk.out, Hok45.out⟩
        case measure => simp [intOf]; omega
      · have hw : g.waits t.clock = true := by simpa using hw
        obtain ⟨hroom, hst⟩ := inv_room Ht1.out hg hw
        have hsm := Ht2.out.1.small
        by_cases hm : g.moves (a.rep t.p g.call) = false
        · refine tick_vainV cv a q bl t k g b ib s.sagas.length vc wr hsk HA.out Ht1.out hg hb hbo ⟨hok.1, hok.2.1⟩ hcell hkn hw hok hst hsm hm ?_
          intros
          rename_i w' hs' hf' ho'
          clear hcell hb hbo hok hg hw hroom hst hsm hm hsk
          have Hs' := Lib.hid hs'
          have Hf' := Lib.hid hf'
          have Ho' := Lib.hid ho'
          clear hs' hf' ho'
          go_wp2_with fail
          go_roundw
          case rel => exact ⟨k + 1, hkn, by go_num, by rw [Hstep.out]; exact Hs'.out, Hfk.out.trans Hf'.out, Hok45.out.trans Ho'.out⟩
          case measure => simp [intOf]; omega
        · have hm : g.moves (a.rep t.p g.call) = true := by simpa using hm
          refine tick_movedV cv a q bl t k g b ib s.sagas.length vc wr hsk HA.out Ht1.out hg hb hbo ⟨hok.1, hok.2.1⟩ hcell hkn hw hok hst hsm hroom hm ?_
          intros
          rename_i w' hs' hf' ho'
          clear hcell hb hbo hok hg hw hroom hst hsm hm hsk
          have Hs' := Lib.hid hs'
          have Hf' := Lib.hid hf'
          have Ho' := Lib.hid ho'
          clear hs' hf' ho'
          go_wp2_with fail
          go_roundw
          case rel => exact ⟨k + 1, hkn, by go_num, by rw [Hstep.out]; exact Hs'.out, Hfk.out.trans Hf'.out, Hok45.out.trans Ho'.out⟩
          case measure => simp [intOf]; omega
    · obtain rfl : k = s.sagas.length := by omega
      have Hsk := Lib.hid hsk
      have Hfk := Lib.hid hfk
      have hnk : ¬ ((s.sagas.length : Int) < s.sagas.length) := by omega
      clear hsk hfk
      go_wp2_with fail
      go_ret
      exact ⟨rfl, Hsk.out, HF3.out.trans Hfk.out, HO3.out.trans Hok45.out⟩
end Go.Proofs.YtkafmfdipmhleaaGreatDoor

namespace Go.Proofs.YtkafmfdipmhleaaGreatDoor
open Go.RowKit
def tailG (l : List (ByteArray × ByteArray)) : List UInt8 := leN 1 l.length ++ (stepsB l ++ List.replicate (113 - (stepsB l).length) 0)
theorem tailG_len (l : List (ByteArray × ByteArray)) (h : (stepsB l).length ≤ 108) : (tailG l).length = 114 := by
  simp [tailG, leN_length]; omega
theorem small_le {l : List (ByteArray × ByteArray)} (h : smallSteps l) : (stepsB l).length ≤ 108 := by
  have := stepsB_le l h.2.2
  have := h.2.1
  omega
theorem bod_eqG (r : RecM) (hk : r.kind = 2) (hs : smallSteps r.steps) : padB (recBytes r) = leN 4 (sumB r) ++ headB r ++ tailG r.steps ∧ (baseB r).drop 4 = headB r ++ tailG r.steps := by
  have hT := small_le hs
  have hH : (headB r).length = 10 := head_len r
  have hz : zeros.length = 128 := zeros_length
  have hb : (baseB r).drop 4 = headB r ++ tailG r.steps := by
    unfold baseB bodyB tailG
    rw [if_pos hk]
    generalize stepsB r.steps = T at hT
    generalize headB r = H at hH
    have hN : (leN 1 r.steps.length).length = 1 := leN_length _ _
    generalize leN 1 r.steps.length = N at hN
    unfold wrAt
    have e0 : zeros.take 4 = [0, 0, 0, 0] := rfl
    rw [e0]
    show (H ++ (N ++ T)) ++ zeros.drop (4 + (H ++ (N ++ T)).length) = _
    unfold zeros
    rw [List.drop_replicate, List.append_assoc, List.append_assoc]
    congr 4
    simp only [List.length_append]
    omega
  refine ⟨?_, hb⟩
  have hr : recB r = leN 4 (sumB r) ++ headB r ++ tailG r.steps := by
    unfold recB wrAt
    rw [leN_length]
    show [] ++ leN 4 (sumB r) ++ (baseB r).drop 4 = _
    rw [hb, List.nil_append, List.append_assoc]
  have hrl : (recB r).length = 128 := by rw [hr]; simp [leN_length, hH, tailG_len _ hT]
  unfold recBytes padB
  rw [show endOf r = 128 by unfold endOf; rw [if_pos hk], List.take_of_length_le (by omega), hrl, hr]
  simp
theorem take_text (s : ByteArray) (h : s.size ≤ 8) (R : List UInt8) (hR : R ≠ []) : takeOne (textB s ++ R) = some (s, R) := by
  have e : textB s ++ R = UInt8.ofNat s.size :: (s.data.toList ++ R) := by
    unfold textB
    rw [leN1]
    simp [leB]
  have hn : (UInt8.ofNat s.size).toNat = s.size := by simp; omega
  have hl : s.data.toList.length = s.size := rfl
  have hR' : 0 < R.length := List.length_pos_iff.2 hR
  rw [e]
  unfold takeOne
  simp only [hn]
  rw [if_pos (by rw [List.length_append, hl]; omega)]
  rw [List.take_append_of_le_length (by omega), List.take_of_length_le (by omega), List.drop_append_of_le_length (by omega), List.drop_of_length_le (by omega)]
  rfl
theorem take_steps (l : List (ByteArray × ByteArray)) (h : ∀ s ∈ l, s.1.size ≤ 8 ∧ s.2.size ≤ 8) (R : List UInt8) (hR : R ≠ []) : takeSteps l.length (stepsB l ++ R) = some l := by
  induction l with
  | nil => rfl
  | cons a l ih =>
    have h1 := h a (by simp)
    have e : stepsB (a :: l) ++ R = textB a.1 ++ (textB a.2 ++ (stepsB l ++ R)) := by simp [stepsB]
    have hne : stepsB l ++ R ≠ [] := by simp [hR]
    rw [e]
    show takeSteps (l.length + 1) _ = _
    unfold takeSteps
    rw [take_text a.1 h1.1 _ (by simp [textB, leN1]), ]
    simp only
    rw [take_text a.2 h1.2 _ hne]
    simp only
    rw [ih (fun s hs => h s (by simp [hs]))]
    rfl
/-- A body is read as it was written. -/
theorem parse_body (r : RecM) (h : r.ok) (hk : r.kind = 2) : parseM (padB (recBytes r)) = some (r, true) := by
  have hs := h.small hk
  have hlt : (stepsB r.steps).length ≤ 108 := small_le hs
  obtain ⟨hb, hd⟩ := bod_eqG r hk hs
  have ht : takeSteps ((tailG r.steps)[0]?.getD 0).toNat ((tailG r.steps).drop 1) = some r.steps := by
    have e : tailG r.steps = UInt8.ofNat r.steps.length :: (stepsB r.steps ++ List.replicate (113 - (stepsB r.steps).length) 0) := by
      unfold tailG
      rw [leN1]
      simp [leB]
    rw [e]
    have hn : (UInt8.ofNat r.steps.length).toNat = r.steps.length := by have := hs.2.1; simp; omega
    show takeSteps (UInt8.ofNat r.steps.length).toNat (stepsB r.steps ++ _) = _
    rw [hn]
    exact take_steps _ hs.2.2 _ (by simp; omega)
  have hc := crcM_u32 ((headB r ++ tailG r.steps).take 124)
  have hsv : (sumB r : Int) = crcM ((headB r ++ tailG r.steps).take 124) := by
    unfold sumB
    rw [hd, show endOf r - 4 = 124 by unfold endOf; rw [if_pos hk]]
    omega
  rw [hb, leN4, head_short]
  obtain ⟨kd, ep, ix, sg, rp, st⟩ := r
  obtain rfl : kd = 2 := hk
  generalize sumB ⟨2, ep, ix, sg, rp, st⟩ = s at hsv hc
  have hk : kindB ([leB s 0, leB s 1, leB s 2, leB s 3] ++ [leB 2 0, leB ep 0, leB ep 1, leB ep 2, leB ep 3, leB ix 0, leB ix 1, leB sg 0, leB sg 1, leB rp 0] ++ tailG st) = 2 := rfl
  show parseM ([leB s 0, leB s 1, leB s 2, leB s 3] ++ [leB 2 0, leB ep 0, leB ep 1, leB ep 2, leB ep 3, leB ix 0, leB ix 1, leB sg 0, leB sg 1, leB rp 0] ++ tailG st) = _
  have hsum : sumOk ([leB s 0, leB s 1, leB s 2, leB s 3] ++ [leB 2 0, leB ep 0, leB ep 1, leB ep 2, leB ep 3, leB ix 0, leB ix 1, leB sg 0, leB sg 1, leB rp 0] ++ tailG st) := by
    unfold sumOk
    rw [hk, if_pos rfl]
    show (leVal [leB s 0, leB s 1, leB s 2, leB s 3] : Int) = crcM ((headB ⟨2, ep, ix, sg, rp, st⟩ ++ tailG st).take 124)
    rw [leVal4 s (by omega), hsv]
  have e3 : epochB ([leB s 0, leB s 1, leB s 2, leB s 3] ++ [leB 2 0, leB ep 0, leB ep 1, leB ep 2, leB ep 3, leB ix 0, leB ix 1, leB sg 0, leB sg 1, leB rp 0] ++ tailG st) = ep := leVal4 ep h.epoch
  have e4 : indexB ([leB s 0, leB s 1, leB s 2, leB s 3] ++ [leB 2 0, leB ep 0, leB ep 1, leB ep 2, leB ep 3, leB ix 0, leB ix 1, leB sg 0, leB sg 1, leB rp 0] ++ tailG st) = ix := leVal2 ix h.index
  have e5 : sagaB ([leB s 0, leB s 1, leB s 2, leB s 3] ++ [leB 2 0, leB ep 0, leB ep 1, leB ep 2, leB ep 3, leB ix 0, leB ix 1, leB sg 0, leB sg 1, leB rp 0] ++ tailG st) = sg := leVal2 sg h.saga
  have e6 : replyB ([leB s 0, leB s 1, leB s 2, leB s 3] ++ [leB 2 0, leB ep 0, leB ep 1, leB ep 2, leB ep 3, leB ix 0, leB ix 1, leB sg 0, leB sg 1, leB rp 0] ++ tailG st) = rp := leVal1 rp h.reply
  unfold parseM
  rw [if_pos hsum, if_pos hk]
  show (takeSteps ((tailG st)[0]?.getD 0).toNat ((tailG st).drop 1)).map _ = _
  rw [ht]
  simp only [Option.map_some, recOf, hk, e3, e4, e5, e6]
/-- Any record is read as it was written. -/
theorem parse_rec (r : RecM) (h : r.ok) (hk : 1 ≤ r.kind ∧ r.kind ≤ 4) : parseM (padB (recBytes r)) = some (r, true) := by
  by_cases h2 : r.kind = 2
  · exact parse_body r h h2
  · rw [pad_short r h2]; exact parse_short r _ h h2 hk
end Go.Proofs.YtkafmfdipmhleaaGreatDoor
