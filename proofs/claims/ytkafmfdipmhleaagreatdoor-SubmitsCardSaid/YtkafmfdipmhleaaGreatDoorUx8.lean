/-
  What is proved: the contract of a Submit that is taken, of which blocks turn; and of one for which there is no room. one saga's turn in a Tick, whoever is asked: which blocks turn. a Tick, whoever is asked: which blocks turn. a body's record is read as it was written, whatever its texts. a journal of any epoch on a disk's blocks, elder records behind it: Format, a saga more, a move more. (No program in sight.) a turn, a Tick and a Submit keep an engine's state and its journal's records together. (No program in sight.) the reference's list of sagas in memory: it is read; Find, Has, Same, Whole.
-/
import Derived.Test.YtkafmfdipmhleaaGreatDoorUx7
import Derived.BigQuiet

namespace Go.Proofs.YtkafmfdipmhleaaGreatDoor
open Go.RowKit Go.Maps
/-- The blocks of an engine. -/
def EngB (q : Pl) (k : Nat) : Prop := k = q.xb ∨ k = q.jb ∨ k = q.mb ∨ k = q.db ∨ k = q.bb
/-- An engine, whatever it asks; its journal, disk and partner. -/
structure StV (cv : Value) (w : World) (q : Pl) (bl : List Nat) (s : StM) : Prop where
  eng : w.heap[q.xb]? = some (.cells (egCells q.jb q.mb s.pause cv s.clock false) 79 (0, 0))
  jn : JnAt w q.jb q.db s.j
  dk : DiskAt w q.db q.bb s.d
  pt : PAt w q.pb s.p
  mp : w.ownsMap Tryz.prog 3 ptrR q.mb s.sagas.length (dataOf (ilOf s.sagas bl))
  len : bl.length = s.sagas.length
  sg : ∀ (i : Nat) (g : SagaM) (b : Nat), s.sagas[i]? = some g → bl[i]? = some b → SagaAt w b g
  nd : bl.Nodup
theorem StV.keepK {cv : Value} {w w' : World} {K : List Nat} {q : Pl} {bl : List Nat} {s : StM} (h : StV cv w q bl s) (hf : FrK K w w') (hK : ∀ k ∈ [80, 133, 103, 104, 108, 45, 47, 49, 4, 0, 89, 55], k ∉ K) : StV cv w' q bl s :=
  ⟨hf.block _ _ h.eng (hK 80 (by simp)), h.jn.keepK hf (hK _ (by simp)), h.dk.keepK hf (hK _ (by simp)) (hK _ (by simp)) (hK _ (by simp)), h.pt.keepK hf (hK _ (by simp)) (hK _ (by simp)) (hK _ (by simp)) (hK _ (by simp)),
   map_keepK h.mp hf (hK _ (by simp)), h.len, sgs_keepK h.sg hf (hK _ (by simp)) (hK _ (by simp)), h.nd⟩
theorem StV.new {cv : Value} {w w' : World} {q : Pl} {bl : List Nat} {s : StM} (h : StV cv w q bl s) (hf : New w w') : StV cv w' q bl s := h.keepK (hf.toK (K := []) (fun _ _ f _ => f.elim)) (by simp)
/-- A saga whose steps lie from B on. -/
def StepsNew (B : Nat) (w : World) (b : Nat) : Prop := ∃ cs a n c, w.heap[b]? = some (.cells cs 88 (0, 0)) ∧ cs[6]? = some (.slice (some a) n c) ∧ B ≤ a.block
theorem StepsNew.keepK {B b : Nat} {w w' : World} {K : List Nat} (h : StepsNew B w b) (hf : FrK K w w') (h1 : 89 ∉ K) : StepsNew B w' b := by
  obtain ⟨cs, a, n, c, h2, h3⟩ := h
  exact ⟨cs, a, n, c, hf.block b _ h2 h1, h3⟩
theorem StepsNew.less {A B b : Nat} {w : World} (h : StepsNew B w b) (hA : A ≤ B) : StepsNew A w b := by
  obtain ⟨cs, a, n, c, h2, h3, h4⟩ := h
  exact ⟨cs, a, n, c, h2, h3, Nat.le_trans hA h4⟩
set_option maxRecDepth 100000 in
set_option maxHeartbeats 2000000 in
theorem Clone_new {w : World} (l : List (ByteArray × ByteArray)) (v : Value) (hv : StepsAt w v l) (hl : 1 ≤ l.length ∧ l.length ≤ 1000) :
    Calls Tryz.prog 64 #[v] w fun e w' => ∃ v', e = .returned v' ∧ StepsVal w' w.heap.size v' l ∧ New w w' := by
  obtain ⟨b, off, cap, c, rfl, h2, h3⟩ := hv
  obtain ⟨i0, hi, hz0, hz1, hz2⟩ := info_parts Tryz.info54
  have q34 : ∀ (w : World) (a : Option Addr) (n c n' c' : Nat), (binOp .eql 34 (.slice a n c) (.slice none n' c')).run Tryz.prog w = .ok (.bool a.isNone) w := fun w a n c n' c' => Lib.run_eql_slice_nil w _ _ a n c n' c' Tryz.underlying34
  have A := Lib.hid h3
  have H2 := Lib.hid h2
  clear h2 h3
  go_enter Tryz.func64, Tryz.ntmps64
  go_wp2_with (at_builtin; refine wpList_append_own _ rfl _ _ 34 rfl w.heap.size 54 i0 (.agg #[.string ⟨#[]⟩, .string ⟨#[]⟩]) 2 32 Tryz.underlying34 hi hz0 hz1 hz2 rfl (by decide) _ _ _ rfl (World.ownsRow_made w #[] 0 (Nat.le_refl _) (Nat.zero_le _) (by simp)) ⟨b, off, none⟩ l.length cap (stepCells l) rfl ?qc1 ?qc2 ?qc3 ?qc4 ?qc5 ?qc6 ?_)
  case qc1 => exact stepCells_length l
  case qc2 =>
    intro j u hj
    rw [Addr.add_lit]
    have hjl : j < 2 * l.length := by
      have := (List.getElem?_eq_some_iff.1 hj).1
      rw [stepCells_length] at this
      omega
    refine Lib.cell?_alloc_some _ ?_
    rw [cellv, H2.out, cellOf_cells, A.out j hjl]
    exact hj
  case qc3 => exact stepCells_one l
  case qc4 => rw [Nat.zero_add]; unfold maxLen; omega
  case qc5 => rw [Nat.zero_add]; omega
  case qc6 => simp
  intro v' w1 hown hgrow hnil
  go_wp2
  go_ret
  refine ⟨v', rfl, hown, ?_⟩
  exact ((Fr.refl _ w).alloc _).trans' (Fr.ofGrown hgrow) (by
    intro i hi he
    simp only [Value.ownBlock, Option.some.injEq] at he
    omega)
set_option maxRecDepth 100000 in
set_option maxHeartbeats 2000000 in
theorem New_new {w : World} (id : Int) (l : List (ByteArray × ByteArray)) (v : Value) (hv : StepsAt w v l) (hl : 1 ≤ l.length ∧ l.length ≤ 1000) :
    Calls Tryz.prog 43 #[.int .i64 id, v] w fun e w' => ∃ sb, w.heap.size ≤ sb ∧ e = .returned (.pointer (some ⟨sb, 0, none⟩)) ∧ SagaAt w' sb (SagaM.new id l) ∧ StepsNew w.heap.size w' sb ∧ New w w' := by
  have hc := Clone_new l v hv hl
  have hvs : ∃ a n c, v = .slice a n c ∧ n = l.length := by
    obtain ⟨b, off, cap, _, e, _⟩ := hv
    exact ⟨_, _, _, e, rfl⟩
  obtain ⟨a, n, cp, rfl, hn⟩ := hvs
  have Hn := Lib.hid hn
  have Hc := Lib.hid hc
  have Hl1 := Lib.hid hl.1
  clear hv hl hn hc
  go_enter Tryz.func43, Tryz.ntmps43
  go_wp2_with (first
    | (go_at_call 64; refine Calls.mono Hc.out ?_; rintro e w1 ⟨v', rfl, hs0, hf1⟩; have hs1 := StepsVal.at hs0 Hl1.out; obtain ⟨va, vn, vc, rfl⟩ := hs1.shape)
    | fail)
  go_ret
  refine ⟨w1.heap.size, hf1.size, rfl, ⟨.slice va vn vc, ?_, hs1.frame (S := fun _ => False) ((Fr.refl _ _).alloc _) (fun _ f => f.elim)⟩, ?_, hf1.alloc _⟩
  · rw [← Hn.out.symm]
    exact heap_alloc_new w1 _
  · rcases hs0.2 with ⟨_, h0⟩ | ⟨g, cap, cur, hv', hg', _⟩
    · have := Hl1.out; omega
    · simp only [Value.slice.injEq] at hv'
      obtain ⟨rfl, _, _⟩ := hv'
      exact ⟨_, _, _, _, heap_alloc_new w1 _, rfl, hg'⟩
set_option maxRecDepth 100000 in
set_option maxHeartbeats 4000000 in
theorem Submit_loc {cv : Value} {w : World} {q : Pl} {bl : List Nat} {s : StM} {id : Int} {l : List (ByteArray × ByteArray)} {v : Value} (hs : StV cv w q bl s) (hi : s.inv) (hv : StepsAt w v l) (hw : wholeB id l = true) (hn : ∀ x ∈ s.sagas, x.id ≠ id)
    (hroom : (s.j.en : Int) + (2 + (2 * l.length - 1) + leftSum s.sagas) ≤ s.d.blocks.length) :
    Calls Tryz.prog 18 #[.pointer (some ⟨q.xb, 0, none⟩), .int .i64 id, v] w fun e w' => e = .returned .nilIface ∧ (∃ bl', StV cv w' q bl' (s.submit id l) ∧ (∀ b ∈ bl', b ∈ bl ∨ w.heap.size ≤ b) ∧ ∀ b ∈ bl', w.heap.size ≤ b → StepsNew w.heap.size w' b) ∧ Fr (EngB q) w w' := by
  have hws := whole_small hw
  have hlk := look_none hs.mp id (by omega) (il_none s.sagas bl id hn)
  have hx := hs.eng
  obtain ⟨sa, sn, sc, rfl⟩ := hv.shape
  have HW := Lib.hid (Whole_calls w id l _ (.inr hv) (by have := hws.2.2.2.1; omega))
  rw [hw] at HW
  have Hs := Lib.hid hs
  have Hi := Lib.hid hi
  have Hv := Lib.hid hv
  have Hw := Lib.hid hw
  have Hn := Lib.hid hn
  have Hroom := Lib.hid hroom
  have Hws := Lib.hid hws
  have Hlk := Lib.hid hlk
  have Hx := Lib.hid hx
  simp only [egCells] at hx
  clear hs hi hv hw hn hroom hws hlk
  have hcv := cellv w
  go_enter Tryz.func18, Tryz.ntmps18
  go_upto_region 5 with (first
    | (go_at_call 41; refine Calls.mono HW.out ?_; rintro e w2 ⟨rfl, hf2⟩)
    | fail)
  have hs2 := Hs.out.keepK (hf2.toK (K := []) (fun _ _ f _ => f.elim)) (by simp)
  have hlk := look_none hs2.mp id (by have := Hws.out; omega) (il_none s.sagas bl id Hn.out)
  have hv2 : StepsAt w2 _ l := Hv.out.frame hf2 (fun _ f => f.elim)
  have HN := Lib.hid (New_new id l _ hv2 (by have := Hws.out.2.2.1; have := Hws.out.2.2.2.1; omega))
  have hx2 := hf2.get Hx.out (fun f => f)
  have Hx2 := Lib.hid hx2
  have Hf2 := Lib.hid hf2
  have Hs2 := Lib.hid hs2
  simp only [egCells] at hx2
  clear hcv hx hs2 hv2 hf2
  have hcv := cellv w2
  go_upto_region 11 with (first
    | (go_at_call 43; refine Calls.mono HN.out ?_; rintro e w3 ⟨sb, hsb, rfl, hs3, hn3, hf3⟩)
    | fail)
  have HL := Lib.hid (Left_calls hs3 (by simp only [SagaM.new]; have := Hws.out.2.2.2.1; omega))
  rw [new_left] at HL
  have Hs3 := Lib.hid hs3
  have Hsb := Lib.hid hsb
  have Hn3 : Hid (StepsNew w.heap.size w3 sb) := hn3.less Hf2.out.size
  have Hf3 := Lib.hid (Hf2.out.trans hf3)
  have hx3 := hf3.get Hx2.out (fun f => f)
  have Hst3 := Lib.hid (Hs2.out.keepK (hf3.toK (K := []) (fun _ _ f _ => f.elim)) (by simp))
  clear hcv hx2 hs3 hsb hf3 hlk hn3
  have h2n : wrap64 (2 + (2 * (l.length : Int) - 1)) = 2 + (2 * (l.length : Int) - 1) := wrap_in _ (by have := Hws.out.2.2.2.1; omega)
  go_upto_region 12 with (first
    | (go_at_call 44; refine Calls.mono HL.out ?_; rintro e w4 ⟨rfl, n4, rfl⟩)
    | fail)
  have hst4 : StV cv (w3.drewN n4) q bl s := Hst3.out.keepK (((Fr.refl (fun _ => False) w3).drewN n4).toK (K := []) (fun _ _ f _ => f.elim)) (by simp)
  have Hs4 := Lib.hid (Hs3.out.new ((Fr.refl _ w3).drewN n4))
  have Hn4 := Lib.hid (Hn3.out.keepK (K := []) (((Fr.refl (fun _ => False) w3).drewN n4).toK (fun _ _ f _ => f.elim)) (by simp))
  have Hf4 := Lib.hid (Hf3.out.drewN n4)
  have Hx4 := Lib.hid (hst4.eng)
  have Hst4 := Lib.hid hst4
  have Hsb4 : Hid (w.heap.size ≤ sb) := by have := Hsb.out; have := Hf2.out.size; show _ ≤ _; omega
  have H2n := Lib.hid h2n
  clear hx3 hst4 h2n
  generalize w3.drewN n4 = w4 at Hs4 Hn4 Hf4 Hx4 Hst4 ⊢
  have hx4 := Hx4.out
  simp only [egCells] at hx4
  have hcv := cellv w4
  go_upto_region 13 with (first
    | (at_range; refine wpList_range_own _ rfl _ 76 rfl 3 82 Tryz.keyed Tryz.underlying76 ptrR q.mb s.sagas.length _ rfl Hst4.out.mp ?_; intro w5 hrg0 hg0 hs0; go_frame)
    | fail)
  have hr0 : restSum s.sagas (Maps.has (dataOf (ilOf s.sagas bl))) = leftSum s.sagas := rest_all _ _ (fun g hg => has_of_mem Hs.out.len hg)
  have hF0 : New w4 w5 := (Fr.ofGrown hg0).mono (fun _ _ e => by cases e)
  have HF0 := Lib.hid hF0
  have Hrg0 := Lib.hid hrg0
  have Hr0 := Lib.hid hr0
  clear hcv hx4 hr0 hF0 hrg0 hg0 hs0
  go_wp2_with fail
  go_loopw [9] (fun v wr => SumAt w4 wr q.mb w4.heap.size s.sagas bl (2 + (2 * (l.length : Int) - 1) + leftSum s.sagas) v) (fun _ wr => wr.rangeLeft q.mb w4.heap.size)
  case atStart => exact ⟨_, _, Hrg0.out, by rw [Hr0.out, H2n.out]; congr 1; omega, HF0.out⟩
  case round =>
    obtain ⟨left, cnt, hrg, rfl, hfr⟩ := hrel
    have Hrg := Lib.hid hrg
    have Hfr := Lib.hid hfr
    clear hrg hfr
    go_upto_region 14 with (first
      | (at_next; refine wpList_next_ranges _ rfl _ rfl 3 Tryz.keyed ptrR (Value.int .i64) ptrV key_shape ptrR_shape q.mb w4.heap.size _ _ _ _ rfl Hrg.out ?_ ?_)
      | fail)
    · intro _ hl0
      have hr0 := rest_none s.sagas left hl0
      rw [hr0, Int.sub_zero]
      have Hl0 := Lib.hid hl0
      clear hl0 hr0
      have hst6 : StV cv wr q bl s := Hst4.out.keepK (Hfr.out.toK (K := []) (fun _ _ f _ => f.elim)) (by simp)
      have Hs6 := Lib.hid (Hs4.out.new Hfr.out)
      have Hn6 := Lib.hid (Hn4.out.keepK (K := []) (Hfr.out.toK (fun _ _ f _ => f.elim)) (by simp))
      have hx6 := hst6.eng
      have HR := Lib.hid (Room_calls hst6.jn hst6.dk)
      have Hst6 := Lib.hid hst6
      simp only [egCells] at hx6
      clear hst6
      have hcv := cellv wr
      have hsz := (Hi.out).size
      have hrm : wrap64 ((s.d.blocks.length : Int) - s.j.en) = (s.d.blocks.length : Int) - s.j.en := wrap_in _ (by
        have := Hroom.out; have := rest_nonneg s.sagas (fun _ => true) (Hi.out).ok; rw [rest_all s.sagas (fun _ => true) (fun _ _ => rfl)] at this
        have := Hws.out.2.2.1; omega)
      have hgt : ¬ ((s.d.blocks.length : Int) - s.j.en < 2 + (2 * (l.length : Int) - 1) + leftSum s.sagas) := by have := Hroom.out; omega
      rw [hrm] at HR
      clear hrm hsz
      go_upto_region 18 with (first
        | (go_at_call 45; refine Calls.mono HR.out ?_; rintro e w7 ⟨rfl, rfl⟩)
        | fail)
      obtain ⟨sv, hsg, hst⟩ := Hs6.out
      obtain ⟨va, vn, vc, rfl⟩ := hst.shape
      have Hsg := Lib.hid hsg
      have Hst := Lib.hid hst
      have Hx6 := Lib.hid hx6
      simp only [sgCells, SagaM.new] at hsg
      clear hcv hx6 hgt hst
      have hcv := cellv wr.drew
      have hsg' : wr.drew.heap[sb]? = _ := hsg
      clear hsg
      have hN9 : New wr (wr.alloc (.cells #[.int .u8 2, .int .u32 0, .int .i64 0, .int .i64 id, .int .i64 0, .slice va vn vc, .int .u8 3, .int .u32 0, .int .i64 0, .int .i64 id, .int .i64 0, .slice none 0 0] 91)).drew := ((Fr.refl _ wr).alloc _).drew
      have hlb : (wr.alloc (.cells #[.int .u8 2, .int .u32 0, .int .i64 0, .int .i64 id, .int .i64 0, .slice va vn vc, .int .u8 3, .int .u32 0, .int .i64 0, .int .i64 id, .int .i64 0, .slice none 0 0] 91)).drew.heap[wr.heap.size]? = some (.cells #[.int .u8 2, .int .u32 0, .int .i64 0, .int .i64 id, .int .i64 0, .slice va vn vc, .int .u8 3, .int .u32 0, .int .i64 0, .int .i64 id, .int .i64 0, .slice none 0 0] 91 (0, 0)) := heap_alloc_new wr _
      have hrec := sub_recs (sv := .slice va vn vc) Hws.out ⟨_, _, _, rfl⟩ hlb (StepsAt.frame Hst.out hN9 (fun _ f => f.elim))
      have HN9 := Lib.hid hN9
      have HWr := Lib.hid (write_calls (n := 2) (cap := 2) (hN9.get Hx6.out (fun f => f)) (hN9.get Hst6.out.jn (fun f => f)) (Hst6.out.dk.new hN9) (Hi.out).quiet (Hi.out).pend hrec rfl (Hi.out).epoch (by
        show s.j.en + 2 ≤ s.d.blocks.length
        have := Hroom.out; have := rest_nonneg s.sagas (fun _ => true) (Hi.out).ok; rw [rest_all s.sagas (fun _ => true) (fun _ _ => rfl)] at this
        have := Hws.out.2.2.1; omega) (Hi.out).size)
      clear hN9 hlb hrec
      go_upto_region 19 with (first
        | (go_at_call 46; refine Calls.mono HWr.out ?_; rintro e w9 ⟨rfl, hf9, hd9, hj9, hx9⟩)
        | fail)
      have hfk9 : FrK [103, 104, 133, 80] wr w9 := (HN9.out.toK (fun _ _ f _ => f.elim)).trans (hf9.toK (by
        obtain ⟨_, _, _, _, e1, e2, _⟩ := Hst6.out.dk
        have e3 := Hst6.out.jn
        have e4 := Hx6.out
        have n1 := HN9.out.get e1 (fun f => f)
        have n2 := HN9.out.get e2 (fun f => f)
        have n3 := HN9.out.get e3 (fun f => f)
        have n4 := HN9.out.get e4 (fun f => f)
        rintro x o (rfl | rfl | rfl | rfl) ho
        · rw [n1] at ho; cases ho; simp [kindOf]
        · rw [n2] at ho; cases ho; simp [kindOf]
        · rw [n3] at ho; cases ho; simp [kindOf]
        · rw [n4] at ho; cases ho; simp [kindOf]))
      have Hfk9 := Lib.hid hfk9
      have HL9 : Hid (Fr (EngB q) wr w9) := (HN9.out.mono (fun _ _ f => f.elim)).trans (hf9.mono (by
        rintro _ k (rfl | rfl | rfl | rfl)
        · exact .inr (.inr (.inr (.inl rfl)))
        · exact .inr (.inr (.inr (.inr rfl)))
        · exact .inr (.inl rfl)
        · exact .inl rfl))
      have Hm9 := Lib.hid (map_keepK Hst6.out.mp hfk9 (by decide))
      have Hd9 := Lib.hid hd9
      have Hj9 := Lib.hid hj9
      have Hx9 := Lib.hid hx9
      simp only [egCells] at hx9
      clear hcv hsg' hfk9 hf9 hd9 hj9
      have hcv := cellv w9
      have hkI := keyI id (by have := Hws.out; omega)
      have Hkn : Hid (s.sagas.length < maxLen) := by have := inv_len Hi.out; show _ < maxLen; unfold maxLen; omega
      go_upto_region 22 with (first
        | (at_mapUpdate; refine wpList_mapUpdate_own _ rfl _ _ _ 76 rfl 3 82 Tryz.keyed Tryz.underlying76 ptrR q.mb s.sagas.length _ rfl Hm9.out Hkn.out (.int .i64 id) (.pointer (some ⟨sb, 0, none⟩)) _ rfl rfl hkI (.lit (.int .i64 sb)) [] rfl ?_; intro w10 hown10 hg10; go_frame)
        | fail)
      have hmk : ∃ es clock, w9.heap[q.mb]? = some (.map es clock) := by
        obtain ⟨es, clock, hb, _⟩ := Hm9.out
        exact ⟨es, clock, hb⟩
      have hk10 : FrK [0] w9 w10 := (Fr.ofGrown hg10).toK (by
        obtain ⟨es, clock, hb⟩ := hmk
        rintro x o hx ho
        cases hx
        rw [hb] at ho; cases ho; simp [kindOf])
      have Hk10 := Lib.hid hk10
      have HL10 : Hid (Fr (EngB q) w9 w10) := (Fr.ofGrown hg10).mono (by
        intro _ k hk
        cases hk
        exact .inr (.inr (.inl rfl)))
      have Hown10 := Lib.hid hown10
      clear hcv hx9 hkI hown10 hg10 hk10 hmk
      go_wp2_with fail
      go_ret
      have hd := dataOf_put (ilOf s.sagas bl) id sb (il_none s.sagas bl id Hn.out)
      have hsb9 : SagaAt w9 sb (SagaM.new id l) := Hs6.out.keepK Hfk9.out (by decide) (by decide)
      refine ⟨rfl, ⟨insBl id sb s.sagas bl, ⟨?_, ?_, ?_, ?_, ?_, ?_, ?_, ?_⟩, fun b hb => (insBl_mem hb).elim (fun e => .inr (by rw [e]; exact Hsb4.out)) .inl, fun b hb hge => ?_⟩, ?_⟩
      · exact Hk10.out.block _ _ Hx9.out (by simp [kindOf])
      · exact Hj9.out.keepK Hk10.out (by decide)
      · exact Hd9.out.keepK Hk10.out (by decide) (by decide) (by decide)
      · exact (Hst6.out.pt.keepK Hfk9.out (by decide) (by decide) (by decide) (by decide)).keepK Hk10.out (by decide) (by decide) (by decide) (by decide)
      · have h0 := Hown10.out
        rw [hd] at h0
        have h1 := insIL_of (SagaM.new id l) sb s.sagas bl Hs.out.len
        show w10.ownsMap Tryz.prog 3 ptrR q.mb (insSaga (SagaM.new id l) s.sagas).length (dataOf (ilOf (insSaga (SagaM.new id l) s.sagas) (insBl id sb s.sagas bl)))
        rw [insSaga_len]
        rw [show insBl id sb s.sagas bl = insBl (SagaM.new id l).id sb s.sagas bl from rfl, h1]
        exact h0
      · show _ = (insSaga _ _).length
        rw [insSaga_len]
        exact insBl_len id sb s.sagas bl Hs.out.len
      · intro i g b hg hb
        rcases insSaga_at (g := SagaM.new id l) Hs.out.len i hg hb with ⟨rfl, rfl⟩ | ⟨j, h1, h2⟩
        · exact hsb9.keepK Hk10.out (by decide) (by decide)
        · exact ((Hst6.out.sg j g b h1 h2).keepK Hfk9.out (by decide) (by decide)).keepK Hk10.out (by decide) (by decide)
      · refine insBl_nd Hs.out.nd (fun hm => ?_)
        obtain ⟨i, hi⟩ := List.getElem?_of_mem hm
        have hil := (List.getElem?_eq_some_iff.1 hi).1
        rw [Hs.out.len] at hil
        obtain ⟨_, e, _⟩ := Hs.out.sg i _ sb (List.getElem?_eq_getElem hil) hi
        have := lt_of_hp e
        have := Hsb4.out
        omega
      · rcases insBl_mem hb with e | e
        · rw [e]
          exact (Hn6.out.keepK Hfk9.out (by decide)).keepK Hk10.out (by decide)
        · obtain ⟨i, hi⟩ := List.getElem?_of_mem e
          have hil := (List.getElem?_eq_some_iff.1 hi).1
          rw [Hs.out.len] at hil
          obtain ⟨_, e1, _⟩ := Hs.out.sg i _ b (List.getElem?_eq_getElem hil) hi
          have := lt_of_hp e1
          omega
      · exact (((Hf4.out.mono (fun _ _ f => f.elim)).trans (Hfr.out.mono (fun _ _ f => f.elim))).trans HL9.out).trans HL10.out
    · intro x c kl y ps w6 cnt6 hkl hleft hy hat hrg6 hlt hg6 hs6 hen
      have hid : kl = .int .i64 x := by
        obtain ⟨x', e1, e2, _⟩ := Maps.keyOf_int_inv Tryz.underlying3 hkl
        cases e1; exact e2
      subst hid
      obtain ⟨i, g, b, hgi, hbi, rfl, rfl⟩ := entry_of Hs.out.len hy hat
      have hrest := rest_step s.sagas left (Hi.out).ord g (List.mem_of_getElem? hgi) hleft
      have hf6 : New w4 w6 := Hfr.out.trans' (Fr.ofGrown hg6) (fun i hi e => by cases e; omega)
      have hg6 := (Hst4.out.keepK (hf6.toK (K := []) (fun _ _ f _ => f.elim)) (by simp)).sg i g b hgi hbi
      have hgok := (Hi.out).ok g (List.mem_of_getElem? hgi)
      have hbd : -100 ≤ g.step ∧ g.step ≤ 100 ∧ g.steps.length ≤ 100 := by
        obtain ⟨_, _, hsm, _, h⟩ := hgok
        have := hsm.2.1
        rcases h with h | h <;> omega
      have HL6 := Lib.hid (Left_calls hg6 hbd)
      have Hrest := Lib.hid hrest
      have Hlt := Lib.hid hlt
      have Hrg6 := Lib.hid hrg6
      have Hf6 := Lib.hid hf6
      have hr1 := rest_nonneg s.sagas (fun z => left z && !z.sameKey (.int .i64 g.id)) (Hi.out).ok
      have hr2 := hgok.left_nonneg
      have hr3 := leftSum_le s.sagas (Hi.out).ok
      have hr4 := inv_len Hi.out
      have hr5 : restSum s.sagas left ≤ leftSum s.sagas := rest_le s.sagas left (Hi.out).ok
      have hl6 : l.length ≤ 6 := Hws.out.2.2.2.1
      have hadd : wrap64 (2 + (2 * (l.length : Int) - 1) + leftSum s.sagas - restSum s.sagas left + g.left) = 2 + (2 * (l.length : Int) - 1) + leftSum s.sagas - restSum s.sagas (fun z => left z && !z.sameKey (.int .i64 g.id)) := by
        rw [show 2 + (2 * (l.length : Int) - 1) + leftSum s.sagas - restSum s.sagas left + g.left = 2 + (2 * (l.length : Int) - 1) + leftSum s.sagas - restSum s.sagas (fun z => left z && !z.sameKey (.int .i64 g.id)) by omega]
        exact wrap_in _ (by omega)
      have Hadd := Lib.hid hadd
      clear hgi hbi hy hat hrest hf6 hg6 hgok hbd hlt hrg6 hr1 hr2 hr3 hr4 hr5 hl6 hadd hleft hkl hs6
      simp only [ptrV]
      simp only [ptrV] at hen
      go_wp2_with (first
        | (go_at_call 44; refine Calls.mono HL6.out ?_; rintro e w7 ⟨rfl, n7, rfl⟩)
        | fail)
      go_roundw
      case rel => exact ⟨_, cnt6, Hrg6.out.kept (w' := w6.drewN n7) (row := none) ⟨rfl, rfl, rfl, Nat.le_refl _, fun _ _ _ => rfl⟩ (by simp) (by simp), by rw [← Hadd.out], Hf6.out.drewN n7⟩
      case measure =>
        have e1 := Hrg6.out.left_eq
        have e2 := Hrg.out.left_eq
        show World.rangeLeft w6 _ _ < _
        rw [e1, e2]; exact Hlt.out
set_option maxRecDepth 100000 in
set_option maxHeartbeats 4000000 in
theorem Submit_full {cv : Value} {w : World} {q : Pl} {bl : List Nat} {s : StM} {id : Int} {l : List (ByteArray × ByteArray)} {v : Value} (hs : StV cv w q bl s) (hi : s.inv) (hv : StepsAt w v l) (hw : wholeB id l = true) (hn : ∀ x ∈ s.sagas, x.id ≠ id)
    (hroom : (s.d.blocks.length : Int) < (s.j.en : Int) + (2 + (2 * l.length - 1) + leftSum s.sagas)) :
    Calls Tryz.prog 18 #[.pointer (some ⟨q.xb, 0, none⟩), .int .i64 id, v] w (FailPost w subStr 3) := by
  have hws := whole_small hw
  have hlk := look_none hs.mp id (by omega) (il_none s.sagas bl id hn)
  have hx := hs.eng
  obtain ⟨sa, sn, sc, rfl⟩ := hv.shape
  have HW := Lib.hid (Whole_calls w id l _ (.inr hv) (by have := hws.2.2.2.1; omega))
  rw [hw] at HW
  have Hs := Lib.hid hs
  have Hi := Lib.hid hi
  have Hv := Lib.hid hv
  have Hw := Lib.hid hw
  have Hn := Lib.hid hn
  have Hroom := Lib.hid hroom
  have Hws := Lib.hid hws
  have Hlk := Lib.hid hlk
  have Hx := Lib.hid hx
  simp only [egCells] at hx
  clear hs hi hv hw hn hroom hws hlk
  have hcv := cellv w
  go_enter Tryz.func18, Tryz.ntmps18
  go_upto_region 5 with (first
    | (go_at_call 41; refine Calls.mono HW.out ?_; rintro e w2 ⟨rfl, hf2⟩)
    | fail)
  have hs2 := Hs.out.keepK (hf2.toK (K := []) (fun _ _ f _ => f.elim)) (by simp)
  have hlk := look_none hs2.mp id (by have := Hws.out; omega) (il_none s.sagas bl id Hn.out)
  have hv2 : StepsAt w2 _ l := Hv.out.frame hf2 (fun _ f => f.elim)
  have HN := Lib.hid (New_calls id l _ hv2 (by have := Hws.out.2.2.1; have := Hws.out.2.2.2.1; omega))
  have hx2 := hf2.get Hx.out (fun f => f)
  have Hx2 := Lib.hid hx2
  have Hf2 := Lib.hid hf2
  have Hs2 := Lib.hid hs2
  simp only [egCells] at hx2
  clear hcv hx hs2 hv2 hf2
  have hcv := cellv w2
  go_upto_region 11 with (first
    | (go_at_call 43; refine Calls.mono HN.out ?_; rintro e w3 ⟨sb, hsb, rfl, hs3, hf3⟩)
    | fail)
  have HL := Lib.hid (Left_calls hs3 (by simp only [SagaM.new]; have := Hws.out.2.2.2.1; omega))
  rw [new_left] at HL
  have Hs3 := Lib.hid hs3
  have Hsb := Lib.hid hsb
  have Hf3 := Lib.hid (Hf2.out.trans hf3)
  have hx3 := hf3.get Hx2.out (fun f => f)
  have Hst3 := Lib.hid (Hs2.out.keepK (hf3.toK (K := []) (fun _ _ f _ => f.elim)) (by simp))
  clear hcv hx2 hs3 hsb hf3 hlk
  have h2n : wrap64 (2 + (2 * (l.length : Int) - 1)) = 2 + (2 * (l.length : Int) - 1) := wrap_in _ (by have := Hws.out.2.2.2.1; omega)
  go_upto_region 12 with (first
    | (go_at_call 44; refine Calls.mono HL.out ?_; rintro e w4 ⟨rfl, n4, rfl⟩)
    | fail)
  have hst4 : StV cv (w3.drewN n4) q bl s := Hst3.out.keepK (((Fr.refl (fun _ => False) w3).drewN n4).toK (K := []) (fun _ _ f _ => f.elim)) (by simp)
  have Hs4 := Lib.hid (Hs3.out.new ((Fr.refl _ w3).drewN n4))
  have Hf4 := Lib.hid (Hf3.out.drewN n4)
  have Hx4 := Lib.hid (hst4.eng)
  have Hst4 := Lib.hid hst4
  have Hsb4 : Hid (w.heap.size ≤ sb) := by have := Hsb.out; have := Hf2.out.size; show _ ≤ _; omega
  have H2n := Lib.hid h2n
  clear hx3 hst4 h2n
  generalize w3.drewN n4 = w4 at Hs4 Hf4 Hx4 Hst4 ⊢
  have hx4 := Hx4.out
  simp only [egCells] at hx4
  have hcv := cellv w4
  go_upto_region 13 with (first
    | (at_range; refine wpList_range_own _ rfl _ 76 rfl 3 82 Tryz.keyed Tryz.underlying76 ptrR q.mb s.sagas.length _ rfl Hst4.out.mp ?_; intro w5 hrg0 hg0 hs0; go_frame)
    | fail)
  have hr0 : restSum s.sagas (Maps.has (dataOf (ilOf s.sagas bl))) = leftSum s.sagas := rest_all _ _ (fun g hg => has_of_mem Hs.out.len hg)
  have hF0 : New w4 w5 := (Fr.ofGrown hg0).mono (fun _ _ e => by cases e)
  have HF0 := Lib.hid hF0
  have Hrg0 := Lib.hid hrg0
  have Hr0 := Lib.hid hr0
  clear hcv hx4 hr0 hF0 hrg0 hg0 hs0
  go_wp2_with fail
  go_loopw [9] (fun v wr => SumAt w4 wr q.mb w4.heap.size s.sagas bl (2 + (2 * (l.length : Int) - 1) + leftSum s.sagas) v) (fun _ wr => wr.rangeLeft q.mb w4.heap.size)
  case atStart => exact ⟨_, _, Hrg0.out, by rw [Hr0.out, H2n.out]; congr 1; omega, HF0.out⟩
  case round =>
    obtain ⟨left, cnt, hrg, rfl, hfr⟩ := hrel
    have Hrg := Lib.hid hrg
    have Hfr := Lib.hid hfr
    clear hrg hfr
    go_upto_region 14 with (first
      | (at_next; refine wpList_next_ranges _ rfl _ rfl 3 Tryz.keyed ptrR (Value.int .i64) ptrV key_shape ptrR_shape q.mb w4.heap.size _ _ _ _ rfl Hrg.out ?_ ?_)
      | fail)
    · intro _ hl0
      have hr0 := rest_none s.sagas left hl0
      rw [hr0, Int.sub_zero]
      have Hl0 := Lib.hid hl0
      clear hl0 hr0
      have hst6 : StV cv wr q bl s := Hst4.out.keepK (Hfr.out.toK (K := []) (fun _ _ f _ => f.elim)) (by simp)
      have Hs6 := Lib.hid (Hs4.out.new Hfr.out)
      have hx6 := hst6.eng
      have HR := Lib.hid (Room_calls hst6.jn hst6.dk)
      have Hst6 := Lib.hid hst6
      simp only [egCells] at hx6
      clear hst6
      have hcv := cellv wr
      have hsz := (Hi.out).size
      have hrm : wrap64 ((s.d.blocks.length : Int) - s.j.en) = (s.d.blocks.length : Int) - s.j.en := wrap_in _ (by
        have := (Hi.out).room; have := rest_nonneg s.sagas (fun _ => true) (Hi.out).ok; rw [rest_all s.sagas (fun _ => true) (fun _ _ => rfl)] at this
        omega)
      have hgt : (s.d.blocks.length : Int) - s.j.en < 2 + (2 * (l.length : Int) - 1) + leftSum s.sagas := by have := Hroom.out; omega
      rw [hrm] at HR
      clear hrm hsz
      have Hf0r : Hid (New w wr) := Hf4.out.trans Hfr.out
      go_wp2_with (first
        | (go_at_call 45; refine Calls.mono HR.out ?_; rintro e w7 ⟨rfl, rfl⟩)
        | (go_at_call 40; refine Calls.mono (fail_calls _ subStr 3) ?_; rintro e w8 ⟨v, rfl, hv8, hf8⟩)
        | fail)
      go_ret
      obtain ⟨fb, h1, h2, h3⟩ := hv8
      exact ⟨v, rfl, ⟨fb, Nat.le_trans Hf0r.out.size h1, h2, h3⟩, Hf0r.out.drew.trans hf8⟩
    · intro x c kl y ps w6 cnt6 hkl hleft hy hat hrg6 hlt hg6 hs6 hen
      have hid : kl = .int .i64 x := by
        obtain ⟨x', e1, e2, _⟩ := Maps.keyOf_int_inv Tryz.underlying3 hkl
        cases e1; exact e2
      subst hid
      obtain ⟨i, g, b, hgi, hbi, rfl, rfl⟩ := entry_of Hs.out.len hy hat
      have hrest := rest_step s.sagas left (Hi.out).ord g (List.mem_of_getElem? hgi) hleft
      have hf6 : New w4 w6 := Hfr.out.trans' (Fr.ofGrown hg6) (fun i hi e => by cases e; omega)
      have hg6 := (Hst4.out.keepK (hf6.toK (K := []) (fun _ _ f _ => f.elim)) (by simp)).sg i g b hgi hbi
      have hgok := (Hi.out).ok g (List.mem_of_getElem? hgi)
      have hbd : -100 ≤ g.step ∧ g.step ≤ 100 ∧ g.steps.length ≤ 100 := by
        obtain ⟨_, _, hsm, _, h⟩ := hgok
        have := hsm.2.1
        rcases h with h | h <;> omega
      have HL6 := Lib.hid (Left_calls hg6 hbd)
      have Hrest := Lib.hid hrest
      have Hlt := Lib.hid hlt
      have Hrg6 := Lib.hid hrg6
      have Hf6 := Lib.hid hf6
      have hr1 := rest_nonneg s.sagas (fun z => left z && !z.sameKey (.int .i64 g.id)) (Hi.out).ok
      have hr2 := hgok.left_nonneg
      have hr3 := leftSum_le s.sagas (Hi.out).ok
      have hr4 := inv_len Hi.out
      have hr5 : restSum s.sagas left ≤ leftSum s.sagas := rest_le s.sagas left (Hi.out).ok
      have hl6 : l.length ≤ 6 := Hws.out.2.2.2.1
      have hadd : wrap64 (2 + (2 * (l.length : Int) - 1) + leftSum s.sagas - restSum s.sagas left + g.left) = 2 + (2 * (l.length : Int) - 1) + leftSum s.sagas - restSum s.sagas (fun z => left z && !z.sameKey (.int .i64 g.id)) := by
        rw [show 2 + (2 * (l.length : Int) - 1) + leftSum s.sagas - restSum s.sagas left + g.left = 2 + (2 * (l.length : Int) - 1) + leftSum s.sagas - restSum s.sagas (fun z => left z && !z.sameKey (.int .i64 g.id)) by omega]
        exact wrap_in _ (by omega)
      have Hadd := Lib.hid hadd
      clear hgi hbi hy hat hrest hf6 hg6 hgok hbd hlt hrg6 hr1 hr2 hr3 hr4 hr5 hl6 hadd hleft hkl hs6
      simp only [ptrV]
      simp only [ptrV] at hen
      go_wp2_with (first
        | (go_at_call 44; refine Calls.mono HL6.out ?_; rintro e w7 ⟨rfl, n7, rfl⟩)
        | fail)
      go_roundw
      case rel => exact ⟨_, cnt6, Hrg6.out.kept (w' := w6.drewN n7) (row := none) ⟨rfl, rfl, rfl, Nat.le_refl _, fun _ _ _ => rfl⟩ (by simp) (by simp), by rw [← Hadd.out], Hf6.out.drewN n7⟩
      case measure =>
        have e1 := Hrg6.out.left_eq
        have e2 := Hrg.out.left_eq
        show World.rangeLeft w6 _ _ < _
        rw [e1, e2]; exact Hlt.out
set_option maxRecDepth 100000 in
set_option maxHeartbeats 2000000 in
theorem Whole_any (w : World) (id : Int) (l : List (ByteArray × ByteArray)) (v : Value) (hv : SlAt w v l) (hl : l.length ≤ 100000) :
    Calls Tryz.prog 41 #[.int .i64 id, v] w fun e w' => e = .returned (.bool (wholeB id l)) ∧ New w w' := by
  by_cases h : l.length ≤ 1000
  · exact Whole_calls w id l v hv h
  have hsh : ∃ a c, v = .slice a l.length c := by
    rcases hv with ⟨rfl, a, c, rfl⟩ | ⟨b, off, cap, _, e, _⟩
    · exact ⟨a, c, rfl⟩
    · exact ⟨_, _, e⟩
  obtain ⟨a, c, rfl⟩ := hsh
  have Hd : Hid (wholeB id l = false) := by
    show _ = _
    have e4 : decide (l.length ≤ 6) = false := by simp; omega
    simp [wholeB, e4]
  have h4 : ¬ (l.length : Int) ≤ 6 := by omega
  have h3 : (1 : Int) ≤ l.length := by omega
  clear hv h
  by_cases h1 : 1 ≤ id
  · by_cases h2 : id ≤ 1000
    · go_enter Tryz.func41, Tryz.ntmps41
      go_wp2_with fail
      go_ret
      exact ⟨by rw [Hd.out]; rfl, Fr.refl _ _⟩
    · go_enter Tryz.func41, Tryz.ntmps41
      go_wp2_with fail
      go_ret
      exact ⟨by rw [Hd.out]; rfl, Fr.refl _ _⟩
  · go_enter Tryz.func41, Tryz.ntmps41
    go_wp2_with fail
    go_ret
    exact ⟨by rw [Hd.out]; rfl, Fr.refl _ _⟩
set_option maxRecDepth 100000 in
set_option maxHeartbeats 2000000 in
/-- A saga that is none. -/
theorem Submit_badV {cv : Value} {w : World} {q : Pl} {bl : List Nat} {s : StM} {id : Int} {l : List (ByteArray × ByteArray)} {v : Value} (hs : StV cv w q bl s) (hv : SlAt w v l) (hll : l.length ≤ 100000) (hw : wholeB id l = false) :
    Calls Tryz.prog 18 #[.pointer (some ⟨q.xb, 0, none⟩), .int .i64 id, v] w (FailPost w subStr 1) := by
  have hsh : ∃ a c, v = .slice a l.length c := by
    rcases hv with ⟨rfl, a, c, rfl⟩ | ⟨b, off, cap, _, e, _⟩
    · exact ⟨a, c, rfl⟩
    · exact ⟨_, _, e⟩
  have HW := Lib.hid (Whole_any w id l v hv hll)
  obtain ⟨a, c, rfl⟩ := hsh
  rw [hw] at HW
  have hx := hs.eng
  simp only [egCells] at hx
  clear hs hv hll hw
  have hcv := cellv w
  go_enter Tryz.func18, Tryz.ntmps18
  go_wp2_with (first
    | (go_at_call 41; refine Calls.mono HW.out ?_; rintro e w2 ⟨rfl, hf2⟩)
    | (go_at_call 40; refine Calls.mono (fail_calls w2 subStr 1) ?_; rintro e w3 ⟨v, rfl, hv3, hf3⟩)
    | fail)
  go_ret
  obtain ⟨fb, h1, h2, h3⟩ := hv3
  exact ⟨v, rfl, ⟨fb, Nat.le_trans hf2.size h1, h2, h3⟩, hf2.trans hf3⟩
set_option maxRecDepth 100000 in
set_option maxHeartbeats 2000000 in
/-- A saga of this number is there: the same one, or another. -/
theorem Submit_thereV {cv : Value} {w : World} {q : Pl} {bl : List Nat} {s : StM} {i : Nat} {g : SagaM} {l : List (ByteArray × ByteArray)} {v : Value} (hs : StV cv w q bl s) (hi : s.inv) (hg : s.sagas[i]? = some g) (hv : StepsAt w v l) (hw : wholeB g.id l = true) :
    Calls Tryz.prog 18 #[.pointer (some ⟨q.xb, 0, none⟩), .int .i64 g.id, v] w fun e w' => New w w' ∧ (if l = g.steps then e = .returned .nilIface else ∃ x, e = .returned x ∧ FaultAt w w' subStr 2 x) := by
  have hws := whole_small hw
  obtain ⟨b, hb, hbo⟩ := blk_of s.sagas bl hs.len hi.ord i g hg
  have hgok := hi.ok g (List.mem_of_getElem? hg)
  obtain ⟨sa, sn, sc, rfl⟩ := hv.shape
  have HW := Lib.hid (Whole_calls w g.id l _ (.inr hv) (by have := hws.2.2.2.1; omega))
  rw [hw] at HW
  have HS := Lib.hid (fun (w2 : World) (hf : New w w2) => Same_calls ((hs.keepK (hf.toK (K := []) (fun _ _ f _ => f.elim)) (by simp)).sg i g b hg hb) l _ (hv.frame hf (fun _ f => f.elim)) (by have := hws.2.2.2.1; omega) (by have := hgok.2.2.1.2.1; omega))
  have HL := Lib.hid (fun (w2 : World) (hf : New w w2) => look_some (hs.keepK (hf.toK (K := []) (fun _ _ f _ => f.elim)) (by simp)).mp g.id (by omega) hbo)
  have Hx := Lib.hid hs.eng
  have hx := hs.eng
  simp only [egCells] at hx
  clear hs hi hg hv hw hb hbo hgok hws
  have hcv := cellv w
  go_enter Tryz.func18, Tryz.ntmps18
  go_upto_region 5 with (first
    | (go_at_call 41; refine Calls.mono HW.out ?_; rintro e w2 ⟨rfl, hf2⟩)
    | fail)
  have hx2 := hf2.get Hx.out (fun f => f)
  have hlk := HL.out w2 hf2
  have HS2 := Lib.hid (HS.out w2 hf2)
  have Hf2 := Lib.hid hf2
  simp only [egCells] at hx2
  clear hcv hx hf2
  have hcv := cellv w2
  by_cases he : l = g.steps
  · rw [decide_eq_true he] at HS2
    have He := Lib.hid he
    clear he
    go_wp2_with (first
      | (go_at_call 42; refine Calls.mono HS2.out ?_; rintro e w3 ⟨rfl, n3, rfl⟩)
      | fail)
    go_ret
    exact ⟨Hf2.out.drewN n3, rfl⟩
  · rw [decide_eq_false he] at HS2
    have He := Lib.hid he
    clear he
    go_wp2_with (first
      | (go_at_call 42; refine Calls.mono HS2.out ?_; rintro e w3 ⟨rfl, n3, rfl⟩)
      | (go_at_call 40; refine Calls.mono (fail_calls (w2.drewN n3) subStr 2) ?_; rintro e w4 ⟨v, rfl, hv4, hf4⟩)
      | fail)
    go_ret
    obtain ⟨fb, h1, h2, h3⟩ := hv4
    exact ⟨(Hf2.out.drewN n3).trans hf4, v, rfl, fb, Nat.le_trans Hf2.out.size h1, h2, h3⟩
set_option maxRecDepth 100000 in
set_option maxHeartbeats 2000000 in
theorem StatusV {cv : Value} {w : World} {q : Pl} {bl : List Nat} {s : StM} {i : Nat} {g : SagaM} (hs : StV cv w q bl s) (ho : s.sagas.Pairwise (fun a b => a.id < b.id)) (hg : s.sagas[i]? = some g) (hgi : 1 ≤ g.id ∧ g.id ≤ 1000) :
    Calls Tryz.prog 21 #[.pointer (some ⟨q.xb, 0, none⟩), .int .i64 g.id] w fun e w' => e = .returned (.tuple #[.agg g.status, .nilIface]) ∧ New w w' := by
  obtain ⟨b, hb, hbo⟩ := blk_of s.sagas bl hs.len ho i g hg
  have hN : New w (w.alloc (.cells #[.int .i64 0, .int .i64 0, .int .i64 0, .int .i64 0, .int .i64 0, .int .i64 0] 38)) := (Fr.refl _ w).alloc _
  have hs1 := hs.keepK (hN.toK (K := []) (fun _ _ f _ => f.elim)) (by simp)
  have hlk := look_some hs1.mp g.id (by omega) hbo
  have hsg := hs1.sg i g b hg hb
  have hx := hs1.eng
  have hr := heap_alloc_new w (.cells #[.int .i64 0, .int .i64 0, .int .i64 0, .int .i64 0, .int .i64 0, .int .i64 0] 38)
  obtain ⟨sv, hsb, _⟩ := hsg
  have HN := Lib.hid hN
  have Hr := Lib.hid hr
  simp only [egCells] at hx
  simp only [sgCells] at hsb
  have Hst : Hid (g.status = #[.int .i64 g.id, .int .i64 g.st, .int .i64 g.step, .int .i64 g.steps.length, .int .i64 g.tries, .int .i64 g.due]) := rfl
  clear hs ho hg hgi hb hbo hN hs1
  go_enter Tryz.func21, Tryz.ntmps21
  go_upto_region 1 with fail
  generalize w.alloc (.cells #[.int .i64 0, .int .i64 0, .int .i64 0, .int .i64 0, .int .i64 0, .int .i64 0] 38) = w1 at HN Hr hlk hx hsb hr ⊢
  have hcv := cellv w1
  have hfv := frozv w1
  go_wp2_with fail
  refine bodyPost_ret (results_row_tmp rfl _ _ w.heap.size 38 g.status (0, 0) _ rfl (by
    rw [hp_setCell, if_pos rfl, hp_setCell, if_pos rfl, hp_setCell, if_pos rfl, hp_setCell, if_pos rfl, hp_setCell, if_pos rfl, hp_setCell, if_pos rfl, Hr.out]; rfl) Tryz.underlying38 rfl Tryz.info38s) rfl ?_
  refine ⟨rfl, HN.out.trans' ((((((Fr.one w.heap.size w1 0 _).trans (Fr.one w.heap.size _ 1 _)).trans (Fr.one w.heap.size _ 2 _)).trans (Fr.one w.heap.size _ 3 _)).trans (Fr.one w.heap.size _ 4 _)).trans (Fr.one w.heap.size _ 5 _)) (fun i hi e => by omega)⟩
set_option maxRecDepth 100000 in
set_option maxHeartbeats 2000000 in
/-- No saga of this number is there. -/
theorem Status_noneV {cv : Value} {w : World} {q : Pl} {bl : List Nat} {s : StM} {id : Int} (hs : StV cv w q bl s) (hid : i64 id) (hn : ∀ x ∈ s.sagas, x.id ≠ id) :
    Calls Tryz.prog 21 #[.pointer (some ⟨q.xb, 0, none⟩), .int .i64 id] w fun e w' => (∃ nb op, e = .returned (.tuple #[.agg #[.int .i64 0, .int .i64 0, .int .i64 0, .int .i64 0, .int .i64 0, .int .i64 0], .iface 121 (.pointer (some ⟨nb, 0, none⟩))]) ∧ w'.heap[nb]? = some (.cells (faultCells op 9) 123 (0, 0))) ∧ New w w' := by
  have hN : New w (w.alloc (.cells #[.int .i64 0, .int .i64 0, .int .i64 0, .int .i64 0, .int .i64 0, .int .i64 0] 38)) := (Fr.refl _ w).alloc _
  have hs1 := hs.keepK (hN.toK (K := []) (fun _ _ f _ => f.elim)) (by simp)
  have hlk := look_none hs1.mp id (by unfold i64 at hid; omega) (il_none s.sagas bl id hn)
  have hx := hs1.eng
  have hr := heap_alloc_new w (.cells #[.int .i64 0, .int .i64 0, .int .i64 0, .int .i64 0, .int .i64 0, .int .i64 0] 38)
  have HN := Lib.hid hN
  have Hr := Lib.hid hr
  have hlt : w.heap.size < (w.alloc (.cells #[.int .i64 0, .int .i64 0, .int .i64 0, .int .i64 0, .int .i64 0, .int .i64 0] 38)).heap.size := lt_of_hp hr
  have Hlt := Lib.hid hlt
  simp only [egCells] at hx
  clear hs hid hn hN hs1 hlt
  go_enter Tryz.func21, Tryz.ntmps21
  go_upto_region 1 with fail
  generalize w.alloc (.cells #[.int .i64 0, .int .i64 0, .int .i64 0, .int .i64 0, .int .i64 0, .int .i64 0] 38) = w1 at HN Hr Hlt hlk hx hr ⊢
  have hcv := cellv w1
  have hfv := frozv w1
  go_wp2_with (first
    | (go_at_call 40; refine Calls.mono (fail_calls _ _ _) ?_; rintro e w3 ⟨v, rfl, ⟨fb, hfb, rfl, hfb2⟩, hf3⟩; have hr3 := hf3.get Hr.out (fun f => f); have hcv3 := cellv w3; have hfv3 := frozv w3)
    | fail)
  refine bodyPost_ret (results_row_tmp rfl _ _ w.heap.size 38 #[.int .i64 0, .int .i64 0, .int .i64 0, .int .i64 0, .int .i64 0, .int .i64 0] (0, 0) _ rfl (by
    simp only [hp_setCell, if_true, hr3]; rfl) Tryz.underlying38 rfl Tryz.info38s) rfl ?_
  exact ⟨⟨fb, _, rfl, by simp only [hp_setCell, if_neg (show ¬ fb = w.heap.size by have := Hlt.out; omega)]; exact hfb2⟩, (HN.out.trans hf3).trans' ((((((Fr.one w.heap.size w3 0 _).trans (Fr.one w.heap.size _ 1 _)).trans (Fr.one w.heap.size _ 2 _)).trans (Fr.one w.heap.size _ 3 _)).trans (Fr.one w.heap.size _ 4 _)).trans (Fr.one w.heap.size _ 5 _)) (fun i hi e => by omega)⟩
end Go.Proofs.YtkafmfdipmhleaaGreatDoor

namespace Go.Proofs.YtkafmfdipmhleaaGreatDoor
open Go.RowKit Go.Maps
/-- Who is asked: what it answers, what becomes of the partner. -/
structure AskM where
  rep : PartM → CallM → Int
  nxt : PartM → CallM → PartM
def askP : AskM := ⟨fun p c => replyM (p.knows c) c.back p.k, PartM.ask⟩
def askF : AskM := ⟨fun _ _ => 1, fun p _ => p⟩
def Asks (cv : Value) (pb : Nat) (a : AskM) : Prop := ∀ (w : World) (xb jb mb : Nat) (pause clock : Int) (c : CallM) (p : PartM),
    w.heap[xb]? = some (.cells (egCells jb mb pause cv clock false) 79 (0, 0)) → PAt w pb p → p.small →
    Calls Tryz.prog 51 #[.pointer (some ⟨xb, 0, none⟩), c.val] w fun e w' => e = .returned (.int .i64 (a.rep p c)) ∧ PAt w' pb (a.nxt p c) ∧ FrK [45, 47, 49] w w' ∧ PGo w pb w'
theorem asks_p (pb : Nat) : Asks (askFn pb) pb askP := fun _ _ _ _ _ _ c p hx hp hs => ask_G c p hx hp hs
theorem PG.keepK {w w' : World} {pb : Nat} {G : Nat → Prop} {K : List Nat} {iv : Value} (h : PG w pb G iv) (hf : FrK K w w') (h1 : 45 ∉ K) : PG w' pb G iv := by
  obtain ⟨h0, lv, ev, av, h2, h3⟩ := h
  exact ⟨h0, lv, ev, av, hf.block pb _ h2 h1, h3⟩
end Go.Proofs.YtkafmfdipmhleaaGreatDoor

namespace Go.Proofs.YtkafmfdipmhleaaGreatDoor
open Go.RowKit Go.Maps
def PartM.fine (p : PartM) (m : Nat) : Prop := p.log.length + m < 2 ^ 30 ∧ p.effs.length + m < 2 ^ 30 ∧ p.l.length < 2 ^ 30 ∧ 0 ≤ p.at_ ∧ p.at_ + m < 2 ^ 30
theorem PartM.fine.less {p : PartM} {m k : Nat} (h : p.fine m) (hk : k ≤ m) : p.fine k := by
  obtain ⟨h1, h2, h3, h4, h5⟩ := h
  exact ⟨by omega, by omega, h3, h4, by omega⟩
theorem PartM.fine.small {p : PartM} {m : Nat} (h : p.fine m) : p.small := by
  obtain ⟨h1, h2, h3, h4, h5⟩ := h
  exact ⟨by omega, by omega, h3, h4, by omega⟩
def AskM.good (a : AskM) : Prop := ∀ p c m, p.fine (m + 1) → (a.nxt p c).fine m
theorem below_New {B : Nat} {w w' : World} (h : Below B w w') (hB : w.heap.size ≤ B) : New w w' := ⟨h.os, h.tape, h.output, h.size, fun k hk _ => h.block k (Nat.lt_of_lt_of_le hk hB)⟩
end Go.Proofs.YtkafmfdipmhleaaGreatDoor

namespace Go.Proofs.YtkafmfdipmhleaaGreatDoor
open Go.RowKit
def tailG (l : List (ByteArray × ByteArray)) : List UInt8 := leN 1 l.length ++ (stepsB l ++ List.replicate (113 - (stepsB l).length) 0)
theorem tailG_len (l : List (ByteArray × ByteArray)) (h : (stepsB l).length ≤ 108) : (tailG l).length = 114 := by
  simp [tailG, leN_length]; omega
theorem small_le {l : List (ByteArray × ByteArray)} (h : smallSteps l) : (stepsB l).length ≤ 108 := by
  have := stepsB_le l h.2.2
  have := h.2.1
  omega
theorem bod_eqG (r : RecM) (hk : r.kind = 2) (hs : smallSteps r.steps) : padB (recBytes r) = leN 4 (sumB r) ++ headB r ++ tailG r.steps ∧ (baseB r).drop 4 = headB r ++ tailG r.steps := by
  have hT := small_le hs
  have hH : (headB r).length = 10 := head_len r
  have hz : zeros.length = 128 := zeros_length
  have hb : (baseB r).drop 4 = headB r ++ tailG r.steps := by
    unfold baseB bodyB tailG
    rw [if_pos hk]
    generalize stepsB r.steps = T at hT
    generalize headB r = H at hH
    have hN : (leN 1 r.steps.length).length = 1 := leN_length _ _
    generalize leN 1 r.steps.length = N at hN
    unfold wrAt
    have e0 : zeros.take 4 = [0, 0, 0, 0] := rfl
    rw [e0]
    show (H ++ (N ++ T)) ++ zeros.drop (4 + (H ++ (N ++ T)).length) = _
    unfold zeros
    rw [List.drop_replicate, List.append_assoc, List.append_assoc]
    congr 4
    simp only [List.length_append]
    omega
  refine ⟨?_, hb⟩
  have hr : recB r = leN 4 (sumB r) ++ headB r ++ tailG r.steps := by
    unfold recB wrAt
    rw [leN_length]
    show [] ++ leN 4 (sumB r) ++ (baseB r).drop 4 = _
    rw [hb, List.nil_append, List.append_assoc]
  have hrl : (recB r).length = 128 := by rw [hr]; simp [leN_length, hH, tailG_len _ hT]
  unfold recBytes padB
  rw [show endOf r = 128 by unfold endOf; rw [if_pos hk], List.take_of_length_le (by omega), hrl, hr]
  simp
theorem take_text (s : ByteArray) (h : s.size ≤ 8) (R : List UInt8) (hR : R ≠ []) : takeOne (textB s ++ R) = some (s, R) := by
  have e : textB s ++ R = UInt8.ofNat s.size :: (s.data.toList ++ R) := by
    unfold textB
    rw [leN1]
    simp [leB]
  have hn : (UInt8.ofNat s.size).toNat = s.size := by simp; omega
  have hl : s.data.toList.length = s.size := rfl
  have hR' : 0 < R.length := List.length_pos_iff.2 hR
  rw [e]
  unfold takeOne
  simp only [hn]
  rw [if_pos (by rw [List.length_append, hl]; omega)]
  rw [List.take_append_of_le_length (by omega), List.take_of_length_le (by omega), List.drop_append_of_le_length (by omega), List.drop_of_length_le (by omega)]
  rfl
theorem take_steps (l : List (ByteArray × ByteArray)) (h : ∀ s ∈ l, s.1.size ≤ 8 ∧ s.2.size ≤ 8) (R : List UInt8) (hR : R ≠ []) : takeSteps l.length (stepsB l ++ R) = some l := by
  induction l with
  | nil => rfl
  | cons a l ih =>
    have h1 := h a (by simp)
    have e : stepsB (a :: l) ++ R = textB a.1 ++ (textB a.2 ++ (stepsB l ++ R)) := by simp [stepsB]
    have hne : stepsB l ++ R ≠ [] := by simp [hR]
    rw [e]
    show takeSteps (l.length + 1) _ = _
    unfold takeSteps
    rw [take_text a.1 h1.1 _ (by simp [textB, leN1]), ]
    simp only
    rw [take_text a.2 h1.2 _ hne]
    simp only
    rw [ih (fun s hs => h s (by simp [hs]))]
    rfl
/-- A body is read as it was written. -/
theorem parse_body (r : RecM) (h : r.ok) (hk : r.kind = 2) : parseM (padB (recBytes r)) = some (r, true) := by
  have hs := h.small hk
  have hlt : (stepsB r.steps).length ≤ 108 := small_le hs
  obtain ⟨hb, hd⟩ := bod_eqG r hk hs
  have ht : takeSteps ((tailG r.steps)[0]?.getD 0).toNat ((tailG r.steps).drop 1) = some r.steps := by
    have e : tailG r.steps = UInt8.ofNat r.steps.length :: (stepsB r.steps ++ List.replicate (113 - (stepsB r.steps).length) 0) := by
      unfold tailG
      rw [leN1]
      simp [leB]
    rw [e]
    have hn : (UInt8.ofNat r.steps.length).toNat = r.steps.length := by have := hs.2.1; simp; omega
    show takeSteps (UInt8.ofNat r.steps.length).toNat (stepsB r.steps ++ _) = _
    rw [hn]
    exact take_steps _ hs.2.2 _ (by simp; omega)
  have hc := crcM_u32 ((headB r ++ tailG r.steps).take 124)
  have hsv : (sumB r : Int) = crcM ((headB r ++ tailG r.steps).take 124) := by
    unfold sumB
    rw [hd, show endOf r - 4 = 124 by unfold endOf; rw [if_pos hk]]
    omega
  rw [hb, leN4, head_short]
  obtain ⟨kd, ep, ix, sg, rp, st⟩ := r
  obtain rfl : kd = 2 := hk
  generalize sumB ⟨2, ep, ix, sg, rp, st⟩ = s at hsv hc
  have hk : kindB ([leB s 0, leB s 1, leB s 2, leB s 3] ++ [leB 2 0, leB ep 0, leB ep 1, leB ep 2, leB ep 3, leB ix 0, leB ix 1, leB sg 0, leB sg 1, leB rp 0] ++ tailG st) = 2 := rfl
  show parseM ([leB s 0, leB s 1, leB s 2, leB s 3] ++ [leB 2 0, leB ep 0, leB ep 1, leB ep 2, leB ep 3, leB ix 0, leB ix 1, leB sg 0, leB sg 1, leB rp 0] ++ tailG st) = _
  have hsum : sumOk ([leB s 0, leB s 1, leB s 2, leB s 3] ++ [leB 2 0, leB ep 0, leB ep 1, leB ep 2, leB ep 3, leB ix 0, leB ix 1, leB sg 0, leB sg 1, leB rp 0] ++ tailG st) := by
    unfold sumOk
    rw [hk, if_pos rfl]
    show (leVal [leB s 0, leB s 1, leB s 2, leB s 3] : Int) = crcM ((headB ⟨2, ep, ix, sg, rp, st⟩ ++ tailG st).take 124)
    rw [leVal4 s (by omega), hsv]
  have e3 : epochB ([leB s 0, leB s 1, leB s 2, leB s 3] ++ [leB 2 0, leB ep 0, leB ep 1, leB ep 2, leB ep 3, leB ix 0, leB ix 1, leB sg 0, leB sg 1, leB rp 0] ++ tailG st) = ep := leVal4 ep h.epoch
  have e4 : indexB ([leB s 0, leB s 1, leB s 2, leB s 3] ++ [leB 2 0, leB ep 0, leB ep 1, leB ep 2, leB ep 3, leB ix 0, leB ix 1, leB sg 0, leB sg 1, leB rp 0] ++ tailG st) = ix := leVal2 ix h.index
  have e5 : sagaB ([leB s 0, leB s 1, leB s 2, leB s 3] ++ [leB 2 0, leB ep 0, leB ep 1, leB ep 2, leB ep 3, leB ix 0, leB ix 1, leB sg 0, leB sg 1, leB rp 0] ++ tailG st) = sg := leVal2 sg h.saga
  have e6 : replyB ([leB s 0, leB s 1, leB s 2, leB s 3] ++ [leB 2 0, leB ep 0, leB ep 1, leB ep 2, leB ep 3, leB ix 0, leB ix 1, leB sg 0, leB sg 1, leB rp 0] ++ tailG st) = rp := leVal1 rp h.reply
  unfold parseM
  rw [if_pos hsum, if_pos hk]
  show (takeSteps ((tailG st)[0]?.getD 0).toNat ((tailG st).drop 1)).map _ = _
  rw [ht]
  simp only [Option.map_some, recOf, hk, e3, e4, e5, e6]
/-- Any record is read as it was written. -/
theorem parse_rec (r : RecM) (h : r.ok) (hk : 1 ≤ r.kind ∧ r.kind ≤ 4) : parseM (padB (recBytes r)) = some (r, true) := by
  by_cases h2 : r.kind = 2
  · exact parse_body r h h2
  · rw [pad_short r h2]; exact parse_short r _ h h2 hk
end Go.Proofs.YtkafmfdipmhleaaGreatDoor

namespace Go.Proofs.YtkafmfdipmhleaaGreatDoor
open Go.RowKit
/-- A block that holds nothing, or a record of an epoch below ep. -/
def OldB (b : List UInt8) (ep : Nat) : Prop := b = zer ∨ ∃ r : RecM, b = padB (recBytes r) ∧ r.ok ∧ (2 ≤ r.kind ∧ r.kind ≤ 4) ∧ r.epoch < ep
theorem OldB.mono {b : List UInt8} {e f : Nat} (h : OldB b e) (hf : e ≤ f) : OldB b f := by
  rcases h with h | ⟨r, h1, h2, h3, h4⟩
  · exact .inl h
  · exact .inr ⟨r, h1, h2, h3, by omega⟩
theorem OldB.parse {b : List UInt8} {e : Nat} (h : OldB b e) : ∃ r ok, parseM b = some (r, ok) ∧ (ok = true → r.epoch < e) := by
  rcases h with rfl | ⟨r, rfl, h2, h3, h4⟩
  · obtain ⟨r, hr⟩ := parse_zer
    exact ⟨r, false, hr, fun h => by cases h⟩
  · exact ⟨r, true, parse_rec r h2 (by omega), fun _ => h4⟩
/-- A journal on blocks. -/
structure JE (bs : List (List UInt8)) (ep : Nat) (evs : List Ev) : Prop where
  hdr : bs.getD 0 [] = if ep = 0 then zer else hdrE ep
  all : ∀ i, 1 ≤ i → i < bs.length → OldB (bs.getD i []) (ep + 1)
  old : ∀ i, 1 + evLen evs ≤ i → i < bs.length → OldB (bs.getD i []) ep
  on : EvsOn (rawD bs) ep 1 evs
  ok : EvsOk [] evs
  z : ep = 0 → evs = []
theorem JE.zero (n : Nat) (hn : 0 < n) : JE (List.replicate n zer) 0 [] := by
  have hz : ∀ i, i < n → (List.replicate n zer).getD i [] = zer := fun i hi => by rw [List.getD_eq_getElem?_getD, List.getElem?_replicate, if_pos hi]; rfl
  refine ⟨by rw [if_pos rfl]; exact hz 0 hn, fun i _ hi => .inl (hz i (by simpa using hi)), fun i _ hi => .inl (hz i (by simpa using hi)), trivial, trivial, fun _ => rfl⟩
theorem JE.fmt {bs : List (List UInt8)} {ep : Nat} {evs : List Ev} (h : JE bs ep evs) (hn : 0 < bs.length) : JE (bs.set 0 (hdrE (ep + 1))) (ep + 1) [] := by
  refine ⟨?_, ?_, ?_, trivial, trivial, fun h => by omega⟩
  · rw [if_neg (by omega), getD_set_self _ _ _ hn]
  · intro i h1 h2
    rw [getD_set_ne _ _ _ _ (by omega)]
    exact (h.all i h1 (by simpa using h2)).mono (by omega)
  · intro i h1 h2
    rw [getD_set_ne _ _ _ _ (by omega)]
    exact h.all i (by have : evLen [] = 0 := rfl; omega) (by simpa using h2)
def bodB (id : Int) (l : List (ByteArray × ByteArray)) (ep ix : Nat) : List UInt8 := padB (recBytes (placed (bodyRec id l) ep ix))
def takB (id : Int) (ep ix : Nat) : List UInt8 := padB (recBytes (placed (takenRec id) ep ix))
def movB (id rp : Int) (ep ix : Nat) : List UInt8 := padB (recBytes (placed ⟨4, 0, 0, id.toNat, rp.toNat, []⟩ ep ix))
theorem bod_ok {id : Int} {l : List (ByteArray × ByteArray)} {ep ix : Nat} (hi : 1 ≤ id ∧ id ≤ 1000) (hl : smallSteps l) (he : ep < 2 ^ 32) (hx : ix < 65536) : (placed (bodyRec id l) ep ix).ok :=
  ⟨by show 2 < 256; omega, he, hx, by show id.toNat < 65536; omega, by show 0 < 256; omega, fun h => absurd rfl h, fun _ => hl⟩
theorem tak_ok {id : Int} {ep ix : Nat} (hi : 1 ≤ id ∧ id ≤ 1000) (he : ep < 2 ^ 32) (hx : ix < 65536) : (placed (takenRec id) ep ix).ok :=
  ⟨by show 3 < 256; omega, he, hx, by show id.toNat < 65536; omega, by show 0 < 256; omega, fun _ => rfl, fun h => by simp [placed, takenRec] at h⟩
theorem mov_ok {id rp : Int} {ep ix : Nat} (hi : 1 ≤ id ∧ id ≤ 1000) (hr : rp.toNat < 256) (he : ep < 2 ^ 32) (hx : ix < 65536) : (placed ⟨4, 0, 0, id.toNat, rp.toNat, []⟩ ep ix).ok :=
  ⟨by show 4 < 256; omega, he, hx, by show id.toNat < 65536; omega, by show rp.toNat < 256; omega, fun _ => rfl, fun h => by simp [placed] at h⟩
theorem JE.taken {bs : List (List UInt8)} {ep : Nat} {evs : List Ev} {id : Int} {l : List (ByteArray × ByteArray)} (h : JE bs ep evs) (he : ep ≠ 0 ∧ ep < 2 ^ 32) (hok : EvOk (evs.foldl applyEv []) (.taken id l)) (hl : 3 + evLen evs ≤ bs.length) (hs : bs.length ≤ 1000) :
    JE ((bs.set (1 + evLen evs) (bodB id l ep (1 + evLen evs))).set (1 + evLen evs + 1) (takB id ep (1 + evLen evs + 1))) ep (evs ++ [.taken id l]) := by
  have hok' := hok
  obtain ⟨h1, h2, h3, h4⟩ := hok'
  have hb : (placed (bodyRec id l) ep (1 + evLen evs)).ok := bod_ok ⟨h2, h3⟩ h4 he.2 (by omega)
  have ht : (placed (takenRec id) ep (1 + evLen evs + 1)).ok := tak_ok ⟨h2, h3⟩ he.2 (by omega)
  have hev : evLen (evs ++ [.taken id l]) = evLen evs + 2 := evLen_snoc _ _
  refine ⟨?_, ?_, ?_, ?_, EvsOk_snoc h.ok hok, fun e => absurd e he.1⟩
  · rw [getD_set_ne _ _ _ _ (by omega), getD_set_ne _ _ _ _ (by omega)]; exact h.hdr
  · intro i h1 h2
    simp only [List.length_set] at h2
    by_cases e1 : i = 1 + evLen evs + 1
    · subst e1
      rw [getD_set_self _ _ _ (by simp; omega)]
      exact .inr ⟨_, rfl, ht, by show 2 ≤ 3 ∧ 3 ≤ 4; omega, by show ep < ep + 1; omega⟩
    · rw [getD_set_ne _ _ _ _ (by omega)]
      by_cases e2 : i = 1 + evLen evs
      · subst e2
        rw [getD_set_self _ _ _ h2]
        exact .inr ⟨_, rfl, hb, by show 2 ≤ 2 ∧ 2 ≤ 4; omega, by show ep < ep + 1; omega⟩
      · rw [getD_set_ne _ _ _ _ (by omega)]
        exact h.all i h1 h2
  · intro i h1 h2
    simp only [List.length_set] at h2
    rw [hev] at h1
    rw [getD_set_ne _ _ _ _ (by omega), getD_set_ne _ _ _ _ (by omega)]
    exact h.old i (by omega) h2
  · refine EvsOn_snoc (EvsOn_congr (fun j h1 h2 => ?_) h.on) ⟨placed (bodyRec id l) ep (1 + evLen evs), placed (takenRec id) ep (1 + evLen evs + 1), ?_, rfl, rfl, rfl, rfl, rfl, ?_, rfl, rfl, rfl, rfl⟩
    · rw [raw_look, raw_look, getD_set_ne _ _ _ _ (by omega), getD_set_ne _ _ _ _ (by omega)]
    · rw [raw_look, getD_set_ne _ _ _ _ (by omega), getD_set_self _ _ _ (by omega)]
      exact parse_rec _ hb (by show 1 ≤ 2 ∧ 2 ≤ 4; omega)
    · rw [raw_look, getD_set_self _ _ _ (by simp; omega)]
      exact parse_rec _ ht (by show 1 ≤ 3 ∧ 3 ≤ 4; omega)
theorem JE.moved {bs : List (List UInt8)} {ep : Nat} {evs : List Ev} {id rp : Int} (h : JE bs ep evs) (he : ep ≠ 0 ∧ ep < 2 ^ 32) (hi : 1 ≤ id ∧ id ≤ 1000) (hr : rp.toNat < 256) (hok : EvOk (evs.foldl applyEv []) (.moved id rp)) (hl : 2 + evLen evs ≤ bs.length) (hs : bs.length ≤ 1000) :
    JE (bs.set (1 + evLen evs) (movB id rp ep (1 + evLen evs))) ep (evs ++ [.moved id rp]) := by
  have hb : (placed ⟨4, 0, 0, id.toNat, rp.toNat, []⟩ ep (1 + evLen evs)).ok := mov_ok hi hr he.2 (by omega)
  have hev : evLen (evs ++ [.moved id rp]) = evLen evs + 1 := evLen_snoc _ _
  refine ⟨?_, ?_, ?_, ?_, EvsOk_snoc h.ok hok, fun e => absurd e he.1⟩
  · rw [getD_set_ne _ _ _ _ (by omega)]; exact h.hdr
  · intro i h1 h2
    simp only [List.length_set] at h2
    by_cases e2 : i = 1 + evLen evs
    · subst e2
      rw [getD_set_self _ _ _ h2]
      exact .inr ⟨_, rfl, hb, by show 2 ≤ 4 ∧ 4 ≤ 4; omega, by show ep < ep + 1; omega⟩
    · rw [getD_set_ne _ _ _ _ (by omega)]
      exact h.all i h1 h2
  · intro i h1 h2
    simp only [List.length_set] at h2
    rw [hev] at h1
    rw [getD_set_ne _ _ _ _ (by omega)]
    exact h.old i (by omega) h2
  · refine EvsOn_snoc (EvsOn_congr (fun j h1 h2 => ?_) h.on) ⟨placed ⟨4, 0, 0, id.toNat, rp.toNat, []⟩ ep (1 + evLen evs), ?_, rfl, rfl, rfl, rfl, rfl⟩
    · rw [raw_look, raw_look, getD_set_ne _ _ _ _ (by omega)]
    · rw [raw_look, getD_set_self _ _ _ (by omega)]
      exact parse_rec _ hb (by show 1 ≤ 4 ∧ 4 ≤ 4; omega)
/-- What a journal's reader meets at its end. -/
theorem JE.stop {bs : List (List UInt8)} {ep : Nat} {evs : List Ev} {d : DiskM} (h : JE bs ep evs) (hb : d.blocks = bs) (hp : d.pend = none) (hl : 1 + evLen evs < bs.length) : JStop d ep (1 + evLen evs) := by
  obtain ⟨r, ok, h1, h2⟩ := (h.old (1 + evLen evs) (Nat.le_refl _) hl).parse
  refine ⟨r, ok, ?_, .inl ?_⟩
  · rw [← h1]; simp only [DiskM.look, hp, hb]
  · unfold atOk
    cases ok with
    | false => simp
    | true =>
      have := h2 rfl
      simp; intro h; omega
theorem JE.evs {bs : List (List UInt8)} {ep : Nat} {evs : List Ev} {d : DiskM} (h : JE bs ep evs) (hb : d.blocks = bs) (hp : d.pend = none) : EvsOn d ep 1 evs :=
  EvsOn_congr (fun j _ _ => by simp only [DiskM.look, hp, hb, rawD]) h.on
theorem JE.parse0 {bs : List (List UInt8)} {ep : Nat} {evs : List Ev} {d : DiskM} (h : JE bs ep evs) (hb : d.blocks = bs) (hp : d.pend = none) (he : ep < 2 ^ 32) :
    (ep = 0 ∧ ∃ r, parseM (d.look 0) = some (r, false)) ∨ (ep ≠ 0 ∧ parseM (d.look 0) = some (⟨1, ep, 0, 0, 0, []⟩, true)) := by
  have hlk : d.look 0 = bs.getD 0 [] := by simp only [DiskM.look, hp, hb]
  have := h.hdr
  by_cases h0 : ep = 0
  · refine .inl ⟨h0, ?_⟩
    rw [hlk, this, if_pos h0]; exact parse_zer
  · refine .inr ⟨h0, ?_⟩
    rw [hlk, this, if_neg h0]; exact parse_hdrE _ he
theorem append_two {d : DiskM} (ep ix : Nat) (r t : RecM) : (d.append ep ix [r, t]).blocks = (d.blocks.set ix (padB (recBytes (placed r ep ix)))).set (ix + 1) (padB (recBytes (placed t ep (ix + 1)))) ∧ (d.append ep ix [r, t]).pend = none := ⟨rfl, rfl⟩
theorem settle_same {j : JnM} {d : DiskM} (hp : d.pend = none) : (settleD j d).blocks = d.blocks ∧ (settleD j d).pend = none := by
  unfold settleD
  split
  · refine ⟨?_, rfl⟩
    unfold DiskM.flush
    rw [hp]
  · exact ⟨rfl, hp⟩
/-- What sagas may have cost at most. -/
def capSum (l : List SagaM) : Int := (l.map fun g => 2 * (g.steps.length : Int) + 1).sum
theorem capSum_ins (g : SagaM) (l : List SagaM) : capSum (insSaga g l) = 2 * (g.steps.length : Int) + 1 + capSum l := by
  induction l with
  | nil => simp [insSaga, capSum]
  | cons y r ih =>
    unfold insSaga
    split
    · simp [capSum]
    · simp only [capSum, List.map_cons, List.sum_cons] at ih ⊢
      omega
end Go.Proofs.YtkafmfdipmhleaaGreatDoor

namespace Go.Proofs.YtkafmfdipmhleaaGreatDoor
open Go.RowKit Go.Maps
/-- A saga as a journal knows it. -/
def coreG (g : SagaM) : SagaM := { g with tries := 0, due := 0 }
def coreL (l : List SagaM) : List SagaM := l.map coreG
theorem coreL_ord {l : List SagaM} (h : l.Pairwise (fun a b => a.id < b.id)) : (coreL l).Pairwise (fun a b => a.id < b.id) := List.pairwise_map.2 (h.imp (fun h => h))
theorem coreL_capSum (l : List SagaM) : capSum (coreL l) = capSum l := by
  unfold capSum coreL
  rw [List.map_map]; rfl
/-- An engine, and the records of its journal. -/
structure EngJ (s : StM) (evs : List Ev) : Prop where
  je : JE s.d.blocks s.j.epoch evs
  ep : s.j.epoch ≠ 0
  en : s.j.en = 1 + evLen evs
  sg : coreL s.sagas = evs.foldl applyEv []
  cap : (evLen evs : Int) + leftSum s.sagas ≤ capSum s.sagas
def AskM.plain (a : AskM) : Prop := ∀ p c, a.rep p c = 0 ∨ a.rep p c = 1 ∨ a.rep p c = 2
theorem coreL_ins (id : Int) (st : List (ByteArray × ByteArray)) (l : List SagaM) : coreL (insSaga (SagaM.new id st) l) = insSaga (SagaM.new id st) (coreL l) := by
  induction l with
  | nil => rfl
  | cons y r ih =>
    have e : (coreG y).id = y.id := rfl
    simp only [coreL, List.map_cons, insSaga, e] at ih ⊢
    split
    · rfl
    · simp only [List.map_cons, ih]
theorem core_any {l : List SagaM} {id : Int} (hn : ∀ x ∈ l, x.id ≠ id) : ∀ x ∈ coreL l, x.id ≠ id := by
  intro x hx
  obtain ⟨y, hy, rfl⟩ := List.mem_map.1 hx
  exact hn y hy
theorem submit_J {s : StM} {evs : List Ev} {id : Int} {l : List (ByteArray × ByteArray)} (h : EngJ s evs) (hi : s.inv) (hw : wholeB id l = true) (hn : ∀ x ∈ s.sagas, x.id ≠ id) (hroom : (s.j.en : Int) + (2 + (2 * l.length - 1) + leftSum s.sagas) ≤ s.d.blocks.length) : EngJ (s.submit id l) (evs ++ [.taken id l]) := by
  obtain ⟨w1, w2, w3⟩ := whole_small hw
  have hen := h.en
  have hln := leftSum_nonneg s.sagas hi.ok
  have hl1 := w3.1
  obtain ⟨hb, hpd⟩ := settle_same (j := s.j) hi.pend
  have hevok : EvOk (evs.foldl applyEv []) (.taken id l) := by
    refine ⟨?_, w1, w2, w3⟩
    rw [← h.sg]; exact core_any hn
  have hje := h.je.taken (id := id) (l := l) ⟨h.ep, hi.epoch⟩ hevok (by omega) hi.size
  have hev : evLen (evs ++ [.taken id l]) = evLen evs + 2 := evLen_snoc _ _
  obtain ⟨hb2, hp2⟩ := append_two (d := settleD s.j s.d) s.j.epoch s.j.en (bodyRec id l) (takenRec id)
  refine ⟨?_, h.ep, ?_, ?_, ?_⟩
  · show JE ((settleD s.j s.d).append s.j.epoch s.j.en [bodyRec id l, takenRec id]).blocks s.j.epoch _
    rw [hb2, hb, hen]; exact hje
  · show s.j.en + 2 = 1 + evLen _
    rw [hev, hen]; omega
  · show coreL (insSaga (SagaM.new id l) s.sagas) = _
    rw [coreL_ins, h.sg, List.foldl_append]; rfl
  · show (evLen _ : Int) + leftSum (insSaga (SagaM.new id l) s.sagas) ≤ capSum (insSaga (SagaM.new id l) s.sagas)
    rw [insSaga_sum, capSum_ins, new_left, hev]
    have := h.cap
    show ((evLen evs + 2 : Nat) : Int) + (2 * (l.length : Int) - 1 + leftSum s.sagas) ≤ 2 * (l.length : Int) + 1 + capSum s.sagas
    omega
end Go.Proofs.YtkafmfdipmhleaaGreatDoor

namespace Go.Proofs.YtkafmfdipmhleaaGreatDoor
open Go.RowKit Go.Maps
/-- A slice whose steps (the reference's) read as l. -/
def StpR (w : World) (v : Value) (l : List (ByteArray × ByteArray)) : Prop :=
  (l = [] ∧ ∃ a c, v = .slice a 0 c) ∨ ∃ b cap c, v = .slice (some ⟨b, 0, none⟩) l.length cap ∧ w.heap[b]? = some (.cells c 192 (0, 0)) ∧ ∀ j, j < 2 * l.length → c[j]? = (stepCells l)[j]?
/-- A slice of one state. -/
def MayR (w : World) (v : Value) (st step : Int) : Prop := ∃ b cap c, v = .slice (some ⟨b, 0, none⟩) 1 cap ∧ w.heap[b]? = some (.cells c 220 (0, 0)) ∧ c[0]? = some (.int .i64 st) ∧ c[1]? = some (.int .i64 step)
theorem own_frS {w w' : World} {B e size n : Nat} {v : Value} {xs : List Value} {S : Nat → Prop} (h : w.ownsRow B e size v n xs) (hf : Fr S w w') (hS : ∀ k, v.ownBlock = some k → ¬ S k) : w'.ownsRow B e size v n xs := by
  obtain ⟨h1, h2⟩ := h
  refine ⟨h1, ?_⟩
  rcases h2 with h2 | ⟨g, cap, cur, hv, hg, hh, r⟩
  · exact .inl h2
  · exact .inr ⟨g, cap, cur, hv, hg, hf.get hh (hS g (by rw [hv]; rfl)), r⟩
abbrev RefM := SagaM × Value × Value
def rCells (r : RefM) : List Value := [.int .i64 r.1.id, r.2.1, .int .i64 r.1.st, .int .i64 r.1.step, .int .i64 r.1.tries, .int .i64 r.1.due, r.2.2]
def RefOk (w : World) (r : RefM) : Prop := StpR w r.2.1 r.1.steps ∧ MayR w r.2.2 r.1.st r.1.step
def allR (R : List RefM) : List Value := R.flatMap rCells
structure RefAt (w : World) (B : Nat) (v : Value) (R : List RefM) : Prop where
  own : w.ownsRow B 223 7 v R.length (allR R)
  ok : ∀ r ∈ R, RefOk w r
def sagasOf (R : List RefM) : List SagaM := R.map (·.1)
theorem StpR.shape {w : World} {v : Value} {l : List (ByteArray × ByteArray)} (h : StpR w v l) : ∃ a c, v = .slice a l.length c := by
  rcases h with ⟨rfl, a, c, rfl⟩ | ⟨b, cap, _, e, _⟩
  · exact ⟨a, c, rfl⟩
  · exact ⟨_, _, e⟩
theorem StpR.fr {w w' : World} {v : Value} {l : List (ByteArray × ByteArray)} {S : Nat → Prop} (h : StpR w v l) (hf : Fr S w w') (hS : ∀ k, S k → ∃ o, w.heap[k]? = some o ∧ kindOf o ≠ 193) : StpR w' v l := by
  rcases h with h | ⟨b, cap, c, h1, h2, h3⟩
  · exact .inl h
  · refine .inr ⟨b, cap, c, h1, hf.get h2 (fun hs => ?_), h3⟩
    obtain ⟨o, ho, hk⟩ := hS b hs
    rw [h2] at ho; cases ho
    exact hk rfl
theorem StpR.new {w w' : World} {v : Value} {l : List (ByteArray × ByteArray)} (h : StpR w v l) (hf : New w w') : StpR w' v l := h.fr hf (fun _ f => f.elim)
theorem MayR.fr {w w' : World} {v : Value} {a b : Int} {S : Nat → Prop} (h : MayR w v a b) (hf : Fr S w w') (hS : ∀ k, S k → ∃ o, w.heap[k]? = some o ∧ kindOf o ≠ 221) : MayR w' v a b := by
  obtain ⟨g, cap, c, h1, h2, h3⟩ := h
  refine ⟨g, cap, c, h1, hf.get h2 (fun hs => ?_), h3⟩
  obtain ⟨o, ho, hk⟩ := hS g hs
  rw [h2] at ho; cases ho
  exact hk rfl
theorem MayR.new {w w' : World} {v : Value} {a b : Int} (h : MayR w v a b) (hf : New w w') : MayR w' v a b := h.fr hf (fun _ f => f.elim)
theorem RefOk.fr {w w' : World} {r : RefM} {S : Nat → Prop} (h : RefOk w r) (hf : Fr S w w') (hS : ∀ k, S k → ∃ o, w.heap[k]? = some o ∧ kindOf o ∉ [193, 221]) : RefOk w' r :=
  ⟨h.1.fr hf (fun k hk => by obtain ⟨o, h1, h2⟩ := hS k hk; exact ⟨o, h1, by simp at h2; omega⟩), h.2.fr hf (fun k hk => by obtain ⟨o, h1, h2⟩ := hS k hk; exact ⟨o, h1, by simp at h2; omega⟩)⟩
theorem RefAt.fr {w w' : World} {B : Nat} {v : Value} {R : List RefM} {S : Nat → Prop} (h : RefAt w B v R) (hf : Fr S w w') (hS : ∀ k, S k → ∃ o, w.heap[k]? = some o ∧ kindOf o ∉ [193, 221]) (hv : ∀ k, v.ownBlock = some k → ¬ S k) : RefAt w' B v R :=
  ⟨own_frS h.own hf hv, fun r hr => (h.ok r hr).fr hf hS⟩
theorem RefAt.new {w w' : World} {B : Nat} {v : Value} {R : List RefM} (h : RefAt w B v R) (hf : New w w') : RefAt w' B v R := h.fr hf (fun _ f => f.elim) (fun _ _ f => f)
theorem allR_len (R : List RefM) : (allR R).length = R.length * 7 := by
  induction R with
  | nil => rfl
  | cons a R ih => simp [allR, rCells] at ih ⊢; omega
theorem allR_get (R : List RefM) (i : Nat) (r : RefM) (hr : R[i]? = some r) (j : Nat) (u : Value) (hu : (rCells r)[j]? = some u) : (allR R)[i * 7 + j]? = some u := by
  have hj : j < 7 := by
    have := (List.getElem?_eq_some_iff.1 hu).1
    simpa [rCells] using this
  induction R generalizing i with
  | nil => simp at hr
  | cons a R ih =>
    have h7 : (rCells a).length = 7 := rfl
    have hc : allR (a :: R) = rCells a ++ allR R := by simp [allR]
    rw [hc]
    cases i with
    | zero =>
      simp at hr; subst hr
      rw [Nat.zero_mul, Nat.zero_add, List.getElem?_append_left (by omega)]
      exact hu
    | succ i =>
      rw [List.getElem?_append_right (by omega), h7, show (i + 1) * 7 + j - 7 = i * 7 + j by omega]
      exact ih i (by simpa using hr)
theorem RefAt.shape {w : World} {B : Nat} {v : Value} {R : List RefM} (h : RefAt w B v R) : ∃ a c, v = .slice a R.length c := by
  rcases h.own.2 with ⟨h1, h2⟩ | ⟨g, cap, cur, h1, _⟩
  · exact ⟨none, 0, by rw [h1, h2]⟩
  · exact ⟨_, _, h1⟩
/-- The cells of a saga. -/
theorem RefAt.at {w : World} {B n : Nat} {a : Option Addr} {c : Nat} {R : List RefM} (h : RefAt w B (.slice a n c) R) (i : Nat) (r : RefM) (hr : R[i]? = some r) :
    ∃ g, a = some ⟨g, 0, none⟩ ∧ w.cell? ⟨g, i * 7, none⟩ = some (.int .i64 r.1.id) ∧ w.cell? ⟨g, i * 7 + 1, none⟩ = some r.2.1 ∧ w.cell? ⟨g, i * 7 + 2, none⟩ = some (.int .i64 r.1.st) ∧ w.cell? ⟨g, i * 7 + 3, none⟩ = some (.int .i64 r.1.step) ∧ w.cell? ⟨g, i * 7 + 4, none⟩ = some (.int .i64 r.1.tries) ∧ w.cell? ⟨g, i * 7 + 5, none⟩ = some (.int .i64 r.1.due) ∧ w.cell? ⟨g, i * 7 + 6, none⟩ = some r.2.2 := by
  have hi := (List.getElem?_eq_some_iff.1 hr).1
  rcases h.own.2 with ⟨h1, h2⟩ | ⟨g, cap, cur, h1, hg, hh, hn, hq1, hq2, htk⟩
  · omega
  · simp only [Value.slice.injEq] at h1
    have key : ∀ j u, (rCells r)[j]? = some u → w.cell? ⟨g, i * 7 + j, none⟩ = some u := by
      intro j u hu
      have hx := allR_get R i r hr j u hu
      have hlt := (List.getElem?_eq_some_iff.1 hx).1
      rw [allR_len] at hlt
      rw [cellv, hh, cellOf_cells]
      rw [← htk, List.getElem?_take_of_lt (by omega)] at hx
      simpa using hx
    exact ⟨g, h1.1, key 0 _ rfl, key 1 _ rfl, key 2 _ rfl, key 3 _ rfl, key 4 _ rfl, key 5 _ rfl, key 6 _ rfl⟩
/-- Where a saga stands, or would. -/
def findI (L : List SagaM) (x : Int) : Nat := (L.takeWhile fun g => decide (g.id < x)).length
theorem findI_le (L : List SagaM) (x : Int) : findI L x ≤ L.length := by
  unfold findI
  have := (List.takeWhile_prefix (fun g : SagaM => decide (g.id < x)) (l := L)).length_le
  exact this
def thereB (L : List SagaM) (x : Int) : Bool := L.any fun g => decide (g.id = x)
theorem find_lt (L : List SagaM) (x : Int) (k : Nat) (hk : k ≤ L.length) (h : ∀ i g, i < k → L[i]? = some g → g.id < x) : k ≤ findI L x := by
  induction L generalizing k with
  | nil => simp at hk; omega
  | cons a L ih =>
    cases k with
    | zero => omega
    | succ k =>
      have h0 := h 0 a (by omega) rfl
      have := ih k (by simpa using hk) (fun i g hi hg => h (i + 1) g (by omega) (by simpa using hg))
      unfold findI at this ⊢
      rw [List.takeWhile_cons, if_pos (by simpa using h0)]
      simp; omega
theorem find_ge (L : List SagaM) (x : Int) (k : Nat) (g : SagaM) (hg : L[k]? = some g) (hx : x ≤ g.id) : findI L x ≤ k := by
  induction L generalizing k with
  | nil => simp at hg
  | cons a L ih =>
    unfold findI at ih ⊢
    rw [List.takeWhile_cons]
    split
    · rename_i ha
      cases k with
      | zero =>
        simp at hg; subst hg
        simp at ha; omega
      | succ k =>
        have := ih k (by simpa using hg)
        simp; omega
    · simp
theorem there_at {L : List SagaM} (ho : L.Pairwise (fun a b => a.id < b.id)) {x : Int} {k : Nat} {g : SagaM} (hk : findI L x = k) (hg : L[k]? = some g) (hx : x ≤ g.id) : thereB L x = decide (g.id = x) := by
  by_cases e : g.id = x
  · rw [decide_eq_true e]
    unfold thereB
    rw [List.any_eq_true]
    exact ⟨g, List.mem_of_getElem? hg, by simpa using e⟩
  · rw [decide_eq_false e]
    unfold thereB
    rw [List.any_eq_false]
    intro y hy
    simp only [decide_eq_true_eq]
    intro hyx
    obtain ⟨i, hi⟩ := List.getElem?_of_mem hy
    have h1 := find_ge L x i y hi (by omega)
    obtain ⟨p1, q1⟩ := List.getElem?_eq_some_iff.1 hi
    obtain ⟨p2, q2⟩ := List.getElem?_eq_some_iff.1 hg
    by_cases e2 : i = k
    · subst e2
      rw [hi] at hg; cases hg
      exact e hyx
    · have hpw := List.pairwise_iff_getElem.1 ho k i p2 p1 (by omega)
      rw [q1, q2] at hpw
      omega
theorem there_none {L : List SagaM} {x : Int} (h : findI L x = L.length) : thereB L x = false := by
  unfold thereB
  rw [List.any_eq_false]
  intro y hy
  simp only [decide_eq_true_eq]
  intro hyx
  obtain ⟨i, hi⟩ := List.getElem?_of_mem hy
  have h1 := find_ge L x i y hi (by omega)
  have := (List.getElem?_eq_some_iff.1 hi).1
  omega
theorem there_get {L : List SagaM} (ho : L.Pairwise (fun a b => a.id < b.id)) {x : Int} (h : thereB L x = true) : ∃ g, L[findI L x]? = some g ∧ g.id = x := by
  unfold thereB at h
  rw [List.any_eq_true] at h
  obtain ⟨y, hy, hyx⟩ := h
  simp at hyx
  obtain ⟨i, hi⟩ := List.getElem?_of_mem hy
  have h1 := find_ge L x i y hi (by omega)
  obtain ⟨p1, q1⟩ := List.getElem?_eq_some_iff.1 hi
  have h2 := find_lt L x i (by omega) (fun j g hj hg => by
    obtain ⟨p2, q2⟩ := List.getElem?_eq_some_iff.1 hg
    have hpw := List.pairwise_iff_getElem.1 ho j i p2 p1 hj
    rw [q1, q2] at hpw
    omega)
  exact ⟨y, by rw [show findI L x = i by omega]; exact hi, hyx⟩
def engV (pause clock : Int) (lv : Value) : Value := .agg #[.int .i64 pause, .int .i64 clock, .bool false, lv]
def FindPost (w : World) (L : List SagaM) (x : Int) (e : Ending) (w' : World) : Prop := e = .returned (.tuple #[.int .i64 (findI L x : Nat), .bool (thereB L x)]) ∧ New w w'
set_option maxRecDepth 100000 in
set_option maxHeartbeats 2000000 in
/-- Find. -/
theorem Find_calls {w : World} {B : Nat} {lv : Value} {R : List RefM} (h : RefAt w B lv R) (ho : (sagasOf R).Pairwise (fun a b => a.id < b.id)) (hl : R.length ≤ 1000) (pause clock x : Int) :
    Calls Tryz.prog 135 #[engV pause clock lv, .int .i64 x] w (FindPost w (sagasOf R) x) := by
  obtain ⟨a, c, rfl⟩ := h.shape
  have hN : New w (w.alloc (.cells #[.int .i64 pause, .int .i64 clock, .bool false, .slice a R.length c] 163)) := (Fr.refl _ w).alloc _
  have hb := heap_alloc_new w (.cells #[.int .i64 pause, .int .i64 clock, .bool false, .slice a R.length c] 163)
  have H1 := Lib.hid (h.new hN)
  have HN := Lib.hid hN
  have Ho := Lib.hid ho
  have Hl := Lib.hid hl
  have hsl : (sagasOf R).length = R.length := by simp [sagasOf]
  have Hsl := Lib.hid hsl
  unfold engV
  clear h hN ho hl hsl
  go_enter Tryz.func135, Tryz.ntmps135
  go_upto_region 1 with fail
  generalize w.alloc (.cells #[.int .i64 pause, .int .i64 clock, .bool false, .slice a R.length c] 163) = w1 at H1 HN hb ⊢
  have Hb := Lib.hid hb
  clear hb
  go_wp2_with fail
  go_loopw [6] (fun i wr => ∃ k : Nat, k ≤ R.length ∧ i = .int .i64 k ∧ (∀ j g, j < k → (sagasOf R)[j]? = some g → g.id < x) ∧ New w1 wr) (fun i _ => R.length - (intOf i).toNat)
  case atStart => exact ⟨0, Nat.zero_le _, rfl, fun j g hj => by omega, Fr.refl _ _⟩
  case round =>
    obtain ⟨k, hk, rfl, hbe, hf⟩ := hrel
    have Hbe := Lib.hid hbe
    have Hf := Lib.hid hf
    have hbx := hf.get Hb.out (fun f => f)
    have hl30 : R.length ≤ 1000 := Hl.out
    clear hbe hf
    have hcv := cellv wr
    by_cases hkl : k < R.length
    · obtain ⟨r, hr⟩ : ∃ r, R[k]? = some r := ⟨R[k], List.getElem?_eq_getElem hkl⟩
      have hg : (sagasOf R)[k]? = some r.1 := by unfold sagasOf; rw [List.getElem?_map, hr]; rfl
      obtain ⟨g, rfl, c0, c1, c2, c3, c4, c5, c6⟩ := (H1.out.new Hf.out).at k r hr
      have Hg := Lib.hid hg
      have Hkl := Lib.hid hkl
      have hkI : (k : Int) < R.length := by omega
      have hk0 : (0 : Int) ≤ k := by omega
      clear c1 c2 c3 c4 c5 c6 hg hr
      rw [hcv] at c0
      by_cases hx : x ≤ r.1.id
      · have Hx := Lib.hid hx
        go_upto_region 5 with fail
        go_quiet (fail)
        have hf2 := Hf.out.trans ((Fr.refl _ wr).drewN nq)
        clear c0 hcv hbx
        generalize wr.drewN nq = w2 at hf2 ⊢
        go_wp2_with fail
        go_ret2
        have hfi : findI (sagasOf R) x = k := by
          have h1 := find_ge (sagasOf R) x k r.1 Hg.out Hx.out
          have h2 := find_lt (sagasOf R) x k (by have := Hsl.out; have := Hkl.out; omega) Hbe.out
          omega
        refine ⟨?_, HN.out.trans hf2⟩
        rw [hfi, there_at Ho.out hfi Hg.out Hx.out]
        first | rfl | (by_cases e : r.1.id = x <;> simp [e])
      · have Hx := Lib.hid hx
        go_wp2_with fail
        go_roundw
        case rel =>
          refine ⟨k + 1, Hkl.out, by go_num, fun j g' hj hg' => ?_, Hf.out⟩
          by_cases e : j = k
          · subst e
            have := Hg.out
            rw [this] at hg'; cases hg'
            have := Hx.out; omega
          · exact Hbe.out j g' (by omega) hg'
        case measure => have := Hkl.out; simp [intOf]; omega
    · obtain rfl : k = R.length := by omega
      have hkI : ¬ ((R.length : Int) < R.length) := by omega
      go_wp2_with fail
      go_ret2
      have hfi : findI (sagasOf R) x = R.length := by
        have h1 := findI_le (sagasOf R) x
        have h2 := find_lt (sagasOf R) x R.length (by have := Hsl.out; omega) Hbe.out
        have := Hsl.out
        omega
      refine ⟨?_, HN.out.trans Hf.out⟩
      rw [hfi, there_none (by rw [hfi]; exact Hsl.out.symm)]
      rfl
set_option maxRecDepth 100000 in
set_option maxHeartbeats 2000000 in
/-- Has. -/
theorem Has_calls {w : World} {v : Value} {st step : Int} (h : MayR w v st step) :
    Calls Tryz.prog 133 #[v, .agg #[.int .i64 st, .int .i64 step]] w fun e w' => e = .returned (.bool true) ∧ New w w' := by
  obtain ⟨b, cap, c, rfl, hb, h0, h1⟩ := h
  have hN : New w (w.alloc (.cells #[.int .i64 st, .int .i64 step] 220)) := (Fr.refl _ w).alloc _
  have hbb := heap_alloc_new w (.cells #[.int .i64 st, .int .i64 step] 220)
  have hb1 := hN.get hb (fun f => f)
  have HN := Lib.hid hN
  clear hb hN
  go_enter Tryz.func133, Tryz.ntmps133
  go_upto_region 1 with fail
  generalize w.alloc (.cells #[.int .i64 st, .int .i64 step] 220) = w1 at HN hbb hb1 ⊢
  generalize w.heap.size = x at hbb ⊢
  have c0 : w1.cell? ⟨b, 0, none⟩ = some (.int .i64 st) := by rw [cellv, hb1, cellOf_cells]; exact h0
  have c1 : w1.cell? ⟨b, 1, none⟩ = some (.int .i64 step) := by rw [cellv, hb1, cellOf_cells]; exact h1
  have d0 : w1.cell? ⟨x, 0, none⟩ = some (.int .i64 st) := by rw [cellv, hbb]; rfl
  have d1 : w1.cell? ⟨x, 1, none⟩ = some (.int .i64 step) := by rw [cellv, hbb]; rfl
  clear hb1 hbb h0 h1
  go_wp2_with fail
  refine wp_loop_rounds 1 ?_
  rw [rounds_succ]
  go_upto_region 4 with fail
  go_quiet (fail)
  go_wp2_with fail
  go_ret
  exact ⟨rfl, HN.out.trans ((Fr.refl _ w1).drewN nq)⟩
end Go.Proofs.YtkafmfdipmhleaaGreatDoor
