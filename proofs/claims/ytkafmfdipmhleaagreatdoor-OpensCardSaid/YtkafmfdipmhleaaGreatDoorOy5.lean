/-
  What is proved: one saga's turn in a Tick, on whatever disk. the contract of a Tick, on whatever disk. a journal on a disk, with a write that was not flushed, and behind a failure of power; a record more. (No program in sight.) what the turns of a Tick, and a Submit, do to the journal, whatever the disk tells. (No program in sight.) a Submit and a Tick on a disk that tells no errors, and the journal behind a Submit and a Tick on whatever disk. (No program in sight.)
-/
import Derived.Test.YtkafmfdipmhleaaGreatDoorOy4
import Derived.Deep.CutBlock

namespace Go.Proofs.YtkafmfdipmhleaaGreatDoor
open Go.RowKit Go.Maps

theorem Settle_fine {w : World} {jb db bb : Nat} {j : JnM} {d : DiskM} (hj : JnAt w jb db j) (h : DiskAt w db bb d) (hg : Handle w) (h0 : db ≠ 0 ∧ bb ≠ 0 ∧ jb ≠ 0) (hset : j.fresh = false ∨ d.bad = false) :
    Calls Tryz.prog 50 #[.pointer (some ⟨jb, 0, none⟩)] w (SettlePost w jb db bb j d) := by
  refine Calls.mono (Settle_gen hj h hg h0) ?_
  rintro e w' ⟨hf, ⟨_, rfl, h1, h2⟩ | ⟨h1, h2, _⟩⟩
  · exact ⟨rfl, hf, h1, h2⟩
  · rcases hset with h | h
    · rw [h] at h1; cases h1
    · rw [h] at h2; cases h2
theorem StAt.ne0 {w : World} {q : Pl} {bl : List Nat} {s : StM} (h : StAt w q bl s) (hlo : 0 < s.p.lo) : q.db ≠ 0 ∧ q.bb ≠ 0 ∧ q.jb ≠ 0 := by
  have := h.lo
  omega
theorem handle_low {w w' : World} {B : Nat} (h : Handle w) (hf : Low B w w') (h0 : 0 < B) : Handle w' := by
  unfold Handle at h ⊢
  rw [← h]; exact World.cell?_of_block (hf.block 0 h0)
def movRec (g : SagaM) (rp : Int) : RecM := ⟨4, 0, 0, g.id.toNat, rp.toNat, []⟩
/-- A saga is moved, if the disk lets it. -/
def StM.movedG (s : StM) (k : Nat) (g : SagaM) (rp : Int) : StM × Bool :=
  if ((settleD s.j s.d).appendA ⟨s.j.epoch, s.j.en, false⟩ [⟨4, 0, 0, g.id.toNat, rp.toNat, []⟩]).2 then
    ({ s with sagas := s.sagas.set k (g.moved rp), j := ⟨s.j.epoch, s.j.en + 1, false⟩, d := ((settleD s.j s.d).appendA ⟨s.j.epoch, s.j.en, false⟩ [⟨4, 0, 0, g.id.toNat, rp.toNat, []⟩]).1, p := s.p.ask g.call }, true)
  else ({ s with d := ((settleD s.j s.d).appendA ⟨s.j.epoch, s.j.en, false⟩ [⟨4, 0, 0, g.id.toNat, rp.toNat, []⟩]).1, p := s.p.ask g.call }, false)
/-- One saga's turn; was no error told? -/
def StM.stepG (s : StM) (k : Nat) : StM × Bool :=
  match s.sagas[k]? with
  | none => (s, true)
  | some g =>
    if g.waits s.clock = false then (s, true)
    else if s.j.fresh = true ∧ s.d.bad = true then ({ s with d := s.d.count }, false)
    else if g.moves (g.reply s.p) = false then ({ s with sagas := s.sagas.set k (g.paused s.clock s.pause), j := { s.j with fresh := false }, d := settleD s.j s.d, p := s.p.ask g.call }, true)
    else s.movedG k g (g.reply s.p)
theorem movedG_ok {s : StM} {k : Nat} {g : SagaM} {rp : Int} (h : ((settleD s.j s.d).appendA ⟨s.j.epoch, s.j.en, false⟩ [⟨4, 0, 0, g.id.toNat, rp.toNat, []⟩]).2 = true) :
    s.movedG k g rp = ({ s with sagas := s.sagas.set k (g.moved rp), j := ⟨s.j.epoch, s.j.en + 1, false⟩, d := ((settleD s.j s.d).appendA ⟨s.j.epoch, s.j.en, false⟩ [⟨4, 0, 0, g.id.toNat, rp.toNat, []⟩]).1, p := s.p.ask g.call }, true) := by
  unfold StM.movedG; rw [if_pos h]
theorem movedG_bad {s : StM} {k : Nat} {g : SagaM} {rp : Int} (h : ((settleD s.j s.d).appendA ⟨s.j.epoch, s.j.en, false⟩ [⟨4, 0, 0, g.id.toNat, rp.toNat, []⟩]).2 = false) :
    s.movedG k g rp = ({ s with d := ((settleD s.j s.d).appendA ⟨s.j.epoch, s.j.en, false⟩ [⟨4, 0, 0, g.id.toNat, rp.toNat, []⟩]).1, p := s.p.ask g.call }, false) := by
  unfold StM.movedG; rw [if_neg (by rw [h]; decide)]
theorem nset {s : StM} (h : s.j.fresh = false ∨ s.d.bad = false) : ¬ (s.j.fresh = true ∧ s.d.bad = true) := by
  rintro ⟨a, b⟩; rcases h with h | h
  · rw [h] at a; cases a
  · rw [h] at b; cases b
theorem stepG_vain {s : StM} {k : Nat} {g : SagaM} (hg : s.sagas[k]? = some g) (hw : g.waits s.clock = true) (hset : s.j.fresh = false ∨ s.d.bad = false) (hm : g.moves (g.reply s.p) = false) :
    s.stepG k = ({ s with sagas := s.sagas.set k (g.paused s.clock s.pause), j := { s.j with fresh := false }, d := settleD s.j s.d, p := s.p.ask g.call }, true) := by
  simp only [StM.stepG, hg, hw, hm, if_neg (nset hset), Bool.true_eq_false, if_false, if_true]
theorem stepG_moved {s : StM} {k : Nat} {g : SagaM} (hg : s.sagas[k]? = some g) (hw : g.waits s.clock = true) (hset : s.j.fresh = false ∨ s.d.bad = false) (hm : g.moves (g.reply s.p) = true) :
    s.stepG k = s.movedG k g (g.reply s.p) := by
  simp only [StM.stepG, hg, hw, hm, if_neg (nset hset), Bool.true_eq_false, if_false]
theorem stepG_unset {s : StM} {k : Nat} {g : SagaM} (hg : s.sagas[k]? = some g) (hw : g.waits s.clock = true) (h : s.j.fresh = true ∧ s.d.bad = true) : s.stepG k = ({ s with d := s.d.count }, false) := by
  simp only [StM.stepG, hg, hw, if_pos h, Bool.true_eq_false, if_false]
set_option maxRecDepth 100000 in
set_option maxHeartbeats 4000000 in
/-- It is asked in vain. -/
theorem tick_vain_g (q : Pl) (bl : List Nat) (s : StM) (k : Nat) (g : SagaM) (b ib len cap : Nat) (W : World) (hs : StAt W q bl s) (hi : s.inv0) (hgl : Handle W) (hlo : 0 < s.p.lo) (hset : s.j.fresh = false ∨ s.d.bad = false) (hg : s.sagas[k]? = some g) (hb : bl[k]? = some b) (hbo : blkOfId (ilOf s.sagas bl) g.id = some b) (hgi : 1 ≤ g.id ∧ g.id ≤ 1000)
    (hid : W.cell? ⟨ib, k, none⟩ = some (.int .i64 g.id)) (hk : k < len) (hw : g.waits s.clock = true) (hgo : g.ok) (hst : g.st = 1 ∨ g.st = 2) (hsm : s.p.small) (hm : g.moves (g.reply s.p) = false)
    {ds : List Deferred} {x1 x2 x3 x4 x5 x6 x7 x8 x9 x10 x11 x12 x13 x14 x15 x16 x17 x18 x19 x20 x21 x22 x23 x24 x25 x27 x29 x30 x31 x32 x33 x34 x35 x36 x37 x38 x39 x40 x41 x42 x43 x44 x45 x46 x47 x48 x49 x50 x51 x52 x53 x54 x55 x56 x57 x58 x59 x60 x61 x62 x63 x64 x65 x66 x67 x68 x69 x70 x71 x72 x73 x74 x75 x76 x77 x78 x79 x80 x81 x82 x83 x84 x85 x86 : Value} {Q : Exit → Act → World → Prop}
    (hQ : ∀ (y4 y5 y6 y7 y8 y30 y31 y32 y33 y34 y35 y36 y37 y38 y39 y40 y41 y42 y43 y44 y45 y46 y47 y48 y49 y50 y51 y52 y53 y54 y55 y56 y57 y58 y59 y60 y61 y62 y63 y64 y65 y66 y67 y68 y69 y70 y71 y72 y73 y74 y75 y76 y77 y78 y79 y80 y81 y82 y83 y84 y85 : Value) (w' : World), StAt w' q bl (s.stepG k).1 → FrK KT W w' → Low s.p.lo W w' → Q .normal ⟨#[.pointer (some ⟨q.xb, 0, none⟩), x1, x2, x3, y4, y5, y6, y7, y8, x9, x10, x11, x12, x13, x14, x15, x16, x17, x18, x19, x20, x21, x22, x23, x24, x25, .slice (some ⟨ib, 0, none⟩) len cap, x27, .int .i64 k, x29, y30, y31, y32, y33, y34, y35, y36, y37, y38, y39, y40, y41, y42, y43, y44, y45, y46, y47, y48, y49, y50, y51, y52, y53, y54, y55, y56, y57, y58, y59, y60, y61, y62, y63, y64, y65, y66, y67, y68, y69, y70, y71, y72, y73, y74, y75, y76, y77, y78, y79, y80, y81, y82, y83, y84, y85, x86], ds⟩ w') :
    Code.wp Tryz.prog tickB1 Q ⟨#[.pointer (some ⟨q.xb, 0, none⟩), x1, x2, x3, x4, x5, x6, x7, x8, x9, x10, x11, x12, x13, x14, x15, x16, x17, x18, x19, x20, x21, x22, x23, x24, x25, .slice (some ⟨ib, 0, none⟩) len cap, x27, .int .i64 k, x29, x30, x31, x32, x33, x34, x35, x36, x37, x38, x39, x40, x41, x42, x43, x44, x45, x46, x47, x48, x49, x50, x51, x52, x53, x54, x55, x56, x57, x58, x59, x60, x61, x62, x63, x64, x65, x66, x67, x68, x69, x70, x71, x72, x73, x74, x75, x76, x77, x78, x79, x80, x81, x82, x83, x84, x85, x86], ds⟩ W := by
  have hlk := look_some hs.mp g.id (by omega) hbo
  have hx := hs.eng
  have HW := Lib.hid (Waits_calls (hs.sg k g b hg hb) s.clock)
  rw [hw] at HW
  have HS := Lib.hid (Settle_fine hs.jn hs.dk hgl (StAt.ne0 hs hlo) hset)
  have hstep : Hid ((s.stepG k).1 = { s with sagas := s.sagas.set k (g.paused s.clock s.pause), j := { s.j with fresh := false }, d := settleD s.j s.d, p := s.p.ask g.call }) := by
    show _ = _
    rw [stepG_vain hg hw hset hm]
  have hkI : (k : Int) < len := by omega
  have hk0 : (0 : Int) ≤ k := by omega
  have HQ := Lib.hid hQ
  have Hs := Lib.hid hs
  have Hg := Lib.hid hg
  have Hb := Lib.hid hb
  have Hgo := Lib.hid hgo
  have Hst := Lib.hid hst
  have Hsm := Lib.hid hsm
  have Hm := Lib.hid hm
  have Hx := Lib.hid hx
  simp only [egCells] at hx
  clear hs hg hb hbo hgi hk hw hQ hgo hst hsm hm hi hgl hlo hset
  have hcv := cellv W
  conv => arg 2; whnf
  go_upto_region 13 with (first
    | (go_at_call 49; refine Calls.mono HW.out ?_; rintro e w2 ⟨rfl, rfl⟩)
    | (go_at_call 50; refine Calls.mono HS.out ?_; rintro e w2 ⟨rfl, hf2, hd2, hj2⟩)
    | fail)
  have hfk2 : FrK [103, 104, 133] W w2 := hf2.toK (by
    obtain ⟨_, _, _, _, e1, e2, _⟩ := Hs.out.dk
    have e3 := Hs.out.jn
    rintro x o (rfl | rfl | rfl) ho
    · rw [e1] at ho; cases ho; simp [kindOf]
    · rw [e2] at ho; cases ho; simp [kindOf]
    · rw [e3] at ho; cases ho; simp [kindOf])
  have Hfk2 := Lib.hid hfk2
  have HL2 : Hid (Low s.p.lo W w2 ∧ s.p.lo ≤ w2.heap.size) := ⟨hf2.low Hs.out.size (by
    have h0 := Hs.out.lo
    rintro k (rfl | rfl | rfl)
    · exact h0.2.2.2.1
    · exact h0.2.2.2.2.1
    · exact h0.2.1), Nat.le_trans Hs.out.size hf2.size⟩
  have Hg2 := Lib.hid ((Hs.out.sg k g b Hg.out Hb.out).keepK hfk2 (by decide) (by decide))
  have Hx2 := Lib.hid (hfk2.block _ _ Hx.out (by simp [kindOf]))
  have Hp2 := Lib.hid (Hs.out.pt.keepK hfk2 (by decide) (by decide) (by decide) (by decide))
  have Hd2 := Lib.hid hd2
  have Hj2 := Lib.hid hj2
  have hkk : ∃ kk : Nat, g.step = (kk : Int) + 1 ∧ kk < g.steps.length := by
    obtain ⟨_, _, _, _, h | h⟩ := Hgo.out
    · exact ⟨(g.step - 1).toNat, by omega, by omega⟩
    · rcases h.1 with e | e <;> rcases Hst.out with e' | e' <;> omega
  obtain ⟨kk, hk1, hk2⟩ := hkk
  have hl6 : g.steps.length ≤ 100 := by have := Hgo.out.2.2.1.2.1; omega
  have HC := Lib.hid (Call_calls Hg2.out Hst.out kk hk1 hk2 hl6)
  clear hf2 hfk2 hd2 hj2 hx hcv hk1 hk2 hl6 hlk hid
  go_upto_region 14 with (first
    | (go_at_call 52; refine Calls.mono HC.out ?_; rintro e w3 ⟨rfl, hf3⟩)
    | (go_at_call 51; refine Calls.mono (ask_calls g.call s.p (hf3.get Hx2.out (fun f => f)) (Hp2.out.keep hf3.size (fun k o ho _ => hf3.get ho (fun f => f))) Hsm.out) ?_; rintro e w4 ⟨rfl, hp4, hf4, ho4⟩)
    | fail)
  have hO4 : Low s.p.lo W w4 := HL2.out.1.trans ((hf3.low HL2.out.2 (fun _ f => f.elim)).trans ho4)
  have HO4 := Lib.hid hO4
  have hf3s : Hid (w2.heap.size ≤ w3.heap.size) := hf3.size
  have hf4s : Hid (w3.heap.size ≤ w4.heap.size) := hf4.size
  clear hO4 ho4
  have hfk4 : FrK [45, 47, 49] w2 w4 := (hf3.toK (fun _ _ f _ => f.elim)).trans hf4
  have Hfk4 := Lib.hid hfk4
  have Hp4 := Lib.hid hp4
  have Hg4 := Lib.hid (Hg2.out.keepK hfk4 (by decide) (by decide))
  have Hx4 := Lib.hid (hfk4.block _ _ Hx2.out (by simp [kindOf]))
  have Hj4 := Lib.hid (Hj2.out.keepK hfk4 (by decide))
  have Hd4 := Lib.hid (Hd2.out.keepK hfk4 (by decide) (by decide) (by decide))
  have Hrp : Hid (replyM (s.p.knows g.call) g.call.back s.p.k = g.reply s.p) := rfl
  rw [Hrp.out]
  have HM := Lib.hid (Moves_calls Hg4.out (g.reply s.p))
  rw [Hm.out] at HM
  clear hf3 hp4 hf4 hfk4
  go_upto_region 15 with (first
    | (go_at_call 53; refine Calls.mono HM.out ?_; rintro e w5 ⟨rfl, rfl⟩)
    | fail)
  refine tick_r15 q.xb b q.jb q.mb s.pause s.clock (askFn q.pb) g w4 Hx4.out Hg4.out Hgo.out.2.2.2.1 ?_
  intro y64 y65 y66 y67 y68 y69 y70 y71 y72 y73 w6 hf6 hs6
  have hfk6 : FrK [89] w4 w6 := hf6.toK (by
    obtain ⟨_, e1, _⟩ := Hg4.out
    rintro x o rfl ho
    rw [e1] at ho; cases ho; simp [kindOf])
  have hall : FrK KT W w6 := ((Hfk2.out.mono (by decide)).trans (Hfk4.out.mono (by decide))).trans (hfk6.mono (by decide))
  have Hall := Lib.hid hall
  have HO6 := Lib.hid (HO4.out.trans (hf6.low (Nat.le_trans HL2.out.2 (Nat.le_trans hf3s.out hf4s.out)) (by
    rintro k rfl
    exact Hs.out.lo.2.2.2.2.2 _ (List.mem_of_getElem? Hb.out))))
  have Hfk6 := Lib.hid hfk6
  have Hf6 := Lib.hid hf6
  have Hs6 := Lib.hid hs6
  clear hfk6 hall hf6 hs6
  go_wp2_with fail
  refine HQ.out  _ _ _ _ _ _ _ _ _ _ _ _ _ _ _ _ _ _ _ _ _ _ _ _ _ _ _ _ _ _ _ _ _ _ _ _ _ _ _ _ _ _ _ _ _ _ _ _ _ _ _ _ _ _ _ _ _ _ _ _ _ w6 ?_ Hall.out HO6.out
  rw [hstep.out]
  have hlen := (List.getElem?_eq_some_iff.1 Hg.out).1
  have hsg4 := sgs_keepK (sgs_keepK Hs.out.sg Hfk2.out (by decide) (by decide)) Hfk4.out (by decide) (by decide)
  refine ⟨Hfk6.out.block _ _ Hx4.out (by simp [kindOf]), Hj4.out.keepK Hfk6.out (by decide), Hd4.out.keepK Hfk6.out (by decide) (by decide) (by decide), Hp4.out.keepK Hfk6.out (by decide) (by decide) (by decide) (by decide), ?_, ?_, ?_, Hs.out.nd, Hs.out.lo⟩
  · simp only
    rw [il_set s.sagas bl k g (g.paused s.clock s.pause) Hg.out rfl, List.length_set]
    exact map_keepK (map_keepK (map_keepK Hs.out.mp Hfk2.out (by decide)) Hfk4.out (by decide)) Hfk6.out (by decide)
  · simp only
    rw [List.length_set]; exact Hs.out.len
  · exact sgs_set hsg4 Hs.out.nd Hb.out hlen Hf6.out Hs6.out
set_option maxRecDepth 100000 in
set_option maxHeartbeats 4000000 in
/-- It is asked, and moved. -/
theorem tick_moved_g (q : Pl) (bl : List Nat) (s : StM) (k : Nat) (g : SagaM) (b ib len cap : Nat) (W : World) (hs : StAt W q bl s) (hi : s.inv0) (hgl : Handle W) (hlo : 0 < s.p.lo) (hset : s.j.fresh = false ∨ s.d.bad = false) (hg : s.sagas[k]? = some g) (hb : bl[k]? = some b) (hbo : blkOfId (ilOf s.sagas bl) g.id = some b) (hgi : 1 ≤ g.id ∧ g.id ≤ 1000)
    (hid : W.cell? ⟨ib, k, none⟩ = some (.int .i64 g.id)) (hk : k < len) (hw : g.waits s.clock = true) (hgo : g.ok) (hst : g.st = 1 ∨ g.st = 2) (hsm : s.p.small) (hroom : s.j.en + 1 ≤ s.d.blocks.length) (hm : g.moves (g.reply s.p) = true)
    {ds : List Deferred} {x1 x2 x3 x4 x5 x6 x7 x8 x9 x10 x11 x12 x13 x14 x15 x16 x17 x18 x19 x20 x21 x22 x23 x24 x25 x27 x29 x30 x31 x32 x33 x34 x35 x36 x37 x38 x39 x40 x41 x42 x43 x44 x45 x46 x47 x48 x49 x50 x51 x52 x53 x54 x55 x56 x57 x58 x59 x60 x61 x62 x63 x64 x65 x66 x67 x68 x69 x70 x71 x72 x73 x74 x75 x76 x77 x78 x79 x80 x81 x82 x83 x84 x85 x86 : Value} {Q : Exit → Act → World → Prop}
    (hQ : ∀ (y4 y5 y6 y7 y8 y30 y31 y32 y33 y34 y35 y36 y37 y38 y39 y40 y41 y42 y43 y44 y45 y46 y47 y48 y49 y50 y51 y52 y53 y54 y55 y56 y57 y58 y59 y60 y61 y62 y63 y64 y65 y66 y67 y68 y69 y70 y71 y72 y73 y74 y75 y76 y77 y78 y79 y80 y81 y82 y83 y84 y85 : Value) (w' : World), (s.stepG k).2 = true → StAt w' q bl (s.stepG k).1 → FrK KT W w' → Low s.p.lo W w' → Q .normal ⟨#[.pointer (some ⟨q.xb, 0, none⟩), x1, x2, x3, y4, y5, y6, y7, y8, x9, x10, x11, x12, x13, x14, x15, x16, x17, x18, x19, x20, x21, x22, x23, x24, x25, .slice (some ⟨ib, 0, none⟩) len cap, x27, .int .i64 k, x29, y30, y31, y32, y33, y34, y35, y36, y37, y38, y39, y40, y41, y42, y43, y44, y45, y46, y47, y48, y49, y50, y51, y52, y53, y54, y55, y56, y57, y58, y59, y60, y61, y62, y63, y64, y65, y66, y67, y68, y69, y70, y71, y72, y73, y74, y75, y76, y77, y78, y79, y80, y81, y82, y83, y84, y85, x86], ds⟩ w')
    (hQr : ∀ (y2 y4 y5 y6 y7 y8 y30 y31 y32 y33 y34 y35 y36 y37 y38 y39 y40 y41 y42 y43 y44 y45 y46 y47 y48 y49 y50 y51 y52 y53 y54 y55 y56 y57 y58 y59 y60 y61 y62 y63 y64 y65 y66 y67 y68 y69 y70 y71 y72 y73 y74 y75 y76 y77 y78 y79 y80 y81 y82 y83 y84 y85 : Value) (w' : World), (s.stepG k).2 = false → (∃ nb, y2 = .iface 121 (.pointer (some ⟨nb, 0, none⟩))) → FailAt w' q (s.stepG k).1 (s.stepG k).1.d → FrK KT W w' → Low s.p.lo W w' → Q .ret ⟨#[.pointer (some ⟨q.xb, 0, none⟩), x1, y2, x3, y4, y5, y6, y7, y8, x9, x10, x11, x12, x13, x14, x15, x16, x17, x18, x19, x20, x21, x22, x23, x24, x25, .slice (some ⟨ib, 0, none⟩) len cap, x27, .int .i64 k, x29, y30, y31, y32, y33, y34, y35, y36, y37, y38, y39, y40, y41, y42, y43, y44, y45, y46, y47, y48, y49, y50, y51, y52, y53, y54, y55, y56, y57, y58, y59, y60, y61, y62, y63, y64, y65, y66, y67, y68, y69, y70, y71, y72, y73, y74, y75, y76, y77, y78, y79, y80, y81, y82, y83, y84, y85, x86], ds⟩ w') :
    Code.wp Tryz.prog tickB1 Q ⟨#[.pointer (some ⟨q.xb, 0, none⟩), x1, x2, x3, x4, x5, x6, x7, x8, x9, x10, x11, x12, x13, x14, x15, x16, x17, x18, x19, x20, x21, x22, x23, x24, x25, .slice (some ⟨ib, 0, none⟩) len cap, x27, .int .i64 k, x29, x30, x31, x32, x33, x34, x35, x36, x37, x38, x39, x40, x41, x42, x43, x44, x45, x46, x47, x48, x49, x50, x51, x52, x53, x54, x55, x56, x57, x58, x59, x60, x61, x62, x63, x64, x65, x66, x67, x68, x69, x70, x71, x72, x73, x74, x75, x76, x77, x78, x79, x80, x81, x82, x83, x84, x85, x86], ds⟩ W := by
  have hlk := look_some hs.mp g.id (by omega) hbo
  have hx := hs.eng
  have HW := Lib.hid (Waits_calls (hs.sg k g b hg hb) s.clock)
  rw [hw] at HW
  have HS := Lib.hid (Settle_fine hs.jn hs.dk hgl (StAt.ne0 hs hlo) hset)
  have hstep : Hid (s.stepG k = s.movedG k g (g.reply s.p)) := by
    show _ = _
    exact stepG_moved hg hw hset hm
  have hkI : (k : Int) < len := by omega
  have hk0 : (0 : Int) ≤ k := by omega
  have HQ := Lib.hid hQ
  have Hs := Lib.hid hs
  have Hg := Lib.hid hg
  have Hb := Lib.hid hb
  have Hgo := Lib.hid hgo
  have Hst := Lib.hid hst
  have Hsm := Lib.hid hsm
  have Hm := Lib.hid hm
  have Hroom := Lib.hid hroom
  have Hi := Lib.hid hi
  have Hgi := Lib.hid hgi
  have Hx := Lib.hid hx
  simp only [egCells] at hx
  have HQr := Lib.hid hQr
  have Hgl := Lib.hid hgl
  have Hlo := Lib.hid hlo
  clear hs hg hb hbo hgi hk hw hQ hQr hgo hst hsm hm hi hroom hgl hlo hset
  have hcv := cellv W
  conv => arg 2; whnf
  go_upto_region 13 with (first
    | (go_at_call 49; refine Calls.mono HW.out ?_; rintro e w2 ⟨rfl, rfl⟩)
    | (go_at_call 50; refine Calls.mono HS.out ?_; rintro e w2 ⟨rfl, hf2, hd2, hj2⟩)
    | fail)
  have hfk2 : FrK [103, 104, 133] W w2 := hf2.toK (by
    obtain ⟨_, _, _, _, e1, e2, _⟩ := Hs.out.dk
    have e3 := Hs.out.jn
    rintro x o (rfl | rfl | rfl) ho
    · rw [e1] at ho; cases ho; simp [kindOf]
    · rw [e2] at ho; cases ho; simp [kindOf]
    · rw [e3] at ho; cases ho; simp [kindOf])
  have Hfk2 := Lib.hid hfk2
  have HL2 : Hid (Low s.p.lo W w2 ∧ s.p.lo ≤ w2.heap.size) := ⟨hf2.low Hs.out.size (by
    have h0 := Hs.out.lo
    rintro k (rfl | rfl | rfl)
    · exact h0.2.2.2.1
    · exact h0.2.2.2.2.1
    · exact h0.2.1), Nat.le_trans Hs.out.size hf2.size⟩
  have Hg2 := Lib.hid ((Hs.out.sg k g b Hg.out Hb.out).keepK hfk2 (by decide) (by decide))
  have Hx2 := Lib.hid (hfk2.block _ _ Hx.out (by simp [kindOf]))
  have Hp2 := Lib.hid (Hs.out.pt.keepK hfk2 (by decide) (by decide) (by decide) (by decide))
  have Hd2 := Lib.hid hd2
  have Hj2 := Lib.hid hj2
  have hkk : ∃ kk : Nat, g.step = (kk : Int) + 1 ∧ kk < g.steps.length := by
    obtain ⟨_, _, _, _, h | h⟩ := Hgo.out
    · exact ⟨(g.step - 1).toNat, by omega, by omega⟩
    · rcases h.1 with e | e <;> rcases Hst.out with e' | e' <;> omega
  obtain ⟨kk, hk1, hk2⟩ := hkk
  have hl6 : g.steps.length ≤ 100 := by have := Hgo.out.2.2.1.2.1; omega
  have HC := Lib.hid (Call_calls Hg2.out Hst.out kk hk1 hk2 hl6)
  clear hf2 hfk2 hd2 hj2 hx hcv hk1 hk2 hl6 hlk hid
  go_upto_region 14 with (first
    | (go_at_call 52; refine Calls.mono HC.out ?_; rintro e w3 ⟨rfl, hf3⟩)
    | (go_at_call 51; refine Calls.mono (ask_calls g.call s.p (hf3.get Hx2.out (fun f => f)) (Hp2.out.keep hf3.size (fun k o ho _ => hf3.get ho (fun f => f))) Hsm.out) ?_; rintro e w4 ⟨rfl, hp4, hf4, ho4⟩)
    | fail)
  have hO4 : Low s.p.lo W w4 := HL2.out.1.trans ((hf3.low HL2.out.2 (fun _ f => f.elim)).trans ho4)
  have HO4 := Lib.hid hO4
  have hf3s : Hid (w2.heap.size ≤ w3.heap.size) := hf3.size
  have hf4s : Hid (w3.heap.size ≤ w4.heap.size) := hf4.size
  clear hO4 ho4
  have hfk4 : FrK [45, 47, 49] w2 w4 := (hf3.toK (fun _ _ f _ => f.elim)).trans hf4
  have Hfk4 := Lib.hid hfk4
  have Hp4 := Lib.hid hp4
  have Hg4 := Lib.hid (Hg2.out.keepK hfk4 (by decide) (by decide))
  have Hx4 := Lib.hid (hfk4.block _ _ Hx2.out (by simp [kindOf]))
  have Hj4 := Lib.hid (Hj2.out.keepK hfk4 (by decide))
  have Hd4 := Lib.hid (Hd2.out.keepK hfk4 (by decide) (by decide) (by decide))
  have Hrp : Hid (replyM (s.p.knows g.call) g.call.back s.p.k = g.reply s.p) := rfl
  rw [Hrp.out]
  have HM := Lib.hid (Moves_calls Hg4.out (g.reply s.p))
  rw [Hm.out] at HM
  clear hf3 hp4 hf4 hfk4
  have Hrp2 : Hid (g.reply s.p = 0 ∨ g.reply s.p = 2) := by
    have := Hm.out
    simp [SagaM.moves] at this
    exact this.imp id (fun h => h.1)
  generalize g.reply s.p = rp at Hm HM Hrp2 hstep HQ HQr ⊢
  go_upto_region 16 with (first
    | (go_at_call 53; refine Calls.mono HM.out ?_; rintro e w5 ⟨rfl, rfl⟩)
    | fail)
  have hN4 : New w4 (w4.alloc (.cells #[.int .u8 4, .int .u32 0, .int .i64 0, .int .i64 g.id, .int .i64 rp, .slice none 0 0] 91)) := (Fr.refl _ _).alloc _
  have hlb := heap_alloc_new w4 (.cells #[.int .u8 4, .int .u32 0, .int .i64 0, .int .i64 g.id, .int .i64 rp, .slice none 0 0] 91)
  have hrec : RecsAt (w4.alloc (.cells #[.int .u8 4, .int .u32 0, .int .i64 0, .int .i64 g.id, .int .i64 rp, .slice none 0 0] 91)) w4.heap.size [⟨4, 0, 0, g.id.toNat, rp.toNat, []⟩] := by
    have h1 := Hgi.out
    have h2 := Hrp2.out
    refine ⟨?_, _, hlb, ?_⟩
    · intro r hr ep ix hep hix
      simp at hr
      subst hr
      exact ⟨by show 4 < 256; omega, hep, hix, by show g.id.toNat < 65536; omega, by show rp.toNat < 256; omega, fun _ => rfl, fun h => by simp [placed] at h⟩
    · intro k r hr
      cases k with
      | succ k => simp at hr
      | zero =>
        simp at hr
        subst hr
        refine ⟨.slice none 0 0, ⟨none, 0, 0, rfl⟩, fun h => by simp at h, fun i hi => ?_⟩
        have e1 : ((g.id.toNat : Nat) : Int) = g.id := by omega
        have e2 : ((rp.toNat : Nat) : Int) = rp := by omega
        simp only [rcells, Nat.zero_mul, Nat.zero_add, e1, e2]
        rfl
  have hpend : (settleD s.j s.d).pend = none := settle_pend' _ _ Hi.out.pend
  have hlen1 : (settleD s.j s.d).blocks.length = s.d.blocks.length := settle_len' _ _
  have hg4 : Handle (w4.alloc (.cells #[.int .u8 4, .int .u32 0, .int .i64 0, .int .i64 g.id, .int .i64 rp, .slice none 0 0] 91)) := (handle_low Hgl.out HO4.out Hlo.out).new hN4
  have HWr := Lib.hid (write_gen (cap := 1) (hN4.get Hx4.out (fun f => f)) (hN4.get Hj4.out (fun f => f)) (Hd4.out.new hN4) hg4 (StAt.ne0 Hs.out Hlo.out) (fun _ => hpend) hrec rfl Hi.out.epoch (by rw [hlen1]; exact Hroom.out) (by rw [hlen1]; exact Hi.out.size))
  have HN4 := Lib.hid hN4
  clear hN4 hlb hrec hpend hlen1 hg4
  go_upto_region 19 with (first
    | (go_at_call 46; refine Calls.mono HWr.out ?_; rintro e w6 ⟨hf6, ⟨hok6, rfl, hd6, hj6, hx6⟩ | ⟨hok6, ⟨op, nb, hnb, rfl, hnbw⟩, hd6, hx6⟩⟩)
    | fail)
  rotate_left 1
  focus
    have hfk6 : FrK [103, 104, 133, 80] w4 w6 := (HN4.out.toK (fun _ _ f _ => f.elim)).trans (hf6.toK (by
      obtain ⟨_, _, _, _, e1, e2, _⟩ := Hd4.out
      have e3 := Hj4.out
      have e4 := Hx4.out
      have n1 := HN4.out.get e1 (fun f => f)
      have n2 := HN4.out.get e2 (fun f => f)
      have n3 := HN4.out.get e3 (fun f => f)
      have n4 := HN4.out.get e4 (fun f => f)
      rintro x o (rfl | rfl | rfl | rfl) ho
      · rw [n1] at ho; cases ho; simp [kindOf]
      · rw [n2] at ho; cases ho; simp [kindOf]
      · rw [n3] at ho; cases ho; simp [kindOf]
      · rw [n4] at ho; cases ho; simp [kindOf]))
    have HL6 : Hid (Low s.p.lo w4 w6) := by
      have hz : s.p.lo ≤ w4.heap.size := Nat.le_trans HL2.out.2 (Nat.le_trans hf3s.out hf4s.out)
      refine (HN4.out.low hz (fun _ f => f.elim)).trans (hf6.low (Nat.le_trans hz HN4.out.size) ?_)
      have h0 := Hs.out.lo
      rintro k (rfl | rfl | rfl | rfl)
      · exact h0.2.2.2.1
      · exact h0.2.2.2.2.1
      · exact h0.2.1
      · exact h0.1
    have Hfk6 := Lib.hid hfk6
    have hall : FrK KT W w6 := (((Hfk2.out.mono (by decide)).trans (Hfk4.out.mono (by decide))).trans (Hfk6.out.mono (by decide)))
    have Hall := Lib.hid hall
    have hp6 := Hp4.out.keepK hfk6 (by decide) (by decide) (by decide) (by decide)
    have Hp6 := Lib.hid hp6
    have Hd6 := Lib.hid hd6
    have Hx6 := Lib.hid hx6
    have Hok6 := Lib.hid hok6
    clear hf6 hd6 hx6 hfk6 hall hp6 hok6 hnb hnbw
    go_wp2_with fail
    refine HQr.out _ _ _ _ _ _ _ _ _ _ _ _ _ _ _ _ _ _ _ _ _ _ _ _ _ _ _ _ _ _ _ _ _ _ _ _ _ _ _ _ _ _ _ _ _ _ _ _ _ _ _ _ _ _ _ _ _ _ _ _ _ _ w6 ?_ ⟨nb, rfl⟩ ?_ Hall.out (HO4.out.trans HL6.out)
    · rw [hstep.out, movedG_bad Hok6.out]
    · rw [hstep.out, movedG_bad Hok6.out]; exact ⟨Hx6.out, Hd6.out, Hp6.out⟩
  have hfk6 : FrK [103, 104, 133, 80] w4 w6 := (HN4.out.toK (fun _ _ f _ => f.elim)).trans (hf6.toK (by
    obtain ⟨_, _, _, _, e1, e2, _⟩ := Hd4.out
    have e3 := Hj4.out
    have e4 := Hx4.out
    have n1 := HN4.out.get e1 (fun f => f)
    have n2 := HN4.out.get e2 (fun f => f)
    have n3 := HN4.out.get e3 (fun f => f)
    have n4 := HN4.out.get e4 (fun f => f)
    rintro x o (rfl | rfl | rfl | rfl) ho
    · rw [n1] at ho; cases ho; simp [kindOf]
    · rw [n2] at ho; cases ho; simp [kindOf]
    · rw [n3] at ho; cases ho; simp [kindOf]
    · rw [n4] at ho; cases ho; simp [kindOf]))
  have Hfk6 := Lib.hid hfk6
  have Hg6 := Lib.hid (Hg4.out.keepK hfk6 (by decide) (by decide))
  have HL6 : Hid (Low s.p.lo w4 w6) := by
    have hz : s.p.lo ≤ w4.heap.size := Nat.le_trans HL2.out.2 (Nat.le_trans hf3s.out hf4s.out)
    refine (HN4.out.low hz (fun _ f => f.elim)).trans (hf6.low (Nat.le_trans hz HN4.out.size) ?_)
    have h0 := Hs.out.lo
    rintro k (rfl | rfl | rfl | rfl)
    · exact h0.2.2.2.1
    · exact h0.2.2.2.2.1
    · exact h0.2.1
    · exact h0.1
  have Hd6 := Lib.hid hd6
  have Hok6 := Lib.hid hok6
  have Hj6 := Lib.hid hj6
  have Hx6 := Lib.hid hx6
  have hst1 : 1 ≤ g.step ∧ g.step ≤ 100 := by
    obtain ⟨_, _, hsm, _, h | h⟩ := Hgo.out
    · have := hsm.2.1; omega
    · rcases h.1 with e | e <;> rcases Hst.out with e' | e' <;> omega
  have HMv := Lib.hid (Move_calls Hg6.out Hst.out hst1 rp)
  clear hf6 hd6 hj6 hx6 hfk6 hst1 hok6
  go_wp2_with (first
    | (go_at_call 55; refine Calls.mono HMv.out ?_; rintro e w7 ⟨rfl, hf7, hs7⟩)
    | fail)
  have hfk7 : FrK [89] w6 w7 := hf7.toK (by
    obtain ⟨_, e1, _⟩ := Hg6.out
    rintro x o rfl ho
    rw [e1] at ho; cases ho; simp [kindOf])
  have hall : FrK KT W w7 := (((Hfk2.out.mono (by decide)).trans (Hfk4.out.mono (by decide))).trans (Hfk6.out.mono (by decide))).trans (hfk7.mono (by decide))
  refine HQ.out  _ _ _ _ _ _ _ _ _ _ _ _ _ _ _ _ _ _ _ _ _ _ _ _ _ _ _ _ _ _ _ _ _ _ _ _ _ _ _ _ _ _ _ _ _ _ _ _ _ _ _ _ _ _ _ _ _ _ _ _ _ w7 ?_ ?_ hall ((HO4.out.trans HL6.out).trans (hf7.low (Nat.le_trans (Nat.le_trans HL2.out.2 (Nat.le_trans hf3s.out hf4s.out)) Hfk6.out.size) (by
    rintro k rfl
    exact Hs.out.lo.2.2.2.2.2 _ (List.mem_of_getElem? Hb.out))))
  · rw [hstep.out, movedG_ok Hok6.out]
  rw [hstep.out, movedG_ok Hok6.out]
  have hlen := (List.getElem?_eq_some_iff.1 Hg.out).1
  have hsg6 := sgs_keepK (sgs_keepK (sgs_keepK Hs.out.sg Hfk2.out (by decide) (by decide)) Hfk4.out (by decide) (by decide)) Hfk6.out (by decide) (by decide)
  have hidm := moved_id g rp
  refine ⟨hfk7.block _ _ Hx6.out (by simp [kindOf]), Hj6.out.keepK hfk7 (by decide), Hd6.out.keepK hfk7 (by decide) (by decide) (by decide), ?_, ?_, ?_, ?_, Hs.out.nd, Hs.out.lo⟩
  · exact (Hp4.out.keepK Hfk6.out (by decide) (by decide) (by decide) (by decide)).keepK hfk7 (by decide) (by decide) (by decide) (by decide)
  · simp only
    rw [il_set s.sagas bl k g (g.moved rp) Hg.out hidm, List.length_set]
    exact map_keepK (map_keepK (map_keepK (map_keepK Hs.out.mp Hfk2.out (by decide)) Hfk4.out (by decide)) Hfk6.out (by decide)) hfk7 (by decide)
  · simp only
    rw [List.length_set]; exact Hs.out.len
  · exact sgs_set hsg6 Hs.out.nd Hb.out hlen hf7 hs7
set_option maxRecDepth 100000 in
set_option maxHeartbeats 4000000 in
/-- What was read cannot be made sure of. -/
theorem tick_unset (q : Pl) (bl : List Nat) (s : StM) (k : Nat) (g : SagaM) (b ib len cap : Nat) (W : World) (hs : StAt W q bl s) (hi : s.inv0) (hgl : Handle W) (hlo : 0 < s.p.lo) (hset : s.j.fresh = true ∧ s.d.bad = true) (hg : s.sagas[k]? = some g) (hb : bl[k]? = some b) (hbo : blkOfId (ilOf s.sagas bl) g.id = some b) (hgi : 1 ≤ g.id ∧ g.id ≤ 1000)
    (hid : W.cell? ⟨ib, k, none⟩ = some (.int .i64 g.id)) (hk : k < len) (hw : g.waits s.clock = true)
    {ds : List Deferred} {x1 x2 x3 x4 x5 x6 x7 x8 x9 x10 x11 x12 x13 x14 x15 x16 x17 x18 x19 x20 x21 x22 x23 x24 x25 x27 x29 x30 x31 x32 x33 x34 x35 x36 x37 x38 x39 x40 x41 x42 x43 x44 x45 x46 x47 x48 x49 x50 x51 x52 x53 x54 x55 x56 x57 x58 x59 x60 x61 x62 x63 x64 x65 x66 x67 x68 x69 x70 x71 x72 x73 x74 x75 x76 x77 x78 x79 x80 x81 x82 x83 x84 x85 x86 : Value} {Q : Exit → Act → World → Prop}
    (hQr : ∀ (y2 y4 y5 y6 y7 y8 y30 y31 y32 y33 y34 y35 y36 y37 y38 y39 y40 y41 y42 y43 y44 y45 y46 y47 y48 y49 y50 y51 y52 y53 y54 y55 y56 y57 y58 y59 y60 y61 y62 y63 y64 y65 y66 y67 y68 y69 y70 y71 y72 y73 y74 y75 y76 y77 y78 y79 y80 y81 y82 y83 y84 y85 : Value) (w' : World), (∃ nb, y2 = .iface 121 (.pointer (some ⟨nb, 0, none⟩))) → FailAt w' q s s.d.count → FrK KT W w' → Low s.p.lo W w' → Q .ret ⟨#[.pointer (some ⟨q.xb, 0, none⟩), x1, y2, x3, y4, y5, y6, y7, y8, x9, x10, x11, x12, x13, x14, x15, x16, x17, x18, x19, x20, x21, x22, x23, x24, x25, .slice (some ⟨ib, 0, none⟩) len cap, x27, .int .i64 k, x29, y30, y31, y32, y33, y34, y35, y36, y37, y38, y39, y40, y41, y42, y43, y44, y45, y46, y47, y48, y49, y50, y51, y52, y53, y54, y55, y56, y57, y58, y59, y60, y61, y62, y63, y64, y65, y66, y67, y68, y69, y70, y71, y72, y73, y74, y75, y76, y77, y78, y79, y80, y81, y82, y83, y84, y85, x86], ds⟩ w') :
    Code.wp Tryz.prog tickB1 Q ⟨#[.pointer (some ⟨q.xb, 0, none⟩), x1, x2, x3, x4, x5, x6, x7, x8, x9, x10, x11, x12, x13, x14, x15, x16, x17, x18, x19, x20, x21, x22, x23, x24, x25, .slice (some ⟨ib, 0, none⟩) len cap, x27, .int .i64 k, x29, x30, x31, x32, x33, x34, x35, x36, x37, x38, x39, x40, x41, x42, x43, x44, x45, x46, x47, x48, x49, x50, x51, x52, x53, x54, x55, x56, x57, x58, x59, x60, x61, x62, x63, x64, x65, x66, x67, x68, x69, x70, x71, x72, x73, x74, x75, x76, x77, x78, x79, x80, x81, x82, x83, x84, x85, x86], ds⟩ W := by
  have hlk := look_some hs.mp g.id (by omega) hbo
  have hx := hs.eng
  have HW := Lib.hid (Waits_calls (hs.sg k g b hg hb) s.clock)
  rw [hw] at HW
  have HS := Lib.hid (Settle_gen hs.jn hs.dk hgl (StAt.ne0 hs hlo))
  have hkI : (k : Int) < len := by omega
  have hk0 : (0 : Int) ≤ k := by omega
  have HQr := Lib.hid hQr
  have Hs := Lib.hid hs
  have Hset := Lib.hid hset
  have Hx := Lib.hid hx
  simp only [egCells] at hx
  clear hs hg hb hbo hgi hk hw hQr hi hgl hlo hset
  have hcv := cellv W
  conv => arg 2; whnf
  go_upto_region 11 with (first
    | (go_at_call 49; refine Calls.mono HW.out ?_; rintro e w2 ⟨rfl, rfl⟩)
    | (go_at_call 50; refine Calls.mono HS.out ?_; rintro e w2 ⟨hf2, ⟨hcond, rfl, hd2, hj2⟩ | ⟨hfr, hbad, ⟨nb, hnb, rfl, hnbw⟩, hd2, hj2⟩⟩)
    | fail)
  · exfalso
    have h := Hset.out
    rcases hcond with hc | hc
    · rw [hc] at h; exact absurd h.1 (by decide)
    · rw [hc] at h; exact absurd h.2 (by decide)
  have hfk2 : FrK [103, 104, 133] W w2 := hf2.toK (by
    obtain ⟨_, _, _, _, e1, e2, _⟩ := Hs.out.dk
    have e3 := Hs.out.jn
    rintro x o (rfl | rfl | rfl) ho
    · rw [e1] at ho; cases ho; simp [kindOf]
    · rw [e2] at ho; cases ho; simp [kindOf]
    · rw [e3] at ho; cases ho; simp [kindOf])
  have HL2 : Hid (Low s.p.lo W w2 ∧ s.p.lo ≤ w2.heap.size) := ⟨hf2.low Hs.out.size (by
    have h0 := Hs.out.lo
    rintro k (rfl | rfl | rfl)
    · exact h0.2.2.2.1
    · exact h0.2.2.2.2.1
    · exact h0.2.1), Nat.le_trans Hs.out.size hf2.size⟩
  have hx2 := hfk2.block _ _ Hx.out (by simp [kindOf])
  have Hx2 := Lib.hid hx2
  have Hp2 := Lib.hid (Hs.out.pt.keepK hfk2 (by decide) (by decide) (by decide) (by decide))
  have Hfk2 := Lib.hid hfk2
  have Hd2 := Lib.hid hd2
  simp only [egCells] at hx2
  clear hf2 hfk2 hd2 hj2 hx hcv hlk hid hnb hnbw hfr hbad
  have hcv := cellv w2
  have hfv := frozv w2
  go_wp2_with fail
  have hk3 : FrK [80] w2 (w2.setCell ⟨q.xb, 5, none⟩ (.bool true)) := (Fr.one q.xb w2 5 (.bool true)).toK (by
    rintro k o rfl ho
    rw [Hx2.out] at ho; cases ho; simp [kindOf])
  refine HQr.out _ _ _ _ _ _ _ _ _ _ _ _ _ _ _ _ _ _ _ _ _ _ _ _ _ _ _ _ _ _ _ _ _ _ _ _ _ _ _ _ _ _ _ _ _ _ _ _ _ _ _ _ _ _ _ _ _ _ _ _ _ _ _ ⟨nb, rfl⟩ ⟨?_, Hd2.out.keepK hk3 (by decide) (by decide) (by decide), Hp2.out.keepK hk3 (by decide) (by decide) (by decide) (by decide)⟩ ((Hfk2.out.mono (by decide)).trans (hk3.mono (by decide))) (HL2.out.1.trans ((Fr.one q.xb w2 5 (.bool true)).low HL2.out.2 (by
    rintro k rfl
    exact Hs.out.lo.1)))
  rw [hp_setCell, if_pos rfl, Hx2.out]; simp [egCells]
end Go.Proofs.YtkafmfdipmhleaaGreatDoor

namespace Go.Proofs.YtkafmfdipmhleaaGreatDoor
open Go.RowKit Go.Maps

def StM.roomy (s : StM) : Prop := (s.j.en : Int) + leftSum s.sagas ≤ s.d.blocks.length
theorem appendA_len (d : DiskM) (j : JnM) (rs : List RecM) : (d.appendA j rs).1.blocks.length = d.blocks.length := by
  unfold DiskM.appendA
  split
  · rfl
  · rw [appendG_len, settle_len']
theorem appendA_pend (d : DiskM) (j : JnM) (rs : List RecM) (h : j.fresh = false → d.pend = none) (hok : (d.appendA j rs).2 = true) : (d.appendA j rs).1.pend = none := by
  unfold DiskM.appendA at hok ⊢
  split at hok
  · cases hok
  · rename_i h1
    rw [if_neg h1]
    exact appendG_pend _ _ _ _ (settle_pend' _ _ h) hok
theorem moved_tries (g : SagaM) (rp : Int) : (g.moved rp).tries = 0 := by
  by_cases h1 : g.st = 1 <;> by_cases h2 : rp = 0 <;> by_cases h3 : (g.steps.length : Int) < g.step + 1 <;> simp [SagaM.moved, SagaM.forward, SagaM.backward, h1, h2, h3]
theorem waits_st {g : SagaM} {clock : Int} (hok : g.ok) (hw : g.waits clock = true) : g.st = 1 ∨ g.st = 2 := by
  simp [SagaM.waits] at hw
  obtain ⟨_, _, _, _, h | h⟩ := hok
  · exact h.1
  · omega
theorem fine_less {s : StM} {m : Nat} (hf : s.fine (m + 1)) : s.fine m := by
  obtain ⟨h1, h2, h3, h4, h5, h6⟩ := hf
  exact ⟨by omega, by omega, h3, h4, by omega, h6⟩
/-- A turn in which no error is told keeps the engine's state in order. -/
theorem stepG_inv {s : StM} {k m : Nat} (h : s.inv0) (hr : s.roomy) (hf : s.fine (m + 1)) (hok : (s.stepG k).2 = true) :
    (s.stepG k).1.inv0 ∧ (s.stepG k).1.roomy ∧ (s.stepG k).1.fine m ∧ (s.stepG k).1.clock = s.clock ∧ (s.stepG k).1.sagas.length = s.sagas.length := by
  have hf0 := fine_less hf
  cases hg : s.sagas[k]? with
  | none => simp only [StM.stepG, hg]; exact ⟨h, hr, hf0, trivial, trivial⟩
  | some g =>
    by_cases hw : g.waits s.clock = false
    · simp only [StM.stepG, hg, hw, if_true]; exact ⟨h, hr, hf0, trivial, trivial⟩
    · have hw : g.waits s.clock = true := by simpa using hw
      by_cases hset : s.j.fresh = true ∧ s.d.bad = true
      · rw [stepG_unset hg hw hset] at hok; cases hok
      have hset : s.j.fresh = false ∨ s.d.bad = false := by
        cases h1 : s.j.fresh
        · exact .inl rfl
        · cases h2 : s.d.bad
          · exact .inr rfl
          · exact absurd ⟨h1, h2⟩ hset
      have hmem : g ∈ s.sagas := List.mem_of_getElem? hg
      have hgo := h.ok g hmem
      have hst := waits_st hgo hw
      obtain ⟨f1, f2, f3, f4, f5, f6⟩ := hf
      obtain ⟨a1, a2, a3, a4, a5, a6⟩ := ask_fine (c := g.call) f1 f2 f4 f5
      have hlen : (settleD s.j s.d).blocks.length = s.d.blocks.length := settle_len' _ _
      have hpend : (settleD s.j s.d).pend = none := settle_pend' _ _ h.pend
      by_cases hm : g.moves (g.reply s.p) = false
      · have ht := f6 g hmem
        have htr : (g.paused s.clock s.pause).tries = g.tries + 1 := by
          show wrap64 (g.tries + 1) = _
          have := hgo.2.2.2.1
          exact wrap_in _ (by omega)
        have hpok : (g.paused s.clock s.pause).ok := by
          obtain ⟨b1, b2, b3, b4, b5⟩ := hgo
          exact ⟨b1, b2, b3, by rw [htr]; omega, b5⟩
        rw [stepG_vain hg hw hset hm]
        refine ⟨⟨fun _ => hpend, h.epoch, ?_, ord_set h.ord hg rfl, by simp only; rw [hlen]; exact h.size⟩, ?_, ⟨a1, a2, by simp only; rw [a3]; exact f3, a4, a5, ?_⟩, rfl, by simp⟩
        · intro x hx
          rcases mem_set_cases hx with rfl | hx
          · exact hpok
          · exact h.ok x hx
        · simp only [StM.roomy]
          rw [leftSum_set _ _ g _ hg, hlen]
          have e2 : (g.paused s.clock s.pause).left = g.left := rfl
          rw [e2]
          have : (s.j.en : Int) + leftSum s.sagas ≤ s.d.blocks.length := hr
          omega
        · intro x hx
          simp only
          rw [a6]
          rcases mem_set_cases hx with rfl | hx
          · rw [htr]; omega
          · have := f6 x hx; omega
      · have hm : g.moves (g.reply s.p) = true := by simpa using hm
        rw [stepG_moved hg hw hset hm] at hok ⊢
        by_cases hA : ((settleD s.j s.d).appendA ⟨s.j.epoch, s.j.en, false⟩ [⟨4, 0, 0, g.id.toNat, (g.reply s.p).toNat, []⟩]).2 = true
        · obtain ⟨hmo, hml⟩ := hgo.moved hst (g.reply s.p)
          have hpa := appendA_pend _ _ _ (fun _ => hpend) hA
          rw [movedG_ok hA]
          refine ⟨⟨fun _ => hpa, h.epoch, ?_, ord_set h.ord hg (moved_id g _), by simp only; rw [appendA_len, hlen]; exact h.size⟩, ?_, ⟨a1, a2, by simp only; rw [a3]; exact f3, a4, a5, ?_⟩, rfl, by simp⟩
          · intro x hx
            rcases mem_set_cases hx with rfl | hx
            · exact hmo
            · exact h.ok x hx
          · simp only [StM.roomy]
            rw [leftSum_set _ _ g _ hg, appendA_len, hlen]
            have : (s.j.en : Int) + leftSum s.sagas ≤ s.d.blocks.length := hr
            omega
          · intro x hx
            simp only
            rw [a6]
            rcases mem_set_cases hx with rfl | hx
            · rw [moved_tries]; omega
            · have := f6 x hx; omega
        · rw [movedG_bad (by simpa using hA)] at hok; cases hok
theorem stepG_ids (s : StM) (k : Nat) : (s.stepG k).1.sagas.map (·.id) = s.sagas.map (·.id) := by
  have key : ∀ (g g' : SagaM), s.sagas[k]? = some g → g'.id = g.id → (s.sagas.set k g').map (·.id) = s.sagas.map (·.id) := by
    intro g g' hg hid
    apply List.ext_getElem?
    intro i
    by_cases e : i = k
    · subst e
      have hl := (List.getElem?_eq_some_iff.1 hg).1
      rw [List.getElem?_map, List.getElem?_map, List.getElem?_set_self hl, hg]
      simp [hid]
    · rw [List.getElem?_map, List.getElem?_map, List.getElem?_set_ne (fun h => e h.symm)]
  unfold StM.stepG StM.movedG
  cases hg : s.sagas[k]? with
  | none => rfl
  | some g =>
    simp only
    split
    · rfl
    · split
      · rfl
      · split
        · exact key g _ hg rfl
        · split
          · exact key g _ hg (moved_id g _)
          · rfl
theorem stepG_lo (s : StM) (k : Nat) : (s.stepG k).1.p.lo = s.p.lo := by
  unfold StM.stepG StM.movedG
  cases s.sagas[k]? with
  | none => rfl
  | some g =>
    simp only
    split
    · rfl
    · split
      · rfl
      · split
        · rfl
        · split <;> rfl
/-- Turns, one behind the other, till an error is told. -/
def StM.runG (s : StM) (l : List Nat) : StM × Bool := l.foldl (fun a k => if a.2 then a.1.stepG k else a) (s, true)
theorem runG_false (l : List Nat) (a : StM × Bool) (h : a.2 = false) : l.foldl (fun a k => if a.2 then a.1.stepG k else a) a = a := by
  induction l with
  | nil => rfl
  | cons x l ih => rw [List.foldl_cons, if_neg (by rw [h]; decide), ih]
theorem runG_succ (s : StM) (k : Nat) (h : (s.runG (List.range k)).2 = true) : s.runG (List.range (k + 1)) = (s.runG (List.range k)).1.stepG k := by
  show (List.range (k + 1)).foldl _ _ = _
  rw [List.range_succ, List.foldl_append]
  show (if (s.runG (List.range k)).2 then (s.runG (List.range k)).1.stepG k else s.runG (List.range k)) = _
  rw [if_pos h]
theorem runG_stop (s : StM) (k n : Nat) (hn : k ≤ n) (h : (s.runG (List.range k)).2 = false) : s.runG (List.range n) = s.runG (List.range k) := by
  induction n with
  | zero => rw [show k = 0 by omega]
  | succ n ih =>
    by_cases e : k = n + 1
    · rw [e]
    · have := ih (by omega)
      show (List.range (n + 1)).foldl _ _ = _
      rw [List.range_succ, List.foldl_append]
      show (if (s.runG (List.range n)).2 then (s.runG (List.range n)).1.stepG n else s.runG (List.range n)) = _
      rw [this, if_neg (by rw [h]; decide)]
theorem runG_inv {s : StM} {m : Nat} (h : s.inv0) (hr : s.roomy) (k : Nat) (hf : s.fine (m + k)) (hok : (s.runG (List.range k)).2 = true) :
    (s.runG (List.range k)).1.inv0 ∧ (s.runG (List.range k)).1.roomy ∧ (s.runG (List.range k)).1.fine m ∧ (s.runG (List.range k)).1.clock = s.clock ∧ (s.runG (List.range k)).1.sagas.length = s.sagas.length ∧ (s.runG (List.range k)).1.sagas.map (·.id) = s.sagas.map (·.id) ∧ (s.runG (List.range k)).1.p.lo = s.p.lo := by
  induction k generalizing m with
  | zero => exact ⟨h, hr, hf, rfl, rfl, rfl, rfl⟩
  | succ k ih =>
    have h0 : (s.runG (List.range k)).2 = true := by
      cases e : (s.runG (List.range k)).2
      · rw [runG_stop s k (k + 1) (by omega) e, e] at hok; cases hok
      · rfl
    obtain ⟨i1, i2, i3, i4, i5, i6, i7⟩ := ih (m := m + 1) (by rw [show m + 1 + k = m + (k + 1) by omega]; exact hf) h0
    rw [runG_succ s k h0] at hok ⊢
    obtain ⟨j1, j2, j3, j4, j5⟩ := stepG_inv i1 i2 i3 hok
    exact ⟨j1, j2, j3, j4.trans i4, j5.trans i5, (stepG_ids _ _).trans i6, (stepG_lo _ _).trans i7⟩
/-- What a Tick makes of an engine; was no error told? -/
def StM.tickG (s : StM) : StM × Bool := StM.runG { s with clock := s.clock + 1 } (List.range s.sagas.length)
def TickG (w : World) (q : Pl) (bl : List Nat) (s : StM) (e : Ending) (w' : World) : Prop :=
  FrK KT w w' ∧ Low s.p.lo w w' ∧
    (s.tickG.2 = true ∧ e = .returned .nilIface ∧ StAt w' q bl s.tickG.1 ∨
     s.tickG.2 = false ∧ (∃ nb, e = .returned (.iface 121 (.pointer (some ⟨nb, 0, none⟩)))) ∧ FailAt w' q s.tickG.1 s.tickG.1.d)
theorem TickG.bad {w : World} {q : Pl} {bl : List Nat} {s : StM} {k nb : Nat} {w' : World} (hk : k < s.sagas.length) (h0 : (StM.runG { s with clock := s.clock + 1 } (List.range k)).2 = true) (h : ((StM.runG { s with clock := s.clock + 1 } (List.range k)).1.stepG k).2 = false)
    (hf : FailAt w' q ((StM.runG { s with clock := s.clock + 1 } (List.range k)).1.stepG k).1 ((StM.runG { s with clock := s.clock + 1 } (List.range k)).1.stepG k).1.d) (h1 : FrK KT w w') (h2 : Low s.p.lo w w') :
    TickG w q bl s (.returned (.iface 121 (.pointer (some ⟨nb, 0, none⟩)))) w' := by
  have e : s.tickG = (StM.runG { s with clock := s.clock + 1 } (List.range k)).1.stepG k := by
    have e1 := runG_succ { s with clock := s.clock + 1 } k h0
    have e2 := runG_stop { s with clock := s.clock + 1 } (k + 1) s.sagas.length (by omega) (by rw [e1]; exact h)
    exact e2.trans e1
  refine ⟨h1, h2, .inr ⟨by rw [e]; exact h, ⟨nb, rfl⟩, by rw [e]; exact hf⟩⟩
set_option maxRecDepth 100000 in
set_option maxHeartbeats 4000000 in
theorem Tick_gen {w : World} {q : Pl} {bl : List Nat} {s : StM} {m : Nat} (hs : StAt w q bl s) (hi : s.inv0) (hrm : s.roomy) (hf : s.fine (m + s.sagas.length)) (hck : -9223372036854775808 ≤ s.clock + 1 ∧ s.clock + 1 ≤ 9223372036854775807) (hgl : Handle w) (hlo : 0 < s.p.lo) :
    Calls Tryz.prog 20 #[.pointer (some ⟨q.xb, 0, none⟩)] w (TickG w q bl s) := by
  have hx := hs.eng
  have Hs := Lib.hid hs
  have Hi := Lib.hid hi
  have Hf := Lib.hid hf
  have Hrm := Lib.hid hrm
  have Hgl := Lib.hid hgl
  have Hlo := Lib.hid hlo
  have Hck := Lib.hid hck
  have hwr : wrap64 (s.clock + 1) = s.clock + 1 := wrap_in _ (by omega)
  have Hx := Lib.hid hx
  simp only [egCells] at hx
  clear hs hi hf hck hrm hgl hlo
  have hcv := cellv w
  have hfv := frozv w
  go_enter Tryz.func20, Tryz.ntmps20
  go_upto_region 4 with fail
  have hF0 : FrK KT w (w.setCell ⟨q.xb, 4, none⟩ (.int .i64 (s.clock + 1))) := (Fr.one q.xb w 4 (.int .i64 (s.clock + 1))).toK (by
    rintro k o rfl ho
    rw [Hx.out] at ho; cases ho; simp [kindOf])
  have hs1 : StAt (w.setCell ⟨q.xb, 4, none⟩ (.int .i64 (s.clock + 1))) q bl { s with clock := s.clock + 1 } := by
    have hk : FrK [80] w (w.setCell ⟨q.xb, 4, none⟩ (.int .i64 (s.clock + 1))) := (Fr.one q.xb w 4 (.int .i64 (s.clock + 1))).toK (by
      rintro k o rfl ho
      rw [Hx.out] at ho; cases ho; simp [kindOf])
    have h0 := Hs.out
    refine ⟨?_, h0.jn.keepK hk (by decide), h0.dk.keepK hk (by decide) (by decide) (by decide), h0.pt.keepK hk (by decide) (by decide) (by decide) (by decide), map_keepK h0.mp hk (by decide), h0.len, sgs_keepK h0.sg hk (by decide) (by decide), h0.nd, h0.lo⟩
    rw [hp_setCell, if_pos rfl, Hx.out]; simp [egCells]
  have HO0 : Hid (Low s.p.lo w (w.setCell ⟨q.xb, 4, none⟩ (.int .i64 (s.clock + 1)))) := (Fr.one q.xb w 4 (.int .i64 (s.clock + 1))).low Hs.out.size (by
    rintro k rfl
    exact Hs.out.lo.1)
  have HF0 := Lib.hid hF0
  have Hs1 := Lib.hid hs1
  clear hcv hfv hF0 hs1
  generalize w.setCell ⟨q.xb, 4, none⟩ (.int .i64 (s.clock + 1)) = w1 at HF0 HO0 Hs1 ⊢
  have hx := Hs1.out.eng
  simp only [egCells] at hx
  have hcv := cellv w1
  have hlen30 : s.sagas.length ≤ 1000 := inv0_len Hi.out
  have hz : Maps.size (dataOf (ilOf s.sagas bl)) = s.sagas.length := by
    rw [size_dataOf, ilOf, List.length_zip, List.length_map, Hs.out.len]; omega
  have HS := Lib.hid (Sorted_calls q.mb s.sagas.length (dataOf (ilOf s.sagas bl)) ptrR w1 Hs1.out.mp (by rw [hz]; unfold maxLen; omega) (by rw [hz]; omega))
  clear hlen30 hz
  go_upto_region 5 with (first
    | (go_at_call 48; refine Calls.mono (Keys_calls (some q.mb) w1) ?_; rintro e w2 ⟨rfl, rfl⟩)
    | (go_at_call 47; refine Calls.mono HS.out ?_; rintro e w3 ⟨v, ss, rfl, hperm, hown, hnil, hbel⟩; obtain ⟨va, vc, rfl, hva⟩ := ids_shape hown)
    | fail)
  have hk3 : FrK [] w1 w3 := ((Fr.refl (fun _ => False) w1).alloc (.cells #[.map (some q.mb)] 76)).toK (fun _ _ f _ => f.elim) |>.trans (below_toK hbel (Nat.le_refl _) [])
  have hs3 := Hs1.out.keepK hk3 (by simp)
  have hids := keys_sorted Hs.out.len (Hi.out).ord hperm
  rw [hids] at hown
  have hlen : ss.length = s.sagas.length := by
    have := congrArg List.length hids
    simpa using this
  rw [hlen] at hown
  have HF3 := Lib.hid (HF0.out.trans (hk3.mono (by simp)))
  have HO3 := Lib.hid (HO0.out.trans ((((Fr.refl (fun _ => False) w1).alloc (.cells #[.map (some q.mb)] 76)).low Hs1.out.size (fun _ f => f.elim)).trans
    (show Low s.p.lo _ w3 from ⟨hbel.os, hbel.tape, hbel.output, hbel.size, fun k hk => hbel.block k (by have := Hs1.out.size; have hz : s.p.lo ≤ w1.heap.size := Hs1.out.size; simp; omega)⟩)))
  have Hs3 := Lib.hid hs3
  rw [hlen] at hva
  have Hva := Lib.hid hva
  have Hlen := Lib.hid hlen
  clear hcv hx hnil hbel hk3 hs3 hids hperm hva
  have Hown := Lib.hid hown
  clear hown
  rw [hlen]
  clear hlen
  go_wp2_with fail
  go_loopw [28] (fun i wr => ∃ k : Nat, k ≤ s.sagas.length ∧ i = .int .i64 (k : Nat) ∧ (StM.runG { s with clock := s.clock + 1 } (List.range k)).2 = true ∧ StAt wr q bl ((StM.runG { s with clock := s.clock + 1 } (List.range k)).1) ∧ FrK KT w3 wr ∧ Low s.p.lo w3 wr) (fun i _ => s.sagas.length - (intOf i).toNat)
  case atStart => exact ⟨0, Nat.zero_le _, rfl, rfl, Hs3.out, FrK.refl _ _, Low.refl _ _⟩
  case round =>
    obtain ⟨k, hk, rfl, hok0, hsk, hfk, hok45⟩ := hrel
    have Hok0 := Lib.hid hok0
    clear hok0
    have Hok45 := Lib.hid hok45
    clear hok45
    by_cases hkn : k < s.sagas.length
    · have hstep : StM.runG { s with clock := s.clock + 1 } (List.range (k + 1)) = (StM.runG { s with clock := s.clock + 1 } (List.range k)).1.stepG k := runG_succ _ k Hok0.out
      obtain ⟨t1, t0, t2, t3, t4, t5, t6⟩ := runG_inv (m := m + (s.sagas.length - k)) (s := { s with clock := s.clock + 1 }) ⟨Hi.out.pend, Hi.out.epoch, Hi.out.ok, Hi.out.ord, Hi.out.size⟩ Hrm.out k (by
        rw [show m + (s.sagas.length - k) + k = m + s.sagas.length by omega]; exact Hf.out) Hok0.out
      have Hstep := Lib.hid hstep
      have HBad := Lib.hid (fun (nb : Nat) (w' : World) => TickG.bad (w := w) (q := q) (bl := bl) (s := s) (k := k) (nb := nb) (w' := w') hkn Hok0.out)
      clear hstep
      generalize (StM.runG { s with clock := s.clock + 1 } (List.range k)).1 = t at Hstep HBad hsk t0 t1 t2 t3 t4 t5 t6
      have Ht0 := Lib.hid t0
      clear t0
      have htl : t.sagas.length = s.sagas.length := t4
      clear t4
      have t4 := htl
      clear htl
      have Ht6 := Lib.hid t6
      clear t6
      obtain ⟨g, hg⟩ : ∃ g, t.sagas[k]? = some g := ⟨t.sagas[k], List.getElem?_eq_getElem (by rw [t4]; exact hkn)⟩
      obtain ⟨b, hb, hbo⟩ := blk_of t.sagas bl hsk.len t1.ord k g hg
      have hok := t1.ok g (List.mem_of_getElem? hg)
      have hgid : (s.sagas.map (·.id))[k]? = some g.id := by
        have : (t.sagas.map (·.id))[k]? = some g.id := by rw [List.getElem?_map, hg]; rfl
        rw [t5] at this; exact this
      obtain ⟨ib, rfl⟩ : ∃ ib, va = some ⟨ib, 0, none⟩ := by
        rcases Hva.out with h | h
        · omega
        · exact h
      have hcell := ints_at (own_keepK Hown.out hfk (by decide)) k g.id hgid
      have Hfk := Lib.hid hfk
      have Ht1 := Lib.hid t1
      have Ht2 := Lib.hid t2
      have Ht3 := Lib.hid t3
      clear t1 t2 t3 t4 t5 hfk hgid
      have hkI : (k : Int) < s.sagas.length := by omega
      have hl30 := inv0_len Hi.out
      go_upto_block 1 with fail
      by_cases hw : g.waits t.clock = false
      · refine tick_idle q bl t k g b ib s.sagas.length vc wr hsk hg hb hbo ⟨hok.1, hok.2.1⟩ hcell hkn hw ?_
        intros
        have e : t.stepG k = (t, true) := by simp only [StM.stepG, hg, hw, if_true]
        clear hcell hb hbo hok hg hw
        go_wp2_with fail
        go_roundw
        case rel => exact ⟨k + 1, hkn, by go_num, by rw [Hstep.out, e], by rw [Hstep.out, e]; exact hsk, Hfk.out, Hok45.out⟩
        case measure => simp [intOf]; omega
      · have hw : g.waits t.clock = true := by simpa using hw
        obtain ⟨hst, hroom⟩ : (g.st = 1 ∨ g.st = 2) ∧ t.j.en + 1 ≤ t.d.blocks.length := by
          have hst := waits_st hok hw
          have h1 := hok.left_pos hst
          have h2 := leftSum_mem t.sagas Ht1.out.ok g (List.mem_of_getElem? hg)
          have : (t.j.en : Int) + leftSum t.sagas ≤ t.d.blocks.length := Ht0.out
          exact ⟨hst, by omega⟩
        have hsm := Ht2.out.small
        have hglr : Handle wr := handle_low Hgl.out (HO3.out.trans Hok45.out) Hlo.out
        have hlor : 0 < t.p.lo := by rw [Ht6.out]; exact Hlo.out
        by_cases hset : t.j.fresh = true ∧ t.d.bad = true
        · refine tick_unset q bl t k g b ib s.sagas.length vc wr hsk Ht1.out hglr hlor hset hg hb hbo ⟨hok.1, hok.2.1⟩ hcell hkn hw ?_
          intros
          rename_i w' hy hfa hf' ho'
          obtain ⟨nb, rfl⟩ := hy
          have e := stepG_unset hg hw hset
          have HX : Hid ((t.stepG k).2 = false) := by show _ = _; rw [e]
          have HFa : Hid (FailAt w' q (t.stepG k).1 (t.stepG k).1.d) := by show FailAt _ _ _ _; rw [e]; exact hfa
          clear hcell hb hbo hok hg hw hroom hst hsm hset hsk hglr hlor hfa e
          have Hf' := Lib.hid hf'
          have Ho' := Lib.hid ho'
          rw [Ht6.out] at Ho'
          clear hf' ho'
          go_wp2_with fail
          go_ret
          exact HBad.out nb w' HX.out HFa.out ((HF3.out.trans Hfk.out).trans Hf'.out) ((HO3.out.trans Hok45.out).trans Ho'.out)
        have hset : t.j.fresh = false ∨ t.d.bad = false := by
          cases h1 : t.j.fresh
          · exact .inl rfl
          · cases h2 : t.d.bad
            · exact .inr rfl
            · exact absurd ⟨h1, h2⟩ hset
        by_cases hm : g.moves (g.reply t.p) = false
        · refine tick_vain_g q bl t k g b ib s.sagas.length vc wr hsk Ht1.out hglr hlor hset hg hb hbo ⟨hok.1, hok.2.1⟩ hcell hkn hw hok hst hsm hm ?_
          intros
          rename_i w' hs' hf' ho'
          have Hok' : Hid ((t.stepG k).2 = true) := by show _ = _; rw [stepG_vain hg hw hset hm]
          clear hcell hb hbo hok hg hw hroom hst hsm hm hsk hset hglr hlor
          have Hs' := Lib.hid hs'
          have Hf' := Lib.hid hf'
          have Ho' := Lib.hid ho'
          rw [Ht6.out] at Ho'
          clear hs' hf' ho'
          go_wp2_with fail
          go_roundw
          case rel => exact ⟨k + 1, hkn, by go_num, by rw [Hstep.out]; exact Hok'.out, by rw [Hstep.out]; exact Hs'.out, Hfk.out.trans Hf'.out, Hok45.out.trans Ho'.out⟩
          case measure => simp [intOf]; omega
        · have hm : g.moves (g.reply t.p) = true := by simpa using hm
          refine tick_moved_g q bl t k g b ib s.sagas.length vc wr hsk Ht1.out hglr hlor hset hg hb hbo ⟨hok.1, hok.2.1⟩ hcell hkn hw hok hst hsm hroom hm ?_ ?_
          · intros
            rename_i w' hok' hs' hf' ho'
            have Hok' := Lib.hid hok'
            clear hcell hb hbo hok hg hw hroom hst hsm hm hsk hset hglr hlor hok'
            have Hs' := Lib.hid hs'
            have Hf' := Lib.hid hf'
            have Ho' := Lib.hid ho'
            rw [Ht6.out] at Ho'
            clear hs' hf' ho'
            go_wp2_with fail
            go_roundw
            case rel => exact ⟨k + 1, hkn, by go_num, by rw [Hstep.out]; exact Hok'.out, by rw [Hstep.out]; exact Hs'.out, Hfk.out.trans Hf'.out, Hok45.out.trans Ho'.out⟩
            case measure => simp [intOf]; omega
          · intros
            rename_i w' hx' hy hfa hf' ho'
            obtain ⟨nb, rfl⟩ := hy
            have HX := Lib.hid hx'
            have HFa := Lib.hid hfa
            clear hcell hb hbo hok hg hw hroom hst hsm hm hsk hset hglr hlor hx' hfa
            have Hf' := Lib.hid hf'
            have Ho' := Lib.hid ho'
            rw [Ht6.out] at Ho'
            clear hf' ho'
            go_wp2_with fail
            go_ret
            exact HBad.out nb w' HX.out HFa.out ((HF3.out.trans Hfk.out).trans Hf'.out) ((HO3.out.trans Hok45.out).trans Ho'.out)
    · obtain rfl : k = s.sagas.length := by omega
      have Hsk := Lib.hid hsk
      have Hfk := Lib.hid hfk
      have hnk : ¬ ((s.sagas.length : Int) < s.sagas.length) := by omega
      clear hsk hfk
      go_wp2_with fail
      go_ret
      exact ⟨HF3.out.trans Hfk.out, HO3.out.trans Hok45.out, .inl ⟨Hok0.out, rfl, Hsk.out⟩⟩
end Go.Proofs.YtkafmfdipmhleaaGreatDoor

namespace Go.Proofs.YtkafmfdipmhleaaGreatDoor
open Go.RowKit Go.Maps

def rawD (bs : List (List UInt8)) : DiskM := ⟨bs, none, 0, 0, 0, -1, 0, 0⟩
theorem raw_look (bs : List (List UInt8)) (i : Nat) : (rawD bs).look i = bs.getD i [] := rfl
/-- A journal of events, on blocks; junk where it ends. -/
structure JD (bs : List (List UInt8)) (evs : List Ev) : Prop where
  hd : bs.getD 0 [] = hdr
  on : EvsOn (rawD bs) 1 1 evs
  junk : Junk (bs.getD (1 + evLen evs) [])
  zero : ∀ i, 1 + evLen evs < i → i < bs.length → bs.getD i [] = zer
  room : 2 + evLen evs < bs.length
theorem evLen_snoc (evs : List Ev) (e : Ev) : evLen (evs ++ [e]) = evLen evs + e.len := by simp [evLen]
theorem EvOn_congr {d d' : DiskM} {ep i : Nat} {e : Ev} (h : ∀ j, i ≤ j → j < i + e.len → d.look j = d'.look j) (he : EvOn d ep i e) : EvOn d' ep i e := by
  cases e with
  | taken id st =>
    have h1 := h i (Nat.le_refl _) (by show i < i + 2; omega)
    have h2 := h (i + 1) (by omega) (by show i + 1 < i + 2; omega)
    unfold EvOn at he ⊢
    rw [← h1, ← h2]; exact he
  | moved id rp =>
    have h1 := h i (Nat.le_refl _) (by show i < i + 1; omega)
    unfold EvOn at he ⊢
    rw [← h1]; exact he
theorem EvsOn_congr {d d' : DiskM} {ep : Nat} {evs : List Ev} {i : Nat} (h : ∀ j, i ≤ j → j < i + evLen evs → d.look j = d'.look j) (he : EvsOn d ep i evs) : EvsOn d' ep i evs := by
  induction evs generalizing i with
  | nil => trivial
  | cons e r ih =>
    have hl : evLen (e :: r) = e.len + evLen r := by simp [evLen]
    rw [hl] at h
    exact ⟨EvOn_congr (fun j h1 h2 => h j h1 (by omega)) he.1, ih (fun j h1 h2 => h j (by omega) (by omega)) he.2⟩
theorem EvsOn_snoc {d : DiskM} {ep : Nat} {evs : List Ev} {i : Nat} {e : Ev} (h : EvsOn d ep i evs) (he : EvOn d ep (i + evLen evs) e) : EvsOn d ep i (evs ++ [e]) := by
  induction evs generalizing i with
  | nil => exact ⟨he, trivial⟩
  | cons a r ih =>
    have hl : evLen (a :: r) = a.len + evLen r := by simp [evLen]
    rw [hl, ← Nat.add_assoc] at he
    exact ⟨h.1, ih h.2 he⟩
theorem EvsOk_snoc {l : List SagaM} {evs : List Ev} {e : Ev} (h : EvsOk l evs) (he : EvOk (evs.foldl applyEv l) e) : EvsOk l (evs ++ [e]) := by
  induction evs generalizing l with
  | nil => exact ⟨he, trivial⟩
  | cons a r ih => exact ⟨h.1, ih h.2 he⟩
theorem getD_set_ne (bs : List (List UInt8)) (i j : Nat) (X : List UInt8) (h : i ≠ j) : (bs.set i X).getD j [] = bs.getD j [] := by
  rw [List.getD_eq_getElem?_getD, List.getElem?_set_ne h, ← List.getD_eq_getElem?_getD]
theorem getD_set_self (bs : List (List UInt8)) (i : Nat) (X : List UInt8) (h : i < bs.length) : (bs.set i X).getD i [] = X := by
  rw [List.getD_eq_getElem?_getD, List.getElem?_set_self h]; rfl
theorem JD.moved {bs : List (List UInt8)} {evs : List Ev} {id rp : Int} {X : List UInt8} {r : RecM} (h : JD bs evs) (hX : parseM X = some (r, true)) (h1 : r.epoch = 1) (h2 : r.index = 1 + evLen evs) (h3 : r.kind = 4) (h4 : r.saga = id.toNat) (h5 : r.reply = rp.toNat) (hr : 3 + evLen evs < bs.length) :
    JD (bs.set (1 + evLen evs) X) (evs ++ [.moved id rp]) := by
  have hl : evLen (evs ++ [.moved id rp]) = evLen evs + 1 := evLen_snoc _ _
  refine ⟨?_, ?_, ?_, ?_, ?_⟩
  · rw [getD_set_ne _ _ _ _ (by omega)]; exact h.hd
  · refine EvsOn_snoc (EvsOn_congr (fun j h1 h2 => ?_) h.on) ⟨r, ?_, h1, h2, h3, h4, h5⟩
    · rw [raw_look, raw_look, getD_set_ne _ _ _ _ (by omega)]
    · rw [raw_look, getD_set_self _ _ _ (by have := h.room; omega)]; exact hX
  · rw [hl, getD_set_ne _ _ _ _ (by omega), h.zero _ (by omega) (by omega)]; exact junk_zer
  · rw [hl, List.length_set]
    intro i h1 h2
    rw [getD_set_ne _ _ _ _ (by omega)]; exact h.zero i (by omega) h2
  · rw [hl, List.length_set]; omega
theorem JD.junked {bs : List (List UInt8)} {evs : List Ev} {X : List UInt8} (h : JD bs evs) (hX : Junk X) : JD (bs.set (1 + evLen evs) X) evs := by
  refine ⟨?_, EvsOn_congr (fun j h1 h2 => ?_) h.on, ?_, ?_, ?_⟩
  · rw [getD_set_ne _ _ _ _ (by omega)]; exact h.hd
  · rw [raw_look, raw_look, getD_set_ne _ _ _ _ (by omega)]
  · rw [getD_set_self _ _ _ (by have := h.room; omega)]; exact hX
  · rw [List.length_set]
    intro i h1 h2
    rw [getD_set_ne _ _ _ _ (by omega)]; exact h.zero i h1 h2
  · rw [List.length_set]; exact h.room
theorem JD.taken {bs : List (List UInt8)} {evs : List Ev} {id : Int} {n : Nat} {X : List UInt8} {r : RecM} (h : JD bs evs) (hi : 1 ≤ id ∧ id ≤ 3) (hn : 1 ≤ n ∧ n ≤ 6) (hb : bs.getD (1 + evLen evs) [] = bod id n (1 + evLen evs)) (hX : parseM X = some (r, true)) (h1 : r.epoch = 1) (h2 : r.index = 1 + evLen evs + 1) (h3 : r.kind = 3) (h4 : r.saga = id.toNat)
    (hr : 4 + evLen evs < bs.length) (hx : bs.length ≤ 1000) : JD (bs.set (1 + evLen evs + 1) X) (evs ++ [.taken id (kSteps id n)]) := by
  have hl : evLen (evs ++ [.taken id (kSteps id n)]) = evLen evs + 2 := evLen_snoc _ _
  refine ⟨?_, ?_, ?_, ?_, ?_⟩
  · rw [getD_set_ne _ _ _ _ (by omega)]; exact h.hd
  · refine EvsOn_snoc (EvsOn_congr (fun j h1 h2 => ?_) h.on) ⟨bRec id n (1 + evLen evs), r, ?_, rfl, rfl, rfl, rfl, rfl, ?_, h1, h2, h3, h4⟩
    · rw [raw_look, raw_look, getD_set_ne _ _ _ _ (by omega)]
    · rw [raw_look, getD_set_ne _ _ _ _ (by omega), hb]; exact parse_bod id n _ hi hn (by omega)
    · rw [raw_look, getD_set_self _ _ _ (by omega)]; exact hX
  · rw [hl, getD_set_ne _ _ _ _ (by omega), h.zero _ (by omega) (by omega)]; exact junk_zer
  · rw [hl, List.length_set]
    intro i h1 h2
    rw [getD_set_ne _ _ _ _ (by omega)]; exact h.zero i (by omega) h2
  · rw [hl, List.length_set]; omega
theorem JD.stop {bs : List (List UInt8)} {evs : List Ev} {d : DiskM} (h : JD bs evs) (hl : ∀ i, d.look i = bs.getD i []) (hn : d.blocks.length = bs.length) :
    (∃ r0, parseM (d.look 0) = some (r0, true) ∧ r0.kind = 1 ∧ r0.epoch = 1) ∧ EvsOn d 1 1 evs ∧ JStop d 1 (1 + evLen evs) := by
  refine ⟨by rw [hl, h.hd]; exact parse_hdr, EvsOn_congr (fun j _ _ => by rw [hl, raw_look]) h.on, ?_⟩
  obtain ⟨r, ok, hr, hk⟩ := junk_parse h.junk
  obtain ⟨rz, hz⟩ := parse_zer
  refine ⟨r, ok, by rw [hl]; exact hr, ?_⟩
  by_cases h2 : r.kind = 2
  · exact .inr (.inr ⟨h2, by rw [hn]; have := h.room; omega, rz, false, by rw [hl, h.zero _ (by omega) (by have := h.room; omega)]; exact hz, .inl rfl⟩)
  · exact .inr (.inl ⟨hk, h2⟩)
/-- What a reader sees. -/
def DiskM.seen (d : DiskM) : List (List UInt8) := match d.pend with | some (i, b) => d.blocks.set i b | none => d.blocks
theorem seen_len (d : DiskM) : d.seen.length = d.blocks.length := by
  unfold DiskM.seen; split <;> simp
theorem seen_look {d : DiskM} (h : d.wf) (i : Nat) : d.look i = d.seen.getD i [] := by
  unfold DiskM.look DiskM.seen
  cases hp : d.pend with
  | none => rfl
  | some p =>
    obtain ⟨j, b⟩ := p
    have := (h.2 _ hp).1
    simp only
    by_cases e : j = i
    · subst e; rw [if_pos rfl, getD_set_self _ _ _ this]
    · rw [if_neg e, getD_set_ne _ _ _ _ e]
/-- A disk with a journal: what is sure, and what is seen. -/
structure DJ (d : DiskM) (evs0 evs : List Ev) : Prop where
  sure : JD d.blocks evs0
  seen : JD d.seen evs
  ok0 : EvsOk [] evs0
  ok : EvsOk [] evs
  clean : d.pend = none → evs0 = evs
  after : ∀ ks, JD (d.after ks).blocks evs0 ∨ JD (d.after ks).blocks evs
theorem DJ.mk_clean {d : DiskM} {evs : List Ev} (h : JD d.blocks evs) (hp : d.pend = none) (hok : EvsOk [] evs) : DJ d evs evs := by
  have hs : d.seen = d.blocks := by unfold DiskM.seen; rw [hp]
  refine ⟨h, by rw [hs]; exact h, hok, hok, fun _ => rfl, fun ks => .inl ?_⟩
  have : (d.after ks).blocks = d.blocks := by simp [DiskM.after, hp]
  rw [this]; exact h
theorem DJ.flush {d : DiskM} {evs0 evs : List Ev} (h : DJ d evs0 evs) : DJ d.flush evs evs := by
  refine DJ.mk_clean ?_ rfl h.ok
  have : d.flush.blocks = d.seen := rfl
  rw [this]; exact h.seen
theorem DJ.same {d d' : DiskM} {evs0 evs : List Ev} (h : DJ d evs0 evs) (hb : d'.blocks = d.blocks) (hp : d'.pend = d.pend) : DJ d' evs0 evs := by
  have hs : d'.seen = d.seen := by unfold DiskM.seen; rw [hp, hb]
  have ha : ∀ ks, (d'.after ks).blocks = (d.after ks).blocks := fun ks => by simp only [DiskM.after, hp, hb]
  exact ⟨by rw [hb]; exact h.sure, by rw [hs]; exact h.seen, h.ok0, h.ok, fun e => h.clean (by rw [← hp]; exact e), fun ks => by rw [ha]; exact h.after ks⟩
theorem DJ.count {d : DiskM} {evs0 evs : List Ev} (h : DJ d evs0 evs) : DJ d.count evs0 evs := h.same rfl rfl
theorem DJ.put_blocks {d : DiskM} {evs : List Ev} (h : DJ d evs evs) (hp : d.pend = none) : JD d.blocks evs := h.sure
/-- A write is on its way. -/
theorem DJ.put {d : DiskM} {evs evs' : List Ev} {i : Nat} {l : List UInt8} (h : JD d.blocks evs) (ho : EvsOk [] evs) (ho' : EvsOk [] evs') (h1 : JD (d.blocks.set i (padB l)) evs') (h2 : ∀ k, JD (d.blocks.set i (tearB (d.blocks.getD i []) (padB l) k 4)) evs ∨ JD (d.blocks.set i (tearB (d.blocks.getD i []) (padB l) k 4)) evs') :
    DJ (d.put i l) evs evs' := by
  refine ⟨h, h1, ho, ho', fun e => by (cases e), fun ks => ?_⟩
  cases ks with
  | nil => exact .inl h
  | cons k ks => exact h2 k
theorem set_same2 (l : List (List UInt8)) (i : Nat) (x : List UInt8) (h : l.getD i [] = x) (hi : i < l.length) : l.set i x = l := by
  subst h
  rw [List.getD_eq_getElem?_getD, List.getElem?_eq_getElem hi, Option.getD_some, List.set_getElem_self]
/-- A record that moves a saga. -/
theorem DJ.moved {d : DiskM} {evs : List Ev} {id rp : Int} (h : DJ d evs evs) (hp : d.pend = none) (ho : EvsOk [] (evs ++ [.moved id rp])) (hr : (⟨4, 1, 1 + evLen evs, id.toNat, rp.toNat, []⟩ : RecM).ok) (hl : 3 + evLen evs < d.blocks.length) :
    DJ (d.put (1 + evLen evs) (recBytes ⟨4, 1, 1 + evLen evs, id.toNat, rp.toNat, []⟩)) evs (evs ++ [.moved id rp]) := by
  refine DJ.put h.sure h.ok ho ?_ (fun k => ?_)
  · refine h.sure.moved (r := ⟨4, 1, 1 + evLen evs, id.toNat, rp.toNat, []⟩) ?_ rfl rfl rfl rfl rfl hl
    rw [pad_short _ (by show (4 : Nat) ≠ 2; decide)]
    exact parse_short _ _ hr (by show (4 : Nat) ≠ 2; decide) (by show 1 ≤ 4 ∧ 4 ≤ 4; decide)
  · rcases junk_short h.sure.junk ⟨4, 1, 1 + evLen evs, id.toNat, rp.toNat, []⟩ hr (.inr (.inr rfl)) k with e | e
    · exact .inr (h.sure.moved e rfl rfl rfl rfl rfl hl)
    · exact .inl (h.sure.junked e)
theorem DJ.bodied {d : DiskM} {evs : List Ev} {id : Int} {n : Nat} (h : DJ d evs evs) (hp : d.pend = none) (hi : 1 ≤ id ∧ id ≤ 3) (hn : 1 ≤ n ∧ n ≤ 6) :
    DJ (d.put (1 + evLen evs) (recBytes (bRec id n (1 + evLen evs)))) evs evs :=
  DJ.put h.sure h.ok h.ok (h.sure.junked (junk_bod id n _ hi hn)) (fun k => .inl (h.sure.junked (junk_body h.sure.junk id n _ hi hn k)))
theorem DJ.taken {d : DiskM} {evs : List Ev} {id : Int} {n : Nat} (h : DJ d evs evs) (hp : d.pend = none) (hb : d.blocks.getD (1 + evLen evs) [] = bod id n (1 + evLen evs)) (hi : 1 ≤ id ∧ id ≤ 3) (hn : 1 ≤ n ∧ n ≤ 6) (ho : EvsOk [] (evs ++ [.taken id (kSteps id n)])) (hl : 4 + evLen evs < d.blocks.length) (hx : d.blocks.length ≤ 1000) :
    DJ (d.put (1 + evLen evs + 1) (recBytes ⟨3, 1, 1 + evLen evs + 1, id.toNat, 0, []⟩)) evs (evs ++ [.taken id (kSteps id n)]) := by
  have hr : (⟨3, 1, 1 + evLen evs + 1, id.toNat, 0, []⟩ : RecM).ok := ⟨by show 3 < 256; omega, by show 1 < 2 ^ 32; omega, by show 1 + evLen evs + 1 < 65536; omega, by show id.toNat < 65536; omega, by show 0 < 256; omega, fun _ => rfl, fun h => by (cases h)⟩
  have hz := h.sure.zero (1 + evLen evs + 1) (by omega) (by omega)
  refine DJ.put h.sure h.ok ho ?_ (fun k => ?_)
  · refine h.sure.taken (r := ⟨3, 1, 1 + evLen evs + 1, id.toNat, 0, []⟩) hi hn hb ?_ rfl rfl rfl rfl hl hx
    rw [pad_short _ (by show (3 : Nat) ≠ 2; decide)]
    exact parse_short _ _ hr (by show (3 : Nat) ≠ 2; decide) (by show 1 ≤ 3 ∧ 3 ≤ 4; decide)
  · rw [hz, zer_two, pad_two _ (by show (3 : Nat) ≠ 2; decide), tear_two _ _ _ _ _ rfl (secS_len _) rfl rfl]
    have e2 : (if bitK k 1 = true then z32 else z32) = z32 := by split <;> rfl
    rw [e2]
    by_cases h0 : bitK k 0 = true
    · rw [if_pos h0]
      refine .inr (h.sure.taken (r := ⟨3, 1, 1 + evLen evs + 1, id.toNat, 0, []⟩) hi hn hb ?_ rfl rfl rfl rfl hl hx)
      unfold two
      rw [List.append_assoc]
      exact parse_short _ _ hr (by show (3 : Nat) ≠ 2; decide) (by show 1 ≤ 3 ∧ 3 ≤ 4; decide)
    · rw [if_neg h0, ← zer_two, set_same2 _ _ zer hz (by omega)]
      exact .inl h.sure
end Go.Proofs.YtkafmfdipmhleaaGreatDoor

namespace Go.Proofs.YtkafmfdipmhleaaGreatDoor
open Go.RowKit Go.Maps

/-- What a journal knows of a saga. -/
def SagaM.core (g : SagaM) : Int × Int × Int × List (ByteArray × ByteArray) := (g.id, g.st, g.step, g.steps)
theorem core_id {g f : SagaM} (h : g.core = f.core) : g.id = f.id := congrArg (·.1) h
theorem core_st {g f : SagaM} (h : g.core = f.core) : g.st = f.st := congrArg (·.2.1) h
theorem core_moved {g f : SagaM} (h : g.core = f.core) (rp : Int) : g.moved rp = f.moved rp := by
  obtain ⟨a1, a2, a3, a4, a5, a6⟩ := g
  obtain ⟨b1, b2, b3, b4, b5, b6⟩ := f
  simp only [SagaM.core, Prod.mk.injEq] at h
  obtain ⟨rfl, rfl, rfl, rfl⟩ := h
  rfl
theorem core_get {F S : List SagaM} (h : F.map SagaM.core = S.map SagaM.core) (i : Nat) {x : SagaM} (hx : S[i]? = some x) : ∃ f, F[i]? = some f ∧ f.core = x.core := by
  have h1 : (F.map SagaM.core)[i]? = (S.map SagaM.core)[i]? := by rw [h]
  rw [List.getElem?_map, List.getElem?_map, hx] at h1
  cases hf : F[i]? with
  | none => rw [hf] at h1; cases h1
  | some f => rw [hf] at h1; exact ⟨f, rfl, Option.some.inj h1⟩
theorem core_ids {F S : List SagaM} (h : F.map SagaM.core = S.map SagaM.core) : F.map (·.id) = S.map (·.id) := by
  have h1 : (F.map SagaM.core).map (·.1) = (S.map SagaM.core).map (·.1) := by rw [h]
  rw [List.map_map, List.map_map] at h1
  exact h1
theorem ord_ne2 {S : List SagaM} (ho : S.Pairwise (fun a b => a.id < b.id)) {i k : Nat} {x g : SagaM} (hx : S[i]? = some x) (hg : S[k]? = some g) (h : i ≠ k) : x.id ≠ g.id := by
  obtain ⟨p1, q1⟩ := List.getElem?_eq_some_iff.1 hx
  obtain ⟨p2, q2⟩ := List.getElem?_eq_some_iff.1 hg
  have hpw := List.pairwise_iff_getElem.1 ho
  rcases Nat.lt_or_ge i k with h3 | h3
  · have := hpw i k p1 p2 h3
    rw [q1, q2] at this; omega
  · have := hpw k i p2 p1 (by omega)
    rw [q1, q2] at this; omega
theorem core_apply {F S : List SagaM} (h : F.map SagaM.core = S.map SagaM.core) (ho : S.Pairwise (fun a b => a.id < b.id)) {k : Nat} {g : SagaM} (hg : S[k]? = some g) (rp : Int) :
    (applyEv F (.moved g.id rp)).map SagaM.core = (S.set k (g.moved rp)).map SagaM.core := by
  apply List.ext_getElem?
  intro i
  have hl : F.length = S.length := by simpa using congrArg List.length h
  show ((F.map (fun x => if x.id = g.id then x.moved rp else x)).map SagaM.core)[i]? = _
  rw [List.getElem?_map, List.getElem?_map, List.getElem?_map]
  by_cases e : i = k
  · subst e
    obtain ⟨f, hf, hc⟩ := core_get h i hg
    rw [List.getElem?_set_self (List.getElem?_eq_some_iff.1 hg).1, hf]
    show some (SagaM.core (if f.id = g.id then f.moved rp else f)) = some (SagaM.core (g.moved rp))
    rw [if_pos (core_id hc), core_moved hc]
  · rw [List.getElem?_set_ne (fun h => e h.symm)]
    cases hx : S[i]? with
    | none =>
      have : F[i]? = none := by
        rw [List.getElem?_eq_none_iff] at hx ⊢; omega
      rw [this]; rfl
    | some x =>
      obtain ⟨f, hf, hc⟩ := core_get h i hx
      rw [hf]
      show some (SagaM.core (if f.id = g.id then f.moved rp else f)) = some (SagaM.core x)
      have hne := ord_ne2 ho hx hg e
      rw [if_neg (by rw [core_id hc]; exact hne), hc]
theorem core_pause {S : List SagaM} {k : Nat} {g g' : SagaM} (hg : S[k]? = some g) (hc : g'.core = g.core) : (S.set k g').map SagaM.core = S.map SagaM.core := by
  apply List.ext_getElem?
  intro i
  rw [List.getElem?_map, List.getElem?_map]
  by_cases e : i = k
  · subst e
    rw [List.getElem?_set_self (List.getElem?_eq_some_iff.1 hg).1, hg]
    show some g'.core = some g.core
    rw [hc]
  · rw [List.getElem?_set_ne (fun h => e h.symm)]
theorem core_ins {F S : List SagaM} (h : F.map SagaM.core = S.map SagaM.core) (g : SagaM) : (insSaga g F).map SagaM.core = (insSaga g S).map SagaM.core := by
  induction F generalizing S with
  | nil =>
    cases S with
    | nil => rfl
    | cons x S => cases h
  | cons f F ih =>
    cases S with
    | nil => cases h
    | cons x S =>
      simp only [List.map_cons, List.cons.injEq] at h
      have hid := core_id h.1
      simp only [insSaga]
      rw [hid]
      split
      · simp only [List.map_cons, h.1, h.2]
      · simp only [List.map_cons, h.1, ih h.2]
/-- An engine and its journal. -/
structure JS (s : StM) (evs0 evs : List Ev) : Prop where
  dj : DJ s.d evs0 evs
  ep : s.j.epoch = 1
  en : s.j.en = 1 + evLen evs
  core : (evs.foldl applyEv []).map SagaM.core = s.sagas.map SagaM.core
theorem DJ.sureG {d : DiskM} {evs evs' : List Ev} {i : Nat} {l : List UInt8} (h : DJ d evs evs) (hp : DJ (d.put i l) evs evs') :
    ((d.sureG i l).2 = true → DJ (d.sureG i l).1 evs' evs' ∧ (d.sureG i l).1.blocks = d.blocks.set i (padB l)) ∧ ((d.sureG i l).2 = false → DJ (d.sureG i l).1 evs evs ∨ DJ (d.sureG i l).1 evs evs') := by
  unfold DiskM.sureG
  split
  · exact ⟨fun h => by (cases h), fun _ => .inl h.count⟩
  · split
    · exact ⟨fun h => by (cases h), fun _ => .inr hp.count⟩
    · exact ⟨fun _ => ⟨hp.flush, rfl⟩, fun h => by (cases h)⟩
theorem JS.settle {s : StM} {evs0 evs : List Ev} (h : JS s evs0 evs) (hi : s.inv0) : DJ (settleD s.j s.d) evs evs ∧ (settleD s.j s.d).pend = none := by
  refine ⟨?_, settle_pend' _ _ hi.pend⟩
  unfold settleD
  split
  · exact h.dj.flush
  · rename_i h1
    have h2 := h.dj.clean (hi.pend (by simpa using h1))
    have h3 := h.dj
    rw [h2] at h3; exact h3
theorem JS.keep {s t : StM} {evs0 evs : List Ev} (h : JS s evs0 evs) (h1 : t.j.epoch = s.j.epoch) (h2 : t.j.en = s.j.en) (h3 : t.sagas.map SagaM.core = s.sagas.map SagaM.core) {e0 : List Ev} (hd : DJ t.d e0 evs) : JS t e0 evs :=
  ⟨hd, by rw [h1]; exact h.ep, by rw [h2]; exact h.en, by rw [h3]; exact h.core⟩
theorem moved_ok {s : StM} {evs0 evs : List Ev} (h : JS s evs0 evs) {k : Nat} {g : SagaM} (hg : s.sagas[k]? = some g) (hst : g.st = 1 ∨ g.st = 2) {rp : Int} (hr : 0 ≤ rp) : EvsOk [] (evs ++ [.moved g.id rp]) := by
  refine EvsOk_snoc h.dj.ok ⟨hr, ?_⟩
  obtain ⟨f, hf, hc⟩ := core_get h.core k hg
  exact ⟨f, List.mem_of_getElem? hf, core_id hc, by rw [core_st hc]; exact hst⟩
theorem reply_cases {g : SagaM} {p : PartM} (hm : g.moves (g.reply p) = true) : g.reply p = 0 ∨ g.reply p = 2 := by
  simp [SagaM.moves] at hm
  exact hm.imp id (fun h => h.1)
theorem appendA_one {d : DiskM} {en : Nat} {r : RecM} : d.appendA ⟨1, en, false⟩ [r] = ((d.sureG en (recBytes (placed r 1 en))).1, (d.sureG en (recBytes (placed r 1 en))).2) := by
  unfold DiskM.appendA
  rw [if_neg (by rintro ⟨h, _⟩; cases h)]
  simp only [settleD, DiskM.appendG, Bool.false_eq_true, if_false]
  split
  · rename_i h; rw [h]
  · rename_i h; simp at h; rw [h]
/-- A saga's turn. -/
theorem stepG_JS {s : StM} {k : Nat} {evs0 evs : List Ev} (h : JS s evs0 evs) (hi : s.inv0) (hl : 3 + evLen evs < s.d.blocks.length) :
    ∃ e0 e1, DJ (s.stepG k).1.d e0 e1 ∧ ((s.stepG k).2 = true → JS (s.stepG k).1 e0 e1) ∧ (e0 = evs0 ∨ e0 = evs ∨ e0 = e1) ∧
      (e1 = evs ∨ ∃ g, s.sagas[k]? = some g ∧ g.waits s.clock = true ∧ g.moves (g.reply s.p) = true ∧ e1 = evs ++ [.moved g.id (g.reply s.p)]) := by
  cases hg : s.sagas[k]? with
  | none => simp only [StM.stepG, hg]; exact ⟨evs0, evs, h.dj, fun _ => h, .inl rfl, .inl rfl⟩
  | some g =>
    by_cases hw : g.waits s.clock = false
    · simp only [StM.stepG, hg, hw, if_true]; exact ⟨evs0, evs, h.dj, fun _ => h, .inl rfl, .inl rfl⟩
    · have hw : g.waits s.clock = true := by simpa using hw
      by_cases hset : s.j.fresh = true ∧ s.d.bad = true
      · rw [stepG_unset hg hw hset]
        exact ⟨evs0, evs, h.dj.count, fun h => by (cases h), .inl rfl, .inl rfl⟩
      have hset : s.j.fresh = false ∨ s.d.bad = false := by
        cases h1 : s.j.fresh
        · exact .inl rfl
        · cases h2 : s.d.bad
          · exact .inr rfl
          · exact absurd ⟨h1, h2⟩ hset
      have hmem : g ∈ s.sagas := List.mem_of_getElem? hg
      have hgo := hi.ok g hmem
      have hst := waits_st hgo hw
      obtain ⟨hd, hp⟩ := h.settle hi
      by_cases hm : g.moves (g.reply s.p) = false
      · rw [stepG_vain hg hw hset hm]
        exact ⟨evs, evs, hd, fun _ => ⟨hd, h.ep, h.en, h.core.trans (core_pause (g' := g.paused s.clock s.pause) hg rfl).symm⟩, .inr (.inl rfl), .inl rfl⟩
      · have hm : g.moves (g.reply s.p) = true := by simpa using hm
        rw [stepG_moved hg hw hset hm]
        have hrp := reply_cases hm
        generalize hrpe : g.reply s.p = rp at hrp ⊢
        have hids := And.intro hgo.1 hgo.2.1
        have ho := moved_ok h hg hst (rp := rp) (by omega)
        have hlen : (settleD s.j s.d).blocks.length = s.d.blocks.length := settle_len' _ _
        have hix : 1 + evLen evs < 65536 := by have := hi.size; omega
        have hput := DJ.moved hd hp ho ⟨by show 4 < 256; omega, by show 1 < 2 ^ 32; omega, hix, by show g.id.toNat < 65536; omega, by show rp.toNat < 256; omega, fun _ => rfl, fun h => by (cases h)⟩ (by rw [hlen]; exact hl)
        obtain ⟨s1, s2⟩ := hd.sureG hput
        have hA : (settleD s.j s.d).appendA ⟨s.j.epoch, s.j.en, false⟩ [⟨4, 0, 0, g.id.toNat, rp.toNat, []⟩] = (((settleD s.j s.d).sureG (1 + evLen evs) (recBytes ⟨4, 1, 1 + evLen evs, g.id.toNat, rp.toNat, []⟩)).1, ((settleD s.j s.d).sureG (1 + evLen evs) (recBytes ⟨4, 1, 1 + evLen evs, g.id.toNat, rp.toNat, []⟩)).2) := by
          rw [h.ep, h.en]; exact appendA_one
        by_cases hok : ((settleD s.j s.d).sureG (1 + evLen evs) (recBytes ⟨4, 1, 1 + evLen evs, g.id.toNat, rp.toNat, []⟩)).2 = true
        · rw [movedG_ok (by rw [hA]; exact hok)]
          have hd1 := (s1 hok).1
          have hd2 : DJ ((settleD s.j s.d).appendA ⟨s.j.epoch, s.j.en, false⟩ [⟨4, 0, 0, g.id.toNat, rp.toNat, []⟩]).1 (evs ++ [.moved g.id rp]) (evs ++ [.moved g.id rp]) := by rw [hA]; exact hd1
          refine ⟨evs ++ [.moved g.id rp], evs ++ [.moved g.id rp], hd2, fun _ => ⟨hd2, h.ep, ?_, ?_⟩, .inr (.inr rfl), .inr ⟨g, rfl, hw, hm, by rw [hrpe]⟩⟩
          · show s.j.en + 1 = _
            rw [evLen_snoc, h.en]; rfl
          · rw [List.foldl_append]
            exact core_apply h.core hi.ord hg rp
        · have hok : ((settleD s.j s.d).sureG (1 + evLen evs) (recBytes ⟨4, 1, 1 + evLen evs, g.id.toNat, rp.toNat, []⟩)).2 = false := by simpa using hok
          rw [movedG_bad (by rw [hA]; exact hok)]
          rcases s2 hok with hd1 | hd1
          · refine ⟨evs, evs, ?_, fun h => by (cases h), .inr (.inl rfl), .inl rfl⟩
            show DJ ((settleD s.j s.d).appendA ⟨s.j.epoch, s.j.en, false⟩ [⟨4, 0, 0, g.id.toNat, rp.toNat, []⟩]).1 evs evs
            rw [hA]; exact hd1
          · refine ⟨evs, evs ++ [.moved g.id rp], ?_, fun h => by (cases h), .inr (.inl rfl), .inr ⟨g, rfl, hw, hm, by rw [hrpe]⟩⟩
            show DJ ((settleD s.j s.d).appendA ⟨s.j.epoch, s.j.en, false⟩ [⟨4, 0, 0, g.id.toNat, rp.toNat, []⟩]).1 evs _
            rw [hA]; exact hd1
end Go.Proofs.YtkafmfdipmhleaaGreatDoor

namespace Go.Proofs.YtkafmfdipmhleaaGreatDoor
open Go.RowKit Go.Maps

theorem sureG_quiet {d : DiskM} (h : d.quiet) (i : Nat) (l : List UInt8) : d.sureG i l = (d.sure i l, true) := by
  unfold DiskM.sureG
  rw [h.bad, (h.put i l).bad]; rfl
theorem appendG_quiet {d : DiskM} (h : d.quiet) (ep ix : Nat) (rs : List RecM) : d.appendG ep ix rs = (d.append ep ix rs, true) := by
  induction rs generalizing d ix with
  | nil => rfl
  | cons r rs ih =>
    simp only [DiskM.appendG, sureG_quiet h, if_true]
    rw [ih (d := d.sure ix _) ((h.put _ _).flush)]; rfl
theorem appendA_quiet {d : DiskM} (h : d.quiet) (j : JnM) (rs : List RecM) : d.appendA j rs = ((settleD j d).append j.epoch j.en rs, true) := by
  unfold DiskM.appendA
  rw [if_neg (by rintro ⟨_, e⟩; rw [h.bad] at e; cases e), appendG_quiet (settle_quiet _ _ h)]
theorem submitG_quiet {s : StM} (h : s.d.quiet) (id : Int) (l : List (ByteArray × ByteArray)) : s.submitG id l = s.submit id l := by
  unfold StM.submitG StM.submit
  rw [appendA_quiet h]
theorem stepG_quiet {s : StM} (h : s.d.quiet) (k : Nat) : s.stepG k = (s.stepOne k, true) := by
  cases hg : s.sagas[k]? with
  | none => simp only [StM.stepG, StM.stepOne, hg]
  | some g =>
    by_cases hw : g.waits s.clock = false
    · simp only [StM.stepG, StM.stepOne, hg, hw, if_true]
    · have hw : g.waits s.clock = true := by simpa using hw
      have hset : s.j.fresh = false ∨ s.d.bad = false := .inr h.bad
      by_cases hm : g.moves (g.reply s.p) = false
      · rw [stepG_vain hg hw hset hm]
        simp only [StM.stepOne, hg, hw, hm, Bool.true_eq_false, if_false, if_true]
      · have hm : g.moves (g.reply s.p) = true := by simpa using hm
        have hA := appendA_quiet (settle_quiet s.j _ h) ⟨s.j.epoch, s.j.en, false⟩ [⟨4, 0, 0, g.id.toNat, (g.reply s.p).toNat, []⟩]
        have hst : ∀ d : DiskM, settleD ⟨s.j.epoch, s.j.en, false⟩ d = d := fun _ => rfl
        rw [hst] at hA
        rw [stepG_moved hg hw hset hm, movedG_ok (by rw [hA]), hA]
        simp only [StM.stepOne, hg, hw, hm, Bool.true_eq_false, if_false]
theorem runG_quiet {s : StM} {m : Nat} (h : s.inv) (k : Nat) (hf : s.fine (m + k)) : s.runG (List.range k) = ((List.range k).foldl StM.stepOne s, true) := by
  induction k generalizing m with
  | zero => rfl
  | succ k ih =>
    have h1 := ih (m := m + 1) (by rw [show m + 1 + k = m + (k + 1) by omega]; exact hf)
    have h2 := fold_inv (m := m + 1) (List.range k) s h (by rw [List.length_range, show m + 1 + k = m + (k + 1) by omega]; exact hf)
    rw [runG_succ s k (by rw [h1]), h1, List.range_succ, List.foldl_append]
    exact stepG_quiet h2.1.quiet k
theorem tickG_quiet {s : StM} {m : Nat} (h : s.inv) (hf : s.fine (m + s.sagas.length)) : s.tickG = (s.tick, true) :=
  runG_quiet (s := { s with clock := s.clock + 1 }) (inv_clock h _) _ hf
/-- A Submit. -/
theorem submitG_JS {s : StM} {id : Int} {n : Nat} {evs0 evs : List Ev} (h : JS s evs0 evs) (hi : s.inv0) (hid : 1 ≤ id ∧ id ≤ 3) (hn : 1 ≤ n ∧ n ≤ 6) (hnew : ∀ x ∈ s.sagas, x.id ≠ id) (hl : 4 + evLen evs < s.d.blocks.length) :
    ∃ e0 e1, DJ (s.d.appendA s.j [bodyRec id (kSteps id n), takenRec id]).1 e0 e1 ∧ ((s.d.appendA s.j [bodyRec id (kSteps id n), takenRec id]).2 = true → JS (s.submitG id (kSteps id n)) e0 e1 ∧ e1 = evs ++ [.taken id (kSteps id n)]) ∧ (e0 = evs0 ∨ e0 = evs ∨ e0 = e1) ∧
      (e1 = evs ∨ e1 = evs ++ [.taken id (kSteps id n)]) := by
  by_cases hset : s.j.fresh = true ∧ s.d.bad = true
  · have hA : s.d.appendA s.j [bodyRec id (kSteps id n), takenRec id] = (s.d.count, false) := by unfold DiskM.appendA; rw [if_pos hset]
    rw [hA]
    exact ⟨evs0, evs, h.dj.count, fun h => by (cases h), .inl rfl, .inl rfl⟩
  · obtain ⟨hd, hp⟩ := h.settle hi
    have hlen : (settleD s.j s.d).blocks.length = s.d.blocks.length := settle_len' _ _
    have hbx := hi.size
    have hA : s.d.appendA s.j [bodyRec id (kSteps id n), takenRec id] = (settleD s.j s.d).appendG 1 (1 + evLen evs) [bodyRec id (kSteps id n), takenRec id] := by
      unfold DiskM.appendA; rw [if_neg hset, h.ep, h.en]
    have ho : EvsOk [] (evs ++ [.taken id (kSteps id n)]) := by
      refine EvsOk_snoc h.dj.ok ⟨fun x hx => ?_, by omega, by omega, (whole_small (kSteps_whole id n (by omega) hn)).2.2⟩
      have h1 : x.id ∈ s.sagas.map (·.id) := by
        rw [← core_ids h.core]; exact List.mem_map_of_mem hx
      obtain ⟨y, hy, hxy⟩ := List.mem_map.1 h1
      rw [← hxy]; exact hnew y hy
    have hput := DJ.bodied (id := id) (n := n) hd hp hid hn
    obtain ⟨s1, s2⟩ := hd.sureG hput
    have hb1 : recBytes (placed (bodyRec id (kSteps id n)) 1 (1 + evLen evs)) = recBytes (bRec id n (1 + evLen evs)) := rfl
    have hb2 : recBytes (placed (takenRec id) 1 (1 + evLen evs + 1)) = recBytes ⟨3, 1, 1 + evLen evs + 1, id.toNat, 0, []⟩ := rfl
    have hbod : padB (recBytes (bRec id n (1 + evLen evs))) = bod id n (1 + evLen evs) := rfl
    by_cases hok : ((settleD s.j s.d).sureG (1 + evLen evs) (recBytes (bRec id n (1 + evLen evs)))).2 = true
    · obtain ⟨hd1, hbl⟩ := s1 hok
      have hp1 := sureG_pend _ _ _ hok
      have hl1 := sureG_len (settleD s.j s.d) (1 + evLen evs) (recBytes (bRec id n (1 + evLen evs)))
      have hA2 : s.d.appendA s.j [bodyRec id (kSteps id n), takenRec id] =
          ((((settleD s.j s.d).sureG (1 + evLen evs) (recBytes (bRec id n (1 + evLen evs)))).1.sureG (1 + evLen evs + 1) (recBytes ⟨3, 1, 1 + evLen evs + 1, id.toNat, 0, []⟩)).1,
           (((settleD s.j s.d).sureG (1 + evLen evs) (recBytes (bRec id n (1 + evLen evs)))).1.sureG (1 + evLen evs + 1) (recBytes ⟨3, 1, 1 + evLen evs + 1, id.toNat, 0, []⟩)).2) := by
        rw [hA]
        simp only [DiskM.appendG, hb1, hb2, hok, if_true]
        split
        · rename_i h; rw [h]
        · rename_i h; simp at h; rw [h]
      generalize ((settleD s.j s.d).sureG (1 + evLen evs) (recBytes (bRec id n (1 + evLen evs)))).1 = d1 at hd1 hbl hp1 hl1 hA2
      have hput2 := DJ.taken (id := id) (n := n) hd1 hp1 (by rw [hbl, getD_set_self _ _ _ (by omega)]; exact hbod) hid hn ho (by omega) (by omega)
      obtain ⟨t1, t2⟩ := hd1.sureG hput2
      rw [hA2]
      by_cases hok2 : (d1.sureG (1 + evLen evs + 1) (recBytes ⟨3, 1, 1 + evLen evs + 1, id.toNat, 0, []⟩)).2 = true
      · have hd2 := (t1 hok2).1
        refine ⟨_, _, hd2, fun _ => ⟨⟨?_, h.ep, ?_, ?_⟩, rfl⟩, .inr (.inr rfl), .inr rfl⟩
        · show DJ (s.d.appendA s.j [bodyRec id (kSteps id n), takenRec id]).1 _ _
          rw [hA2]; exact hd2
        · show s.j.en + 2 = _
          rw [evLen_snoc, h.en]; rfl
        · rw [List.foldl_append]
          exact core_ins h.core _
      · have hok2 : (d1.sureG (1 + evLen evs + 1) (recBytes ⟨3, 1, 1 + evLen evs + 1, id.toNat, 0, []⟩)).2 = false := by simpa using hok2
        rcases t2 hok2 with hd2 | hd2
        · exact ⟨evs, evs, hd2, fun h => by (rw [hok2] at h; cases h), .inr (.inl rfl), .inl rfl⟩
        · exact ⟨evs, _, hd2, fun h => by (rw [hok2] at h; cases h), .inr (.inl rfl), .inr rfl⟩
    · have hok : ((settleD s.j s.d).sureG (1 + evLen evs) (recBytes (bRec id n (1 + evLen evs)))).2 = false := by simpa using hok
      have hA2 : s.d.appendA s.j [bodyRec id (kSteps id n), takenRec id] = (((settleD s.j s.d).sureG (1 + evLen evs) (recBytes (bRec id n (1 + evLen evs)))).1, false) := by
        rw [hA]
        simp only [DiskM.appendG, hb1, hok, Bool.false_eq_true, if_false]
      rw [hA2]
      refine ⟨evs, evs, ?_, fun h => by (cases h), .inr (.inl rfl), .inl rfl⟩
      rcases s2 hok with hd1 | hd1 <;> exact hd1
theorem stepG_len {s : StM} {k : Nat} : (s.stepG k).1.d.blocks.length = s.d.blocks.length := by
  unfold StM.stepG StM.movedG
  cases s.sagas[k]? with
  | none => rfl
  | some g =>
    simp only
    split
    · rfl
    · split
      · rfl
      · split
        · exact settle_len' _ _
        · split
          · simp only; rw [appendA_len, settle_len']
          · simp only; rw [appendA_len, settle_len']
theorem runG_len {s : StM} (k : Nat) : (s.runG (List.range k)).1.d.blocks.length = s.d.blocks.length := by
  induction k with
  | zero => rfl
  | succ k ih =>
    by_cases h : (s.runG (List.range k)).2 = true
    · rw [runG_succ s k h, stepG_len, ih]
    · rw [runG_stop s k (k + 1) (by omega) (by simpa using h), ih]
/-- Turns, one behind the other: what holds of the journal's events, if a move more keeps it. -/
theorem runG_JS {s : StM} {m : Nat} {evs0 evs : List Ev} (P : Nat → List Ev → Prop) (h : JS s evs0 evs) (hi : s.inv0) (hr : s.roomy) (k : Nat) (hf : s.fine (m + k)) (hP : ∀ j e, P j e → P (j + 1) e) (hPm : ∀ j e id rp, P j e → P (j + 1) (e ++ [.moved id rp]))
    (hlen : ∀ j e, j ≤ k → P j e → 3 + evLen e < s.d.blocks.length) (h0 : P 0 evs0) (h1 : P 0 evs) :
    ∃ e0 e1, DJ (s.runG (List.range k)).1.d e0 e1 ∧ ((s.runG (List.range k)).2 = true → JS (s.runG (List.range k)).1 e0 e1) ∧ P k e0 ∧ P k e1 := by
  induction k generalizing m with
  | zero => exact ⟨evs0, evs, h.dj, fun _ => h, h0, h1⟩
  | succ k ih =>
    obtain ⟨e0, e1, i1, i2, i3, i4⟩ := ih (m := m + 1) (by rw [show m + 1 + k = m + (k + 1) by omega]; exact hf) (fun j e hj => hlen j e (by omega))
    by_cases hok : (s.runG (List.range k)).2 = true
    · have hJ := i2 hok
      have hinv := runG_inv (m := m + 1) hi hr k (by rw [show m + 1 + k = m + (k + 1) by omega]; exact hf) hok
      rw [runG_succ s k hok]
      obtain ⟨f0, f1, j1, j2, j3, j4⟩ := stepG_JS (k := k) hJ hinv.1 (by rw [runG_len]; exact hlen k e1 (by omega) i4)
      have p1 : P (k + 1) f1 := by
        rcases j4 with rfl | ⟨g, _, _, _, rfl⟩
        · exact hP _ _ i4
        · exact hPm _ _ _ _ i4
      refine ⟨f0, f1, j1, j2, ?_, p1⟩
      rcases j3 with rfl | rfl | rfl
      · exact hP _ _ i3
      · exact hP _ _ i4
      · exact p1
    · have hok : (s.runG (List.range k)).2 = false := by simpa using hok
      rw [runG_stop s k (k + 1) (by omega) hok]
      exact ⟨e0, e1, i1, fun h => by (rw [hok] at h; cases h), hP _ _ i3, hP _ _ i4⟩
end Go.Proofs.YtkafmfdipmhleaaGreatDoor
