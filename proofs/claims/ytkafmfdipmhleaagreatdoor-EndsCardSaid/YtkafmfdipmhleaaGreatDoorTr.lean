/-
  What is proved: one saga's turn in a Tick.
-/
import Derived.Test.YtkafmfdipmhleaaGreatDoorSt
import Derived.Test.YtkafmfdipmhleaaGreatDoorSgd
namespace Go.Proofs.YtkafmfdipmhleaaGreatDoor
open Go.RowKit Go.Maps

theorem SagaAt.keepK {w w' : World} {K : List Nat} {sb : Nat} {g : SagaM} (h : SagaAt w sb g) (hf : FrK K w w') (h1 : 89 ∉ K) (h2 : 55 ∉ K) : SagaAt w' sb g := by
  obtain ⟨sv, e1, b, off, cap, c, e2, e3, e4⟩ := h
  exact ⟨sv, hf.block sb _ e1 h1, b, off, cap, c, e2, hf.block b _ e3 h2, e4⟩
theorem JnAt.keepK {w w' : World} {K : List Nat} {jb db : Nat} {j : JnM} (h : JnAt w jb db j) (hf : FrK K w w') (h1 : 133 ∉ K) : JnAt w' jb db j := hf.block jb _ h h1
theorem DiskAt.keepK {w w' : World} {K : List Nat} {db bb : Nat} {d : DiskM} (h : DiskAt w db bb d) (hf : FrK K w w') (h1 : 103 ∉ K) (h2 : 104 ∉ K) (h3 : 108 ∉ K) : DiskAt w' db bb d := by
  obtain ⟨hwf, cap, rest, cv, e1, e2, e3⟩ := h
  refine ⟨hwf, cap, rest, cv, hf.block db _ e1 h1, hf.block bb _ e2 h2, ?_⟩
  cases hp : d.pend with
  | none => rw [hp] at e3; exact e3
  | some p =>
    rw [hp] at e3
    obtain ⟨cb, cc, rest', e4, e5⟩ := e3
    exact ⟨cb, cc, rest', e4, hf.block cb _ e5 h3⟩
theorem PAt.keepK {w w' : World} {K : List Nat} {pb : Nat} {p : PartM} (h : PAt w pb p) (hf : FrK K w w') (h1 : 45 ∉ K) (h2 : 47 ∉ K) (h3 : 49 ∉ K) (h4 : 4 ∉ K) : PAt w' pb p :=
  h.keep hf.size (fun k o ho hk => hf.block k o ho (by rcases hk with e | e | e | ⟨e, _⟩ <;> rw [e] <;> assumption))
theorem map_keepK {w w' : World} {K : List Nat} {mb n : Nat} {D : DataW Unit} (h : w.ownsMap Tryz.prog 3 ptrR mb n D) (hf : FrK K w w') (h1 : 0 ∉ K) : w'.ownsMap Tryz.prog 3 ptrR mb n D := by
  obtain ⟨es, clock, hb, r⟩ := h
  exact ⟨es, clock, hf.block mb _ hb h1, r⟩
theorem sgs_keepK {w w' : World} {K : List Nat} {l : List SagaM} {bl : List Nat} (h : ∀ (i : Nat) (g : SagaM) (b : Nat), l[i]? = some g → bl[i]? = some b → SagaAt w b g) (hf : FrK K w w') (h1 : 89 ∉ K) (h2 : 55 ∉ K) :
    ∀ (i : Nat) (g : SagaM) (b : Nat), l[i]? = some g → bl[i]? = some b → SagaAt w' b g := fun i g b hg hb => (h i g b hg hb).keepK hf h1 h2
/-- One saga has turned. -/
theorem sgs_set {w w' : World} {l : List SagaM} {bl : List Nat} {k sb : Nat} {g' : SagaM} (h : ∀ (i : Nat) (g : SagaM) (b : Nat), l[i]? = some g → bl[i]? = some b → SagaAt w b g) (hnd : bl.Nodup) (hb : bl[k]? = some sb) (hk : k < l.length)
    (hf : Fr (· = sb) w w') (hs : SagaAt w' sb g') : ∀ (i : Nat) (g : SagaM) (b : Nat), (l.set k g')[i]? = some g → bl[i]? = some b → SagaAt w' b g := by
  intro i g b hg hbi
  by_cases e : i = k
  · subst e
    rw [List.getElem?_set_self hk] at hg
    cases hg
    rw [hb] at hbi
    cases hbi
    exact hs
  · rw [List.getElem?_set_ne (fun h => e h.symm)] at hg
    have hne : b ≠ sb := by
      rintro rfl
      have h1 := (List.getElem?_eq_some_iff.1 hbi)
      have h2 := (List.getElem?_eq_some_iff.1 hb)
      obtain ⟨p1, q1⟩ := h1
      obtain ⟨p2, q2⟩ := h2
      have hpw := List.pairwise_iff_getElem.1 hnd
      rcases Nat.lt_or_ge i k with h3 | h3
      · exact hpw i k p1 p2 h3 (q1.trans q2.symm)
      · exact hpw k i p2 p1 (by omega) (q2.trans q1.symm)
    have h0 := h i g b hg hbi
    refine h0.frame hf (fun x hx => ?_)
    subst hx
    obtain ⟨sv, e1, _⟩ := h i g b hg hbi
    refine ⟨fun e => hne e.symm, ?_⟩
    have hs0 : ∃ g0, l[k]? = some g0 := ⟨l[k], List.getElem?_eq_getElem hk⟩
    obtain ⟨g0, hg0⟩ := hs0
    obtain ⟨sv0, e0, _⟩ := h k g0 x hg0 hb
    exact ⟨_, e0, by simp [kindOf]⟩
theorem il_set (l : List SagaM) (bl : List Nat) (k : Nat) (g g' : SagaM) (hg : l[k]? = some g) (hid : g'.id = g.id) : ilOf (l.set k g') bl = ilOf l bl := by
  unfold ilOf
  congr 1
  apply List.ext_getElem?
  intro i
  by_cases e : i = k
  · subst e
    have := (List.getElem?_eq_some_iff.1 hg).1
    simp [this, hid]
    rw [List.getElem?_eq_getElem this] at hg
    cases hg; rfl
  · simp [List.getElem?_set_ne (fun h => e h.symm)]

theorem moved_id (g : SagaM) (rp : Int) : (g.moved rp).id = g.id := by
  by_cases h1 : g.st = 1 <;> by_cases h2 : rp = 0 <;> by_cases h3 : (g.steps.length : Int) < g.step + 1 <;> simp [SagaM.moved, SagaM.forward, SagaM.backward, h1, h2, h3]
def SagaM.reply (g : SagaM) (p : PartM) : Int := replyM (p.knows g.call) g.call.back p.k
def StM.stepOne (s : StM) (k : Nat) : StM :=
  match s.sagas[k]? with
  | none => s
  | some g =>
    if g.waits s.clock = false then s
    else if g.moves (g.reply s.p) = false then { s with sagas := s.sagas.set k (g.paused s.clock s.pause), j := { s.j with fresh := false }, d := settleD s.j s.d, p := s.p.ask g.call }
    else { s with sagas := s.sagas.set k (g.moved (g.reply s.p)), j := ⟨s.j.epoch, s.j.en + 1, false⟩, d := (settleD s.j s.d).append s.j.epoch s.j.en [⟨4, 0, 0, g.id.toNat, (g.reply s.p).toNat, []⟩], p := s.p.ask g.call }

/-- The block of a number, out of a body. -/
def blockAt (n : Nat) : Code → Option Code
  | .block m c => if m = n then some (.block m c) else blockAt n c
  | .loop c => blockAt n c
  | .seq a b => match blockAt n a with
    | some c => some c
    | none => blockAt n b
  | .scope c => blockAt n c
  | .cond _ a b => match blockAt n a with
    | some c => some c
    | none => blockAt n b
  | _ => none
noncomputable def tickB1 : Code := ((Tryz.f20.body).bind (blockAt 1)).getD .skip
abbrev KT : List Nat := [103, 104, 108, 133, 80, 89, 45, 47, 49]

set_option maxRecDepth 100000 in
set_option maxHeartbeats 4000000 in
/-- It is not its turn. -/
theorem tick_idle (q : Pl) (bl : List Nat) (s : StM) (k : Nat) (g : SagaM) (b ib len cap : Nat) (W : World) (hs : StAt W q bl s) (hg : s.sagas[k]? = some g) (hb : bl[k]? = some b) (hbo : blkOfId (ilOf s.sagas bl) g.id = some b) (hgi : 1 ≤ g.id ∧ g.id ≤ 1000)
    (hid : W.cell? ⟨ib, k, none⟩ = some (.int .i64 g.id)) (hk : k < len) (hw : g.waits s.clock = false)
    {ds : List Deferred} {x1 x2 x3 x4 x5 x6 x7 x8 x9 x10 x11 x12 x13 x14 x15 x16 x17 x18 x19 x20 x21 x22 x23 x24 x25 x27 x29 x30 x31 x32 x33 x34 x35 x36 x37 x38 x39 x40 x41 x42 x43 x44 x45 x46 x47 x48 x49 x50 x51 x52 x53 x54 x55 x56 x57 x58 x59 x60 x61 x62 x63 x64 x65 x66 x67 x68 x69 x70 x71 x72 x73 x74 x75 x76 x77 x78 x79 x80 x81 x82 x83 x84 x85 x86 : Value} {Q : Exit → Act → World → Prop}
    (hQ : ∀ (y4 y5 y6 y7 y8 y30 y31 y32 y33 y34 y35 y36 y37 y38 y39 y40 y41 y42 y43 y44 y45 y46 y47 y48 y49 y50 y51 y52 y53 y54 y55 y56 y57 y58 y59 y60 y61 y62 y63 y64 y65 y66 y67 y68 y69 y70 y71 y72 y73 y74 y75 y76 y77 y78 y79 y80 y81 y82 y83 y84 y85 : Value), Q .normal ⟨#[.pointer (some ⟨q.xb, 0, none⟩), x1, x2, x3, y4, y5, y6, y7, y8, x9, x10, x11, x12, x13, x14, x15, x16, x17, x18, x19, x20, x21, x22, x23, x24, x25, .slice (some ⟨ib, 0, none⟩) len cap, x27, .int .i64 k, x29, y30, y31, y32, y33, y34, y35, y36, y37, y38, y39, y40, y41, y42, y43, y44, y45, y46, y47, y48, y49, y50, y51, y52, y53, y54, y55, y56, y57, y58, y59, y60, y61, y62, y63, y64, y65, y66, y67, y68, y69, y70, y71, y72, y73, y74, y75, y76, y77, y78, y79, y80, y81, y82, y83, y84, y85, x86], ds⟩ W) :
    Code.wp Tryz.prog tickB1 Q ⟨#[.pointer (some ⟨q.xb, 0, none⟩), x1, x2, x3, x4, x5, x6, x7, x8, x9, x10, x11, x12, x13, x14, x15, x16, x17, x18, x19, x20, x21, x22, x23, x24, x25, .slice (some ⟨ib, 0, none⟩) len cap, x27, .int .i64 k, x29, x30, x31, x32, x33, x34, x35, x36, x37, x38, x39, x40, x41, x42, x43, x44, x45, x46, x47, x48, x49, x50, x51, x52, x53, x54, x55, x56, x57, x58, x59, x60, x61, x62, x63, x64, x65, x66, x67, x68, x69, x70, x71, x72, x73, x74, x75, x76, x77, x78, x79, x80, x81, x82, x83, x84, x85, x86], ds⟩ W := by
  have hlk := look_some hs.mp g.id (by omega) hbo
  have hx := hs.eng
  have HW := Lib.hid (Waits_calls (hs.sg k g b hg hb) s.clock)
  rw [hw] at HW
  have hkI : (k : Int) < len := by omega
  have hk0 : (0 : Int) ≤ k := by omega
  have HQ := Lib.hid hQ
  simp only [egCells] at hx
  clear hs hg hb hbo hgi hk hw hQ
  have hcv := cellv W
  conv => arg 2; whnf
  go_wp2_with (first
    | (go_at_call 49; refine Calls.mono HW.out ?_; rintro e w2 ⟨rfl, rfl⟩)
    | fail)
  exact HQ.out _ _ _ _ _ _ _ _ _ _ _ _ _ _ _ _ _ _ _ _ _ _ _ _ _ _ _ _ _ _ _ _ _ _ _ _ _ _ _ _ _ _ _ _ _ _ _ _ _ _ _ _ _ _ _ _ _ _ _ _ _

theorem call_small (g : SagaM) : ∃ c, g.call = c := ⟨_, rfl⟩
set_option maxRecDepth 100000 in
set_option maxHeartbeats 4000000 in
/-- It is asked in vain. -/
theorem tick_vain (q : Pl) (bl : List Nat) (s : StM) (k : Nat) (g : SagaM) (b ib len cap : Nat) (W : World) (hs : StAt W q bl s) (hi : s.inv) (hg : s.sagas[k]? = some g) (hb : bl[k]? = some b) (hbo : blkOfId (ilOf s.sagas bl) g.id = some b) (hgi : 1 ≤ g.id ∧ g.id ≤ 1000)
    (hid : W.cell? ⟨ib, k, none⟩ = some (.int .i64 g.id)) (hk : k < len) (hw : g.waits s.clock = true) (hgo : g.ok) (hst : g.st = 1 ∨ g.st = 2) (hsm : s.p.small) (hm : g.moves (g.reply s.p) = false)
    {ds : List Deferred} {x1 x2 x3 x4 x5 x6 x7 x8 x9 x10 x11 x12 x13 x14 x15 x16 x17 x18 x19 x20 x21 x22 x23 x24 x25 x27 x29 x30 x31 x32 x33 x34 x35 x36 x37 x38 x39 x40 x41 x42 x43 x44 x45 x46 x47 x48 x49 x50 x51 x52 x53 x54 x55 x56 x57 x58 x59 x60 x61 x62 x63 x64 x65 x66 x67 x68 x69 x70 x71 x72 x73 x74 x75 x76 x77 x78 x79 x80 x81 x82 x83 x84 x85 x86 : Value} {Q : Exit → Act → World → Prop}
    (hQ : ∀ (y4 y5 y6 y7 y8 y30 y31 y32 y33 y34 y35 y36 y37 y38 y39 y40 y41 y42 y43 y44 y45 y46 y47 y48 y49 y50 y51 y52 y53 y54 y55 y56 y57 y58 y59 y60 y61 y62 y63 y64 y65 y66 y67 y68 y69 y70 y71 y72 y73 y74 y75 y76 y77 y78 y79 y80 y81 y82 y83 y84 y85 : Value) (w' : World), StAt w' q bl (s.stepOne k) → FrK KT W w' → Low s.p.lo W w' → Q .normal ⟨#[.pointer (some ⟨q.xb, 0, none⟩), x1, x2, x3, y4, y5, y6, y7, y8, x9, x10, x11, x12, x13, x14, x15, x16, x17, x18, x19, x20, x21, x22, x23, x24, x25, .slice (some ⟨ib, 0, none⟩) len cap, x27, .int .i64 k, x29, y30, y31, y32, y33, y34, y35, y36, y37, y38, y39, y40, y41, y42, y43, y44, y45, y46, y47, y48, y49, y50, y51, y52, y53, y54, y55, y56, y57, y58, y59, y60, y61, y62, y63, y64, y65, y66, y67, y68, y69, y70, y71, y72, y73, y74, y75, y76, y77, y78, y79, y80, y81, y82, y83, y84, y85, x86], ds⟩ w') :
    Code.wp Tryz.prog tickB1 Q ⟨#[.pointer (some ⟨q.xb, 0, none⟩), x1, x2, x3, x4, x5, x6, x7, x8, x9, x10, x11, x12, x13, x14, x15, x16, x17, x18, x19, x20, x21, x22, x23, x24, x25, .slice (some ⟨ib, 0, none⟩) len cap, x27, .int .i64 k, x29, x30, x31, x32, x33, x34, x35, x36, x37, x38, x39, x40, x41, x42, x43, x44, x45, x46, x47, x48, x49, x50, x51, x52, x53, x54, x55, x56, x57, x58, x59, x60, x61, x62, x63, x64, x65, x66, x67, x68, x69, x70, x71, x72, x73, x74, x75, x76, x77, x78, x79, x80, x81, x82, x83, x84, x85, x86], ds⟩ W := by
  have hlk := look_some hs.mp g.id (by omega) hbo
  have hx := hs.eng
  have HW := Lib.hid (Waits_calls (hs.sg k g b hg hb) s.clock)
  rw [hw] at HW
  have HS := Lib.hid (Settle_calls hs.jn hs.dk hi.quiet)
  have hstep : Hid (s.stepOne k = { s with sagas := s.sagas.set k (g.paused s.clock s.pause), j := { s.j with fresh := false }, d := settleD s.j s.d, p := s.p.ask g.call }) := by
    show _ = _
    simp [StM.stepOne, hg, hw, hm]
  have hkI : (k : Int) < len := by omega
  have hk0 : (0 : Int) ≤ k := by omega
  have HQ := Lib.hid hQ
  have Hs := Lib.hid hs
  have Hg := Lib.hid hg
  have Hb := Lib.hid hb
  have Hgo := Lib.hid hgo
  have Hst := Lib.hid hst
  have Hsm := Lib.hid hsm
  have Hm := Lib.hid hm
  have Hx := Lib.hid hx
  simp only [egCells] at hx
  clear hs hg hb hbo hgi hk hw hQ hgo hst hsm hm hi
  have hcv := cellv W
  conv => arg 2; whnf
  go_upto_region 13 with (first
    | (go_at_call 49; refine Calls.mono HW.out ?_; rintro e w2 ⟨rfl, rfl⟩)
    | (go_at_call 50; refine Calls.mono HS.out ?_; rintro e w2 ⟨rfl, hf2, hd2, hj2⟩)
    | fail)
  have hfk2 : FrK [103, 104, 133] W w2 := hf2.toK (by
    obtain ⟨_, _, _, _, e1, e2, _⟩ := Hs.out.dk
    have e3 := Hs.out.jn
    rintro x o (rfl | rfl | rfl) ho
    · rw [e1] at ho; cases ho; simp [kindOf]
    · rw [e2] at ho; cases ho; simp [kindOf]
    · rw [e3] at ho; cases ho; simp [kindOf])
  have Hfk2 := Lib.hid hfk2
  have HL2 : Hid (Low s.p.lo W w2 ∧ s.p.lo ≤ w2.heap.size) := ⟨hf2.low Hs.out.size (by
    have h0 := Hs.out.lo
    rintro k (rfl | rfl | rfl)
    · exact h0.2.2.2.1
    · exact h0.2.2.2.2.1
    · exact h0.2.1), Nat.le_trans Hs.out.size hf2.size⟩
  have Hg2 := Lib.hid ((Hs.out.sg k g b Hg.out Hb.out).keepK hfk2 (by decide) (by decide))
  have Hx2 := Lib.hid (hfk2.block _ _ Hx.out (by simp [kindOf]))
  have Hp2 := Lib.hid (Hs.out.pt.keepK hfk2 (by decide) (by decide) (by decide) (by decide))
  have Hd2 := Lib.hid hd2
  have Hj2 := Lib.hid hj2
  have hkk : ∃ kk : Nat, g.step = (kk : Int) + 1 ∧ kk < g.steps.length := by
    obtain ⟨_, _, _, _, h | h⟩ := Hgo.out
    · exact ⟨(g.step - 1).toNat, by omega, by omega⟩
    · rcases h.1 with e | e <;> rcases Hst.out with e' | e' <;> omega
  obtain ⟨kk, hk1, hk2⟩ := hkk
  have hl6 : g.steps.length ≤ 100 := by have := Hgo.out.2.2.1.2.1; omega
  have HC := Lib.hid (Call_calls Hg2.out Hst.out kk hk1 hk2 hl6)
  clear hf2 hfk2 hd2 hj2 hx hcv hk1 hk2 hl6 hlk hid
  go_upto_region 14 with (first
    | (go_at_call 52; refine Calls.mono HC.out ?_; rintro e w3 ⟨rfl, hf3⟩)
    | (go_at_call 51; refine Calls.mono (ask_calls g.call s.p (hf3.get Hx2.out (fun f => f)) (Hp2.out.keep hf3.size (fun k o ho _ => hf3.get ho (fun f => f))) Hsm.out) ?_; rintro e w4 ⟨rfl, hp4, hf4, ho4⟩)
    | fail)
  have hO4 : Low s.p.lo W w4 := HL2.out.1.trans ((hf3.low HL2.out.2 (fun _ f => f.elim)).trans ho4)
  have HO4 := Lib.hid hO4
  have hf3s : Hid (w2.heap.size ≤ w3.heap.size) := hf3.size
  have hf4s : Hid (w3.heap.size ≤ w4.heap.size) := hf4.size
  clear hO4 ho4
  have hfk4 : FrK [45, 47, 49] w2 w4 := (hf3.toK (fun _ _ f _ => f.elim)).trans hf4
  have Hfk4 := Lib.hid hfk4
  have Hp4 := Lib.hid hp4
  have Hg4 := Lib.hid (Hg2.out.keepK hfk4 (by decide) (by decide))
  have Hx4 := Lib.hid (hfk4.block _ _ Hx2.out (by simp [kindOf]))
  have Hj4 := Lib.hid (Hj2.out.keepK hfk4 (by decide))
  have Hd4 := Lib.hid (Hd2.out.keepK hfk4 (by decide) (by decide) (by decide))
  have Hrp : Hid (replyM (s.p.knows g.call) g.call.back s.p.k = g.reply s.p) := rfl
  rw [Hrp.out]
  have HM := Lib.hid (Moves_calls Hg4.out (g.reply s.p))
  rw [Hm.out] at HM
  clear hf3 hp4 hf4 hfk4
  go_upto_region 15 with (first
    | (go_at_call 53; refine Calls.mono HM.out ?_; rintro e w5 ⟨rfl, rfl⟩)
    | fail)
  refine tick_r15 q.xb b q.jb q.mb s.pause s.clock (askFn q.pb) g w4 Hx4.out Hg4.out Hgo.out.2.2.2.1 ?_
  intro y64 y65 y66 y67 y68 y69 y70 y71 y72 y73 w6 hf6 hs6
  have hfk6 : FrK [89] w4 w6 := hf6.toK (by
    obtain ⟨_, e1, _⟩ := Hg4.out
    rintro x o rfl ho
    rw [e1] at ho; cases ho; simp [kindOf])
  have hall : FrK KT W w6 := ((Hfk2.out.mono (by decide)).trans (Hfk4.out.mono (by decide))).trans (hfk6.mono (by decide))
  have Hall := Lib.hid hall
  have HO6 := Lib.hid (HO4.out.trans (hf6.low (Nat.le_trans HL2.out.2 (Nat.le_trans hf3s.out hf4s.out)) (by
    rintro k rfl
    exact Hs.out.lo.2.2.2.2.2 _ (List.mem_of_getElem? Hb.out))))
  have Hfk6 := Lib.hid hfk6
  have Hf6 := Lib.hid hf6
  have Hs6 := Lib.hid hs6
  clear hfk6 hall hf6 hs6
  go_wp2_with fail
  refine HQ.out  _ _ _ _ _ _ _ _ _ _ _ _ _ _ _ _ _ _ _ _ _ _ _ _ _ _ _ _ _ _ _ _ _ _ _ _ _ _ _ _ _ _ _ _ _ _ _ _ _ _ _ _ _ _ _ _ _ _ _ _ _ w6 ?_ Hall.out HO6.out
  rw [hstep.out]
  have hlen := (List.getElem?_eq_some_iff.1 Hg.out).1
  have hsg4 := sgs_keepK (sgs_keepK Hs.out.sg Hfk2.out (by decide) (by decide)) Hfk4.out (by decide) (by decide)
  refine ⟨Hfk6.out.block _ _ Hx4.out (by simp [kindOf]), Hj4.out.keepK Hfk6.out (by decide), Hd4.out.keepK Hfk6.out (by decide) (by decide) (by decide), Hp4.out.keepK Hfk6.out (by decide) (by decide) (by decide) (by decide), ?_, ?_, ?_, Hs.out.nd, Hs.out.lo⟩
  · simp only
    rw [il_set s.sagas bl k g (g.paused s.clock s.pause) Hg.out rfl, List.length_set]
    exact map_keepK (map_keepK (map_keepK Hs.out.mp Hfk2.out (by decide)) Hfk4.out (by decide)) Hfk6.out (by decide)
  · simp only
    rw [List.length_set]; exact Hs.out.len
  · exact sgs_set hsg4 Hs.out.nd Hb.out hlen Hf6.out Hs6.out
set_option maxRecDepth 100000 in
set_option maxHeartbeats 4000000 in
/-- It is asked, and moved. -/
theorem tick_moved (q : Pl) (bl : List Nat) (s : StM) (k : Nat) (g : SagaM) (b ib len cap : Nat) (W : World) (hs : StAt W q bl s) (hi : s.inv) (hg : s.sagas[k]? = some g) (hb : bl[k]? = some b) (hbo : blkOfId (ilOf s.sagas bl) g.id = some b) (hgi : 1 ≤ g.id ∧ g.id ≤ 1000)
    (hid : W.cell? ⟨ib, k, none⟩ = some (.int .i64 g.id)) (hk : k < len) (hw : g.waits s.clock = true) (hgo : g.ok) (hst : g.st = 1 ∨ g.st = 2) (hsm : s.p.small) (hroom : s.j.en + 1 ≤ s.d.blocks.length) (hm : g.moves (g.reply s.p) = true)
    {ds : List Deferred} {x1 x2 x3 x4 x5 x6 x7 x8 x9 x10 x11 x12 x13 x14 x15 x16 x17 x18 x19 x20 x21 x22 x23 x24 x25 x27 x29 x30 x31 x32 x33 x34 x35 x36 x37 x38 x39 x40 x41 x42 x43 x44 x45 x46 x47 x48 x49 x50 x51 x52 x53 x54 x55 x56 x57 x58 x59 x60 x61 x62 x63 x64 x65 x66 x67 x68 x69 x70 x71 x72 x73 x74 x75 x76 x77 x78 x79 x80 x81 x82 x83 x84 x85 x86 : Value} {Q : Exit → Act → World → Prop}
    (hQ : ∀ (y4 y5 y6 y7 y8 y30 y31 y32 y33 y34 y35 y36 y37 y38 y39 y40 y41 y42 y43 y44 y45 y46 y47 y48 y49 y50 y51 y52 y53 y54 y55 y56 y57 y58 y59 y60 y61 y62 y63 y64 y65 y66 y67 y68 y69 y70 y71 y72 y73 y74 y75 y76 y77 y78 y79 y80 y81 y82 y83 y84 y85 : Value) (w' : World), StAt w' q bl (s.stepOne k) → FrK KT W w' → Low s.p.lo W w' → Q .normal ⟨#[.pointer (some ⟨q.xb, 0, none⟩), x1, x2, x3, y4, y5, y6, y7, y8, x9, x10, x11, x12, x13, x14, x15, x16, x17, x18, x19, x20, x21, x22, x23, x24, x25, .slice (some ⟨ib, 0, none⟩) len cap, x27, .int .i64 k, x29, y30, y31, y32, y33, y34, y35, y36, y37, y38, y39, y40, y41, y42, y43, y44, y45, y46, y47, y48, y49, y50, y51, y52, y53, y54, y55, y56, y57, y58, y59, y60, y61, y62, y63, y64, y65, y66, y67, y68, y69, y70, y71, y72, y73, y74, y75, y76, y77, y78, y79, y80, y81, y82, y83, y84, y85, x86], ds⟩ w') :
    Code.wp Tryz.prog tickB1 Q ⟨#[.pointer (some ⟨q.xb, 0, none⟩), x1, x2, x3, x4, x5, x6, x7, x8, x9, x10, x11, x12, x13, x14, x15, x16, x17, x18, x19, x20, x21, x22, x23, x24, x25, .slice (some ⟨ib, 0, none⟩) len cap, x27, .int .i64 k, x29, x30, x31, x32, x33, x34, x35, x36, x37, x38, x39, x40, x41, x42, x43, x44, x45, x46, x47, x48, x49, x50, x51, x52, x53, x54, x55, x56, x57, x58, x59, x60, x61, x62, x63, x64, x65, x66, x67, x68, x69, x70, x71, x72, x73, x74, x75, x76, x77, x78, x79, x80, x81, x82, x83, x84, x85, x86], ds⟩ W := by
  have hlk := look_some hs.mp g.id (by omega) hbo
  have hx := hs.eng
  have HW := Lib.hid (Waits_calls (hs.sg k g b hg hb) s.clock)
  rw [hw] at HW
  have HS := Lib.hid (Settle_calls hs.jn hs.dk hi.quiet)
  have hstep : Hid (s.stepOne k = { s with sagas := s.sagas.set k (g.moved (g.reply s.p)), j := ⟨s.j.epoch, s.j.en + 1, false⟩, d := (settleD s.j s.d).append s.j.epoch s.j.en [⟨4, 0, 0, g.id.toNat, (g.reply s.p).toNat, []⟩], p := s.p.ask g.call }) := by
    show _ = _
    simp [StM.stepOne, hg, hw, hm]
  have hkI : (k : Int) < len := by omega
  have hk0 : (0 : Int) ≤ k := by omega
  have HQ := Lib.hid hQ
  have Hs := Lib.hid hs
  have Hg := Lib.hid hg
  have Hb := Lib.hid hb
  have Hgo := Lib.hid hgo
  have Hst := Lib.hid hst
  have Hsm := Lib.hid hsm
  have Hm := Lib.hid hm
  have Hroom := Lib.hid hroom
  have Hi := Lib.hid hi
  have Hgi := Lib.hid hgi
  have Hx := Lib.hid hx
  simp only [egCells] at hx
  clear hs hg hb hbo hgi hk hw hQ hgo hst hsm hm hi hroom
  have hcv := cellv W
  conv => arg 2; whnf
  go_upto_region 13 with (first
    | (go_at_call 49; refine Calls.mono HW.out ?_; rintro e w2 ⟨rfl, rfl⟩)
    | (go_at_call 50; refine Calls.mono HS.out ?_; rintro e w2 ⟨rfl, hf2, hd2, hj2⟩)
    | fail)
  have hfk2 : FrK [103, 104, 133] W w2 := hf2.toK (by
    obtain ⟨_, _, _, _, e1, e2, _⟩ := Hs.out.dk
    have e3 := Hs.out.jn
    rintro x o (rfl | rfl | rfl) ho
    · rw [e1] at ho; cases ho; simp [kindOf]
    · rw [e2] at ho; cases ho; simp [kindOf]
    · rw [e3] at ho; cases ho; simp [kindOf])
  have Hfk2 := Lib.hid hfk2
  have HL2 : Hid (Low s.p.lo W w2 ∧ s.p.lo ≤ w2.heap.size) := ⟨hf2.low Hs.out.size (by
    have h0 := Hs.out.lo
    rintro k (rfl | rfl | rfl)
    · exact h0.2.2.2.1
    · exact h0.2.2.2.2.1
    · exact h0.2.1), Nat.le_trans Hs.out.size hf2.size⟩
  have Hg2 := Lib.hid ((Hs.out.sg k g b Hg.out Hb.out).keepK hfk2 (by decide) (by decide))
  have Hx2 := Lib.hid (hfk2.block _ _ Hx.out (by simp [kindOf]))
  have Hp2 := Lib.hid (Hs.out.pt.keepK hfk2 (by decide) (by decide) (by decide) (by decide))
  have Hd2 := Lib.hid hd2
  have Hj2 := Lib.hid hj2
  have hkk : ∃ kk : Nat, g.step = (kk : Int) + 1 ∧ kk < g.steps.length := by
    obtain ⟨_, _, _, _, h | h⟩ := Hgo.out
    · exact ⟨(g.step - 1).toNat, by omega, by omega⟩
    · rcases h.1 with e | e <;> rcases Hst.out with e' | e' <;> omega
  obtain ⟨kk, hk1, hk2⟩ := hkk
  have hl6 : g.steps.length ≤ 100 := by have := Hgo.out.2.2.1.2.1; omega
  have HC := Lib.hid (Call_calls Hg2.out Hst.out kk hk1 hk2 hl6)
  clear hf2 hfk2 hd2 hj2 hx hcv hk1 hk2 hl6 hlk hid
  go_upto_region 14 with (first
    | (go_at_call 52; refine Calls.mono HC.out ?_; rintro e w3 ⟨rfl, hf3⟩)
    | (go_at_call 51; refine Calls.mono (ask_calls g.call s.p (hf3.get Hx2.out (fun f => f)) (Hp2.out.keep hf3.size (fun k o ho _ => hf3.get ho (fun f => f))) Hsm.out) ?_; rintro e w4 ⟨rfl, hp4, hf4, ho4⟩)
    | fail)
  have hO4 : Low s.p.lo W w4 := HL2.out.1.trans ((hf3.low HL2.out.2 (fun _ f => f.elim)).trans ho4)
  have HO4 := Lib.hid hO4
  have hf3s : Hid (w2.heap.size ≤ w3.heap.size) := hf3.size
  have hf4s : Hid (w3.heap.size ≤ w4.heap.size) := hf4.size
  clear hO4 ho4
  have hfk4 : FrK [45, 47, 49] w2 w4 := (hf3.toK (fun _ _ f _ => f.elim)).trans hf4
  have Hfk4 := Lib.hid hfk4
  have Hp4 := Lib.hid hp4
  have Hg4 := Lib.hid (Hg2.out.keepK hfk4 (by decide) (by decide))
  have Hx4 := Lib.hid (hfk4.block _ _ Hx2.out (by simp [kindOf]))
  have Hj4 := Lib.hid (Hj2.out.keepK hfk4 (by decide))
  have Hd4 := Lib.hid (Hd2.out.keepK hfk4 (by decide) (by decide) (by decide))
  have Hrp : Hid (replyM (s.p.knows g.call) g.call.back s.p.k = g.reply s.p) := rfl
  rw [Hrp.out]
  have HM := Lib.hid (Moves_calls Hg4.out (g.reply s.p))
  rw [Hm.out] at HM
  clear hf3 hp4 hf4 hfk4
  have Hrp2 : Hid (g.reply s.p = 0 ∨ g.reply s.p = 2) := by
    have := Hm.out
    simp [SagaM.moves] at this
    exact this.imp id (fun h => h.1)
  generalize g.reply s.p = rp at Hm HM Hrp2 hstep HQ ⊢
  go_upto_region 16 with (first
    | (go_at_call 53; refine Calls.mono HM.out ?_; rintro e w5 ⟨rfl, rfl⟩)
    | fail)
  have hN4 : New w4 (w4.alloc (.cells #[.int .u8 4, .int .u32 0, .int .i64 0, .int .i64 g.id, .int .i64 rp, .slice none 0 0] 91)) := (Fr.refl _ _).alloc _
  have hlb := heap_alloc_new w4 (.cells #[.int .u8 4, .int .u32 0, .int .i64 0, .int .i64 g.id, .int .i64 rp, .slice none 0 0] 91)
  have hrec : RecsAt (w4.alloc (.cells #[.int .u8 4, .int .u32 0, .int .i64 0, .int .i64 g.id, .int .i64 rp, .slice none 0 0] 91)) w4.heap.size [⟨4, 0, 0, g.id.toNat, rp.toNat, []⟩] := by
    have h1 := Hgi.out
    have h2 := Hrp2.out
    refine ⟨?_, _, hlb, ?_⟩
    · intro r hr ep ix hep hix
      simp at hr
      subst hr
      exact ⟨by show 4 < 256; omega, hep, hix, by show g.id.toNat < 65536; omega, by show rp.toNat < 256; omega, fun _ => rfl, fun h => by simp [placed] at h⟩
    · intro k r hr
      cases k with
      | succ k => simp at hr
      | zero =>
        simp at hr
        subst hr
        refine ⟨.slice none 0 0, ⟨none, 0, 0, rfl⟩, fun h => by simp at h, fun i hi => ?_⟩
        have e1 : ((g.id.toNat : Nat) : Int) = g.id := by omega
        have e2 : ((rp.toNat : Nat) : Int) = rp := by omega
        simp only [rcells, Nat.zero_mul, Nat.zero_add, e1, e2]
        rfl
  have hpend : (settleD s.j s.d).pend = none := settle_pend _ _ Hi.out.pend
  have hlen1 : (settleD s.j s.d).blocks.length = s.d.blocks.length := settle_len _ _ Hi.out.pend
  have HWr := Lib.hid (write_calls (cap := 1) (hN4.get Hx4.out (fun f => f)) (hN4.get Hj4.out (fun f => f)) (Hd4.out.new hN4) (settle_quiet _ _ Hi.out.quiet) hpend hrec rfl Hi.out.epoch (by rw [hlen1]; exact Hroom.out) (by rw [hlen1]; exact Hi.out.size))
  have HN4 := Lib.hid hN4
  clear hN4 hlb hrec hpend hlen1
  go_upto_region 19 with (first
    | (go_at_call 46; refine Calls.mono HWr.out ?_; rintro e w6 ⟨rfl, hf6, hd6, hj6, hx6⟩)
    | fail)
  have hfk6 : FrK [103, 104, 133, 80] w4 w6 := (HN4.out.toK (fun _ _ f _ => f.elim)).trans (hf6.toK (by
    obtain ⟨_, _, _, _, e1, e2, _⟩ := Hd4.out
    have e3 := Hj4.out
    have e4 := Hx4.out
    have n1 := HN4.out.get e1 (fun f => f)
    have n2 := HN4.out.get e2 (fun f => f)
    have n3 := HN4.out.get e3 (fun f => f)
    have n4 := HN4.out.get e4 (fun f => f)
    rintro x o (rfl | rfl | rfl | rfl) ho
    · rw [n1] at ho; cases ho; simp [kindOf]
    · rw [n2] at ho; cases ho; simp [kindOf]
    · rw [n3] at ho; cases ho; simp [kindOf]
    · rw [n4] at ho; cases ho; simp [kindOf]))
  have Hfk6 := Lib.hid hfk6
  have Hg6 := Lib.hid (Hg4.out.keepK hfk6 (by decide) (by decide))
  have HL6 : Hid (Low s.p.lo w4 w6) := by
    have hz : s.p.lo ≤ w4.heap.size := Nat.le_trans HL2.out.2 (Nat.le_trans hf3s.out hf4s.out)
    refine (HN4.out.low hz (fun _ f => f.elim)).trans (hf6.low (Nat.le_trans hz HN4.out.size) ?_)
    have h0 := Hs.out.lo
    rintro k (rfl | rfl | rfl | rfl)
    · exact h0.2.2.2.1
    · exact h0.2.2.2.2.1
    · exact h0.2.1
    · exact h0.1
  have Hd6 := Lib.hid hd6
  have Hj6 := Lib.hid hj6
  have Hx6 := Lib.hid hx6
  have hst1 : 1 ≤ g.step ∧ g.step ≤ 100 := by
    obtain ⟨_, _, hsm, _, h | h⟩ := Hgo.out
    · have := hsm.2.1; omega
    · rcases h.1 with e | e <;> rcases Hst.out with e' | e' <;> omega
  have HMv := Lib.hid (Move_calls Hg6.out Hst.out hst1 rp)
  clear hf6 hd6 hj6 hx6 hfk6 hst1
  go_wp2_with (first
    | (go_at_call 55; refine Calls.mono HMv.out ?_; rintro e w7 ⟨rfl, hf7, hs7⟩)
    | fail)
  have hfk7 : FrK [89] w6 w7 := hf7.toK (by
    obtain ⟨_, e1, _⟩ := Hg6.out
    rintro x o rfl ho
    rw [e1] at ho; cases ho; simp [kindOf])
  have hall : FrK KT W w7 := (((Hfk2.out.mono (by decide)).trans (Hfk4.out.mono (by decide))).trans (Hfk6.out.mono (by decide))).trans (hfk7.mono (by decide))
  refine HQ.out  _ _ _ _ _ _ _ _ _ _ _ _ _ _ _ _ _ _ _ _ _ _ _ _ _ _ _ _ _ _ _ _ _ _ _ _ _ _ _ _ _ _ _ _ _ _ _ _ _ _ _ _ _ _ _ _ _ _ _ _ _ w7 ?_ hall ((HO4.out.trans HL6.out).trans (hf7.low (Nat.le_trans (Nat.le_trans HL2.out.2 (Nat.le_trans hf3s.out hf4s.out)) Hfk6.out.size) (by
    rintro k rfl
    exact Hs.out.lo.2.2.2.2.2 _ (List.mem_of_getElem? Hb.out))))
  rw [hstep.out]
  have hlen := (List.getElem?_eq_some_iff.1 Hg.out).1
  have hsg6 := sgs_keepK (sgs_keepK (sgs_keepK Hs.out.sg Hfk2.out (by decide) (by decide)) Hfk4.out (by decide) (by decide)) Hfk6.out (by decide) (by decide)
  have hidm := moved_id g rp
  refine ⟨hfk7.block _ _ Hx6.out (by simp [kindOf]), Hj6.out.keepK hfk7 (by decide), Hd6.out.keepK hfk7 (by decide) (by decide) (by decide), ?_, ?_, ?_, ?_, Hs.out.nd, Hs.out.lo⟩
  · exact (Hp4.out.keepK Hfk6.out (by decide) (by decide) (by decide) (by decide)).keepK hfk7 (by decide) (by decide) (by decide) (by decide)
  · simp only
    rw [il_set s.sagas bl k g (g.moved rp) Hg.out hidm, List.length_set]
    exact map_keepK (map_keepK (map_keepK (map_keepK Hs.out.mp Hfk2.out (by decide)) Hfk4.out (by decide)) Hfk6.out (by decide)) hfk7 (by decide)
  · simp only
    rw [List.length_set]; exact Hs.out.len
  · exact sgs_set hsg6 Hs.out.nd Hb.out hlen hf7 hs7
end Go.Proofs.YtkafmfdipmhleaaGreatDoor
