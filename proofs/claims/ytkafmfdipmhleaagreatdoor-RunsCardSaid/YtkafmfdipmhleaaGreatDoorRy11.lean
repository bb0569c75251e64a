/-
  What is proved: what Submit makes of a disk's engine, by the cases of the document. the script's told: what Status answers is the document's answer. the contract of plain.All, whatever the most. the contract of plain.All, for a most below one. the script's listed: what All gives is the document's answer.
-/
import Derived.Test.YtkafmfdipmhleaaGreatDoorRy10

namespace Go.Proofs.YtkafmfdipmhleaaGreatDoor
open Go.RowKit Go.Maps
theorem StpH.sl {w : World} {g : Nat} {l : List (ByteArray × ByteArray)} (h : StpH w g l) : SlAt w (.slice (some ⟨g, 0, none⟩) l.length (l.length + 2)) l := by
  by_cases hl : l = []
  · subst hl; exact .inl ⟨rfl, _, _, rfl⟩
  · obtain ⟨c, h1, h2, _⟩ := h
    exact .inr ⟨g, 0, _, c, rfl, h1, fun j hj => by rw [Nat.zero_add]; exact h2 j hj⟩
theorem StpH.steps {w : World} {g : Nat} {l : List (ByteArray × ByteArray)} (h : StpH w g l) : StepsAt w (.slice (some ⟨g, 0, none⟩) l.length (l.length + 2)) l := by
  obtain ⟨c, h1, h2, _⟩ := h
  exact ⟨g, 0, _, c, rfl, h1, fun j hj => by rw [Nat.zero_add]; exact h2 j hj⟩
theorem ref_get {R : List RefM} {id : Int} {g : SagaM} (hg : (sagasOf R)[findI (sagasOf R) id]? = some g) : ∃ r, R[findI (sagasOf R) id]? = some r ∧ r.1 = g := by
  unfold sagasOf at hg
  rw [List.getElem?_map] at hg
  unfold sagasOf
  cases hr : R[findI (R.map (·.1)) id]? with
  | none => rw [hr] at hg; cases hg
  | some r => rw [hr] at hg; exact ⟨r, rfl, by simpa using hg⟩
theorem not_there {L : List SagaM} {id : Int} (h : thereB L id = false) : ∀ x ∈ L, x.id ≠ id := by
  intro x hx e
  unfold thereB at h
  rw [List.any_eq_false] at h
  exact h x hx (by simpa using e)
/-- What Submit makes of an engine: the number that it tells, and whether the saga was taken. -/
structure SubP (w3 : World) (o : RD) (e : EngR) (id : Int) (l : List (ByteArray × ByteArray)) (n : Int) (tk : Bool) (ev : Value) (w' : World) : Prop where
  told : ∀ g w'', g < w3.heap.size → Fr (· = g) w' w'' → Handle w'' → Calls Tryz.prog 26 #[ev] w'' fun e2 w4 => e2 = .returned (.int .i64 n) ∧ New w'' w4
  fr : Fr (EngB (o.pl_ e)) w3 w'
  no : tk = false → New w3 w'
  yes : tk = true → ∃ bl', StV e.cv w' (o.pl_ e) bl' ((o.st e).submit id l) ∧ (∀ b ∈ bl', b ∈ e.bl ∨ w3.heap.size ≤ b) ∧ ∀ b ∈ bl', w3.heap.size ≤ b → StepsNew w3.heap.size w' b
theorem told_nil (g : Nat) (w' w'' : World) (_h : Fr (· = g) w' w'') : Calls Tryz.prog 26 #[.nilIface] w'' fun e2 w4 => e2 = .returned (.int .i64 0) ∧ New w'' w4 := by
  refine Calls.mono (toldP_nil w'') ?_
  rintro e2 w4 ⟨rfl, rfl⟩
  exact ⟨rfl, Fr.refl _ _⟩
theorem told_fault {w3 w' : World} {op : ByteArray} {n : Int} {ev : Value} (hf : FaultAt w3 w' op n ev) (g : Nat) (w'' : World) (hg : g < w3.heap.size) (h : Fr (· = g) w' w'') (hh : Handle w'') : Calls Tryz.prog 26 #[ev] w'' fun e2 w4 => e2 = .returned (.int .i64 n) ∧ New w'' w4 := by
  obtain ⟨fb, h1, rfl, h2⟩ := hf
  exact toldP_fault fb op n w'' hh (h.get h2 (by omega))
set_option maxRecDepth 100000 in
theorem sub_bad {w3 : World} {B m : Nat} {o : RD} {e : EngR} (h : RunAt w3 B o) (hk : RDok m o) (hx : o.x = some e) {id : Int} {l : List (ByteArray × ByteArray)} {gH : Nat} (hs : StpH w3 gH l) (hl : l.length ≤ 100000) (hw : wholeB id l = false) :
    Calls Tryz.prog 18 #[.pointer (some ⟨e.xb, 0, none⟩), .int .i64 id, .slice (some ⟨gH, 0, none⟩) l.length (l.length + 2)] w3 fun ee w' => ∃ ev, ee = .returned ev ∧ SubP w3 o e id l 1 false ev w' := by
  rw [← show (o.pl_ e).xb = e.xb from rfl]
  refine Calls.mono (Submit_badV (h.eng e hx).1 hs.sl hl hw) ?_
  rintro ee w' ⟨v, rfl, hv, hf⟩
  exact ⟨v, rfl, ⟨told_fault hv, hf.mono (fun _ _ f => f.elim), fun _ => hf, fun h => by cases h⟩⟩
set_option maxRecDepth 100000 in
theorem sub_there {w3 : World} {B m : Nat} {o : RD} {e : EngR} (h : RunAt w3 B o) (hk : RDok m o) (hx : o.x = some e) {l : List (ByteArray × ByteArray)} {gH i : Nat} {g : SagaM} (hg : (sagasOf o.R)[i]? = some g) (hs : StpH w3 gH l) (hw : wholeB g.id l = true) :
    Calls Tryz.prog 18 #[.pointer (some ⟨e.xb, 0, none⟩), .int .i64 g.id, .slice (some ⟨gH, 0, none⟩) l.length (l.length + 2)] w3 fun ee w' => ∃ ev, ee = .returned ev ∧ SubP w3 o e g.id l (if l = g.steps then 0 else 2) false ev w' := by
  rw [← show (o.pl_ e).xb = e.xb from rfl]
  refine Calls.mono (Submit_thereV (h.eng e hx).1 (hk.inv hx) hg hs.steps hw) ?_
  rintro ee w' ⟨hf, he⟩
  by_cases e1 : l = g.steps
  · rw [if_pos e1] at he
    rw [if_pos e1]
    exact ⟨.nilIface, he, ⟨fun g' w'' _ h2 _ => told_nil g' w' w'' h2, hf.mono (fun _ _ f => f.elim), fun _ => hf, fun h => by cases h⟩⟩
  · rw [if_neg e1] at he
    rw [if_neg e1]
    obtain ⟨v, hv, hfa⟩ := he
    exact ⟨v, hv, ⟨told_fault hfa, hf.mono (fun _ _ f => f.elim), fun _ => hf, fun h => by cases h⟩⟩
set_option maxRecDepth 100000 in
theorem sub_full {w3 : World} {B m : Nat} {o : RD} {e : EngR} (h : RunAt w3 B o) (hk : RDok m o) (hx : o.x = some e) {id : Int} {l : List (ByteArray × ByteArray)} {gH : Nat} (hs : StpH w3 gH l) (hw : wholeB id l = true) (hn : ∀ x ∈ sagasOf o.R, x.id ≠ id)
    (hr : (o.n : Int) < (1 + evLen o.evs : Nat) + (2 + (2 * l.length - 1) + leftSum (sagasOf o.R))) :
    Calls Tryz.prog 18 #[.pointer (some ⟨e.xb, 0, none⟩), .int .i64 id, .slice (some ⟨gH, 0, none⟩) l.length (l.length + 2)] w3 fun ee w' => ∃ ev, ee = .returned ev ∧ SubP w3 o e id l 3 false ev w' := by
  rw [← show (o.pl_ e).xb = e.xb from rfl]
  refine Calls.mono (Submit_full (h.eng e hx).1 (hk.inv hx) hs.steps hw hn (by show (o.d.blocks.length : Int) < _; rw [hk.len]; exact hr)) ?_
  rintro ee w' ⟨v, rfl, hv, hf⟩
  exact ⟨v, rfl, ⟨told_fault hv, hf.mono (fun _ _ f => f.elim), fun _ => hf, fun h => by cases h⟩⟩
set_option maxRecDepth 100000 in
theorem sub_taken {w3 : World} {B m : Nat} {o : RD} {e : EngR} (h : RunAt w3 B o) (hk : RDok m o) (hx : o.x = some e) {id : Int} {l : List (ByteArray × ByteArray)} {gH : Nat} (hs : StpH w3 gH l) (hw : wholeB id l = true) (hn : ∀ x ∈ sagasOf o.R, x.id ≠ id)
    (hr : ((1 + evLen o.evs : Nat) : Int) + (2 + (2 * l.length - 1) + leftSum (sagasOf o.R)) ≤ o.n) :
    Calls Tryz.prog 18 #[.pointer (some ⟨e.xb, 0, none⟩), .int .i64 id, .slice (some ⟨gH, 0, none⟩) l.length (l.length + 2)] w3 fun ee w' => ∃ ev, ee = .returned ev ∧ SubP w3 o e id l 0 true ev w' := by
  rw [← show (o.pl_ e).xb = e.xb from rfl]
  refine Calls.mono (Submit_loc (h.eng e hx).1 (hk.inv hx) hs.steps hw hn (by show _ ≤ (o.d.blocks.length : Int); rw [hk.len]; exact hr)) ?_
  rintro ee w' ⟨rfl, hbl, hf⟩
  exact ⟨.nilIface, rfl, ⟨fun g' w'' _ h2 _ => told_nil g' w' w'' h2, hf, fun h => (by cases h), fun _ => hbl⟩⟩
/-- The steps that were handed in are written over: the engine's are others. -/
theorem StV.still {cv : Value} {w w3 w4 w5 : World} {q : Pl} {bl bl' : List Nat} {s s' : StM} {g : Nat} (h0 : StV cv w q bl s) (h4 : StV cv w4 q bl' s') (hf3 : New w w3) (hf4 : Fr (EngB q) w3 w4) (hg : w.heap.size ≤ g) (hg3 : g < w3.heap.size) (hgk : ∃ c, w4.heap[g]? = some (.cells c 54 (0, 0)))
    (hbl : ∀ b ∈ bl', b ∈ bl ∨ w3.heap.size ≤ b) (hnew : ∀ b ∈ bl', w3.heap.size ≤ b → StepsNew w3.heap.size w4 b) (hp : s'.d.pend = none) (hf5 : Fr (· = g) w4 w5) : StV cv w5 q bl' s' := by
  obtain ⟨cg, hgc⟩ := hgk
  have hne : ∀ {k : Nat} {ob : Obj}, w4.heap[k]? = some ob → kindOf ob ≠ 55 → ¬ k = g := by
    rintro k ob h1 h2 rfl
    rw [hgc] at h1; cases h1
    exact h2 (by simp [kindOf])
  obtain ⟨_, _, _, _, d1, d2, _⟩ := h4.dk
  obtain ⟨es, cl, hmb, _⟩ := id h4.mp
  refine ⟨hf5.get h4.eng (hne h4.eng (by simp [kindOf])), hf5.get h4.jn (hne h4.jn (by simp [kindOf])), h4.dk.frP hf5 hp (hne d1 (by simp [kindOf])) (hne d2 (by simp [kindOf])), ?_, map_fr h4.mp hf5 (hne hmb (by simp [kindOf])), h4.len, ?_, h4.nd⟩
  · refine h4.pt.keepK (K := [55]) (hf5.toK ?_) (by decide) (by decide) (by decide) (by decide)
    rintro k ob rfl ho
    rw [hgc] at ho; cases ho; simp [kindOf]
  · intro i x b hx hb
    obtain ⟨sv, e1, e2⟩ := h4.sg i x b hx hb
    have hmem := List.mem_of_getElem? hb
    have hblk : ∀ a n c, sv = .slice (some a) n c → a.block ≠ g := by
      intro a n c hsv
      rcases hbl b hmem with hold | hge
      · obtain ⟨j, hj⟩ := List.getElem?_of_mem hold
        have hjl := (List.getElem?_eq_some_iff.1 hj).1
        rw [h0.len] at hjl
        obtain ⟨sv0, f1, kb, off, cap, cc, f2, f3, _⟩ := h0.sg j _ b (List.getElem?_eq_getElem hjl) hj
        have f1' := hf3.get f1 (fun f => f)
        obtain ⟨_, _, _, _, d3, d4, _⟩ := h0.dk
        obtain ⟨es0, cl0, hmb0, _⟩ := id h0.mp
        have hnb : ¬ EngB q b := by
          rintro (e | e | e | e | e)
          · exact ne_of_kind f1 h0.eng (by simp [kindOf]) e
          · exact ne_of_kind f1 h0.jn (by simp [kindOf]) e
          · exact ne_of_kind f1 hmb0 (by simp [kindOf]) e
          · exact ne_of_kind f1 d3 (by simp [kindOf]) e
          · exact ne_of_kind f1 d4 (by simp [kindOf]) e
        have f4 := hf4.get f1' hnb
        rw [e1] at f4
        simp only [sgCells, Option.some.injEq, Obj.cells.injEq, Array.mk.injEq, List.cons.injEq] at f4
        obtain ⟨⟨_, _, _, _, _, _, hs, _⟩, _⟩ := f4
        rw [hsv, f2] at hs
        simp only [Value.slice.injEq, Option.some.injEq] at hs
        obtain ⟨rfl, _, _⟩ := hs
        have := lt_of_hp f3
        show kb ≠ g
        omega
      · obtain ⟨cs, a', n', c', g1, g2, g3⟩ := hnew b hmem hge
        rw [e1] at g1
        simp only [Option.some.injEq, Obj.cells.injEq] at g1
        obtain ⟨rfl, _⟩ := g1
        simp only [sgCells, List.getElem?_toArray] at g2
        rw [hsv] at g2
        simp at g2
        obtain ⟨rfl, _, _⟩ := g2
        omega
    obtain ⟨kb, off, cap, cc, f2, f3, f4⟩ := e2
    refine ⟨sv, hf5.get e1 (hne e1 (by simp [kindOf])), kb, off, cap, cc, f2, hf5.get f3 (hblk _ _ _ f2), f4⟩
end Go.Proofs.YtkafmfdipmhleaaGreatDoor

namespace Go.Proofs.YtkafmfdipmhleaaGreatDoor
open Go.RowKit Go.Maps
noncomputable def tolR12 : Code := ((Tryz.f114.body).bind (regionAt 12)).getD .skip
set_option maxRecDepth 100000 in
set_option maxHeartbeats 8000000 in
/-- return d.status(a, d.r.L[i]) -/
theorem tol_r12 (kb ab k : Nat) (c0 c1 c2 c3 c4 c5 c6 c7 : Value) (gb n c : Nat) (r : RefM) (W : World)
    (hk : W.heap[kb]? = some (.cells #[c0, c1, c2, c3, c4, c5, c6, c7, .bool false, .slice (some ⟨gb, 0, none⟩) n c] 165 (0, 0))) (ha : W.heap[ab]? = some (.cells r.1.status 38 (0, 0))) (hkn : k < n)
    (hr : ∀ (j : Nat) (u : Value), (rCells r)[j]? = some u → cellOf W.heap[gb]? (k * 7 + j) = some u) (hs : ∃ a c, r.2.1 = .slice a r.1.steps.length c) (hgx : ∃ cs, W.heap[gb]? = some (.cells cs 223 (0, 0)))
    {ds : List Deferred} {x1 x2 x3 x4 x6 x7 x8 x10 x11 x12 x13 x14 x15 x16 x17 x18 x19 x20 x21 x22 x23 x24 x25 x26 x27 x28 x29 x30 x31 x32 x33 x34 x35 x36 x37 x38 x39 x40 x41 x42 x43 x44 x45 x46 x47 x48 x49 x50 x51 x52 x53 x54 x55 x56 x57 x58 x59 x60 x61 x62 x63 x64 x65 x66 x67 x68 x69 x70 x71 x72 x73 x74 x75 x76 x77 x78 x79 x80 x81 x82 x83 x84 x85 x86 x87 x88 x89 x90 x91 x92 x93 x94 x95 x96 x97 x98 x99 x100 : Value} {Q : Exit → Act → World → Prop}
    (hQ : ∀ (y90 y91 y92 y93 y94 y95 y96 y97 y98 y99 y100 : Value) (w3 : World), New W w3 → Q .normal ⟨#[.pointer (some ⟨kb, 0, none⟩), x1,x2,x3, .bool true, .pointer (some ⟨ab, 0, none⟩), x6,x7,x8, .int .i64 k, x10,x11,x12,x13,x14,x15,x16,x17,x18,x19,x20,x21,x22,x23,x24,x25,x26,x27,x28,x29,x30,x31,x32,x33,x34,x35,x36,x37,x38,x39,x40,x41,x42,x43,x44,x45,x46,x47,x48,x49,x50,x51,x52,x53,x54,x55,x56,x57,x58,x59,x60,x61,x62,x63,x64,x65,x66,x67,x68,x69,x70,x71,x72,x73,x74,x75,x76,x77,x78,x79,x80,x81,x82,x83,x84,x85,x86,x87,x88,x89,y90,y91,y92,y93,y94,y95,y96,y97,y98,y99,y100], ds⟩ w3) :
    Code.wp Tryz.prog tolR12 Q ⟨#[.pointer (some ⟨kb, 0, none⟩), x1,x2,x3,x4, .pointer (some ⟨ab, 0, none⟩), x6,x7,x8, .int .i64 k, x10,x11,x12,x13,x14,x15,x16,x17,x18,x19,x20,x21,x22,x23,x24,x25,x26,x27,x28,x29,x30,x31,x32,x33,x34,x35,x36,x37,x38,x39,x40,x41,x42,x43,x44,x45,x46,x47,x48,x49,x50,x51,x52,x53,x54,x55,x56,x57,x58,x59,x60,x61,x62,x63,x64,x65,x66,x67,x68,x69,x70,x71,x72,x73,x74,x75,x76,x77,x78,x79,x80,x81,x82,x83,x84,x85,x86,x87,x88,x89,x90,x91,x92,x93,x94,x95,x96,x97,x98,x99,x100], ds⟩ W := by
  obtain ⟨g, sv, mv⟩ := r
  obtain ⟨cs, hgc⟩ := hgx
  have HS : Hid (∀ w', New W w' → w'.cell? ⟨kb, 9, none⟩ = some (.slice (some ⟨gb, 0, none⟩) n c) ∧ (w'.cell? ⟨ab, 0, none⟩ = some (.int .i64 g.id) ∧ w'.cell? ⟨ab, 1, none⟩ = some (.int .i64 g.st) ∧ w'.cell? ⟨ab, 2, none⟩ = some (.int .i64 g.step) ∧ w'.cell? ⟨ab, 3, none⟩ = some (.int .i64 g.steps.length) ∧ w'.cell? ⟨ab, 4, none⟩ = some (.int .i64 g.tries) ∧ w'.cell? ⟨ab, 5, none⟩ = some (.int .i64 g.due)) ∧
      (w'.cell? ⟨gb, k * 7, none⟩ = some (.int .i64 g.id) ∧ w'.cell? ⟨gb, k * 7 + 1, none⟩ = some sv ∧ w'.cell? ⟨gb, k * 7 + 2, none⟩ = some (.int .i64 g.st) ∧ w'.cell? ⟨gb, k * 7 + 3, none⟩ = some (.int .i64 g.step) ∧ w'.cell? ⟨gb, k * 7 + 4, none⟩ = some (.int .i64 g.tries) ∧ w'.cell? ⟨gb, k * 7 + 5, none⟩ = some (.int .i64 g.due) ∧ w'.cell? ⟨gb, k * 7 + 6, none⟩ = some mv)) := by
    intro w' hf
    have hg' := hf.get hgc (fun f => f)
    have hx : ∀ (j : Nat) (u : Value), (rCells (g, sv, mv))[j]? = some u → w'.cell? ⟨gb, k * 7 + j, none⟩ = some u := by
      intro j u hu
      rw [cellv, hg', ← hgc]; exact hr j u hu
    refine ⟨by rw [cellv, hf.get hk (fun f => f)]; rfl, ?_, hx 0 _ rfl, hx 1 _ rfl, hx 2 _ rfl, hx 3 _ rfl, hx 4 _ rfl, hx 5 _ rfl, hx 6 _ rfl⟩
    simp only [cellv, hf.get ha (fun f => f)]
    exact ⟨rfl, rfl, rfl, rfl, rfl, rfl⟩
  have HR := Lib.hid (status_calls (w := W.drew) (kb := kb) hk g sv mv hs)
  rw [show g.status = #[.int .i64 g.id, .int .i64 g.st, .int .i64 g.step, .int .i64 g.steps.length, .int .i64 g.tries, .int .i64 g.due] from rfl] at HR
  unfold rCells at HR
  have HQ := Lib.hid hQ
  obtain ⟨a9, ⟨d0, d1, d2, d3, d4, d5⟩, e0, e1, e2, e3, e4, e5, e6⟩ := HS.out W (Fr.refl _ _)
  have hkI : (k : Int) < n := by omega
  have hk0 : (0 : Int) ≤ k := by omega
  clear hk ha hkn hr hs hQ hgc
  conv => arg 2; whnf
  go_region_held3 (fun w' => w'.cell? ⟨kb, 9, none⟩ = some (.slice (some ⟨gb, 0, none⟩) n c) ∧ (w'.cell? ⟨ab, 0, none⟩ = some (.int .i64 g.id) ∧ w'.cell? ⟨ab, 1, none⟩ = some (.int .i64 g.st) ∧ w'.cell? ⟨ab, 2, none⟩ = some (.int .i64 g.step) ∧ w'.cell? ⟨ab, 3, none⟩ = some (.int .i64 g.steps.length) ∧ w'.cell? ⟨ab, 4, none⟩ = some (.int .i64 g.tries) ∧ w'.cell? ⟨ab, 5, none⟩ = some (.int .i64 g.due)) ∧
      (w'.cell? ⟨gb, k * 7, none⟩ = some (.int .i64 g.id) ∧ w'.cell? ⟨gb, k * 7 + 1, none⟩ = some sv ∧ w'.cell? ⟨gb, k * 7 + 2, none⟩ = some (.int .i64 g.st) ∧ w'.cell? ⟨gb, k * 7 + 3, none⟩ = some (.int .i64 g.step) ∧ w'.cell? ⟨gb, k * 7 + 4, none⟩ = some (.int .i64 g.tries) ∧ w'.cell? ⟨gb, k * 7 + 5, none⟩ = some (.int .i64 g.due) ∧ w'.cell? ⟨gb, k * 7 + 6, none⟩ = some mv))
    (first | exact HS.out _ ((Fr.refl _ _).drew) | exact HS.out _ ((Fr.refl _ _).drew.trans hf2))
    ((first
      | (go_at_call 149; refine Calls.mono HR.out ?_; rintro e w2 ⟨rfl, hf2⟩)
      | fail))
  exact HQ.out _ _ _ _ _ _ _ _ _ _ _ _ ((Fr.refl _ W).drew.trans hf2)
theorem eqz38 (w : World) : (binOp .eql 38 (.agg #[.int .i64 0, .int .i64 0, .int .i64 0, .int .i64 0, .int .i64 0, .int .i64 0]) (.agg #[.int .i64 0, .int .i64 0, .int .i64 0, .int .i64 0, .int .i64 0, .int .i64 0])).run Tryz.prog w = .ok (.bool true) w := by kernel_rfl
theorem RefAt.rowR {w : World} {B n c g k : Nat} {R : List RefM} (h : RefAt w B (.slice (some ⟨g, 0, none⟩) n c) R) {r : RefM} (hr : R[k]? = some r) : (∀ (j : Nat) (u : Value), (rCells r)[j]? = some u → cellOf w.heap[g]? (k * 7 + j) = some u) ∧ ∃ cs, w.heap[g]? = some (.cells cs 223 (0, 0)) := by
  refine ⟨fun j u hu => ?_, ?_⟩
  · rw [← cellv]
    exact h.cellR _ _ (allR_get R k r hr j u hu)
  · exact own_cells h.own rfl
set_option maxRecDepth 100000 in
set_option maxHeartbeats 8000000 in
theorem told_calls {w : World} {B m : Nat} {o : RD} {e : EngR} (h : RunAt w B o) (hk : RDok m o) (hx : o.x = some e) (id : Int) (hid : i64 id) (hg : Handle w) :
    Calls Tryz.prog 114 #[.pointer (some ⟨o.kb, 0, none⟩), .int .i64 id] w fun e w' => e = .returned (.bool true) ∧ New w w' := by
  have hst := h.st
  have H := Lib.hid h
  have HK := Lib.hid hk
  have Hg := Lib.hid hg
  have hxv : xvOf o = .pointer (some ⟨e.xb, 0, none⟩) := by unfold xvOf; rw [hx]
  have hdec : decide (o.ep = 0) = false := by simp [hk.epx hx]
  obtain ⟨la, lc, hlv⟩ := h.ref.shape
  have HF := Lib.hid (fun (w' : World) (hf : New w w') => Find_calls (h.ref.new hf) hk.ord hk.lenR o.pz o.ck id)
  unfold engV FindPost at HF
  rw [hlv] at HF
  simp only [rdCells] at hst
  rw [hxv, hdec, hlv] at hst
  have Hst := Lib.hid hst
  have Hlv := Lib.hid hlv
  have HNm := Lib.hid (fun (x : Int) (w' : World) => num_calls w' x)
  cases ht : thereB (sagasOf o.R) id
  · have HS : Hid (Calls Tryz.prog 21 #[.pointer (some ⟨e.xb, 0, none⟩), .int .i64 id] w fun e w' => (∃ nb op, e = .returned (.tuple #[.agg #[.int .i64 0, .int .i64 0, .int .i64 0, .int .i64 0, .int .i64 0, .int .i64 0], .iface 121 (.pointer (some ⟨nb, 0, none⟩))]) ∧ w'.heap[nb]? = some (.cells (faultCells op 9) 123 (0, 0))) ∧ New w w') := by
      show Calls _ _ _ _ _
      rw [← show (o.pl_ e).xb = e.xb from rfl]
      exact Status_noneV (h.eng e hx).1 hid (not_there ht)
    rw [ht] at HF
    clear h hk hx hg hxv hdec hlv ht hid
    have hcv := cellv w
    go_enter Tryz.func114, Tryz.ntmps114
    go_upto_region 2 with (first
      | (go_at_call 21; refine Calls.mono HS.out ?_; rintro e2 w2 ⟨⟨nb, op, rfl, hfb⟩, hf2⟩)
      | fail)
    have hN3 : New w2 (w2.alloc (.cells #[.int .i64 0, .int .i64 0, .int .i64 0, .int .i64 0, .int .i64 0, .int .i64 0] 38)) := (Fr.refl _ w2).alloc _
    have ha3 := heap_alloc_new w2 (.cells #[.int .i64 0, .int .i64 0, .int .i64 0, .int .i64 0, .int .i64 0, .int .i64 0] 38)
    have hfb3 := hN3.get hfb (fun f => f)
    generalize w2.alloc (.cells #[.int .i64 0, .int .i64 0, .int .i64 0, .int .i64 0, .int .i64 0, .int .i64 0] 38) = w3 at hN3 ha3 hfb3 ⊢
    generalize w2.heap.size = ab at ha3 ⊢
    have Hf3 := Lib.hid (hf2.trans hN3)
    have Ha3 := Lib.hid ha3
    have HTo := Lib.hid (toldP_fault nb op 9 w3 (Hg.out.new Hf3.out) hfb3)
    clear hst hcv hfb hf2 hN3 ha3 hfb3
    go_upto_region 4 with (first
      | (go_at_call 26; refine Calls.mono HTo.out ?_; rintro e4 w4 ⟨rfl, hf4⟩)
      | (go_at_call 108; refine Calls.mono (HNm.out _ _) ?_; rintro e5 w5 ⟨rfl, rfl⟩)
      | fail)
    have Hf4 := Lib.hid (Hf3.out.trans hf4)
    have Ha4 := Lib.hid (hf4.get Ha3.out (fun f => f))
    have hst4 := Hf4.out.get Hst.out (fun f => f)
    have HF4 := Lib.hid (HF.out _ Hf4.out)
    clear hf4
    have hcv := cellv w4
    go_upto_region 5 with (first
      | (go_at_call 135; refine Calls.mono HF4.out ?_; rintro e6 w6 ⟨rfl, hf6⟩)
      | fail)
    have Hf6 := Lib.hid (Hf4.out.trans hf6)
    have ha6 := hf6.get Ha4.out (fun f => f)
    have hst6 := Hf6.out.get Hst.out (fun f => f)
    clear hst4 hcv hf6
    have hcv := cellv w6
    have hz := eqz38
    go_wp2_with fail
    go_ret
    exact ⟨rfl, Hf6.out⟩
  · obtain ⟨g, hgs, hgi⟩ := there_get hk.ord ht
    obtain ⟨r, hr, hrg⟩ := ref_get hgs
    subst hgi
    have hlt := (List.getElem?_eq_some_iff.1 hr).1
    have hok := hk.ok g (List.mem_of_getElem? hgs)
    have HS : Hid (Calls Tryz.prog 21 #[.pointer (some ⟨e.xb, 0, none⟩), .int .i64 g.id] w fun e w' => e = .returned (.tuple #[.agg g.status, .nilIface]) ∧ New w w') := by
      show Calls _ _ _ _ _
      rw [← show (o.pl_ e).xb = e.xb from rfl]
      exact StatusV (h.eng e hx).1 hk.ord hgs ⟨hok.1, hok.2.1⟩
    rw [show g.status = #[.int .i64 g.id, .int .i64 g.st, .int .i64 g.step, .int .i64 g.steps.length, .int .i64 g.tries, .int .i64 g.due] from rfl] at HS
    have hsh := ((h.ref.ok r (List.mem_of_getElem? hr)).1).shape
    rw [ht] at HF
    have Hr := Lib.hid hr
    have Hrg := Lib.hid hrg
    have Hlt := Lib.hid hlt
    have Hsh := Lib.hid hsh
    generalize findI (sagasOf o.R) g.id = k at HF Hr Hlt
    clear h hk hx hg hxv hdec hlv ht hid hgs hr hrg hlt hok hsh
    have hcv := cellv w
    go_enter Tryz.func114, Tryz.ntmps114
    go_upto_region 2 with (first
      | (go_at_call 21; refine Calls.mono HS.out ?_; rintro e2 w2 ⟨rfl, hf2⟩)
      | fail)
    have hN3 : New w2 (w2.alloc (.cells #[.int .i64 g.id, .int .i64 g.st, .int .i64 g.step, .int .i64 g.steps.length, .int .i64 g.tries, .int .i64 g.due] 38)) := (Fr.refl _ w2).alloc _
    have ha3 := heap_alloc_new w2 (.cells #[.int .i64 g.id, .int .i64 g.st, .int .i64 g.step, .int .i64 g.steps.length, .int .i64 g.tries, .int .i64 g.due] 38)
    generalize w2.alloc (.cells #[.int .i64 g.id, .int .i64 g.st, .int .i64 g.step, .int .i64 g.steps.length, .int .i64 g.tries, .int .i64 g.due] 38) = w3 at hN3 ha3 ⊢
    generalize w2.heap.size = ab at ha3 ⊢
    have Hf3 := Lib.hid (hf2.trans hN3)
    have Ha3 := Lib.hid ha3
    clear hst hcv hf2 hN3 ha3
    go_upto_region 4 with (first
      | (go_at_call 26; refine Calls.mono (toldP_nil w3) ?_; rintro e4 w4 ⟨rfl, hw4⟩; obtain rfl := hw4.symm)
      | (go_at_call 108; refine Calls.mono (HNm.out _ _) ?_; rintro e5 w5 ⟨rfl, rfl⟩)
      | fail)
    have hst4 := Hf3.out.get Hst.out (fun f => f)
    have HF4 := Lib.hid (HF.out _ Hf3.out)
    have hcv := cellv w3
    go_upto_region 5 with (first
      | (go_at_call 135; refine Calls.mono HF4.out ?_; rintro e6 w6 ⟨rfl, hf6⟩)
      | fail)
    have Hf6 := Lib.hid (Hf3.out.trans hf6)
    have ha6 := hf6.get Ha3.out (fun f => f)
    have hst6 := Hf6.out.get Hst.out (fun f => f)
    have href6 : RefAt w6 B (.slice la o.R.length lc) o.R := by rw [← Hlv.out]; exact H.out.ref.new Hf6.out
    obtain ⟨gb, rfl, _⟩ := href6.at k r Hr.out
    obtain ⟨hrow, hgx⟩ := href6.rowR Hr.out
    have Hrow := Lib.hid hrow
    have Hgx := Lib.hid hgx
    have Ha6 := Lib.hid ha6
    have Hst6 := Lib.hid hst6
    clear hst4 hst6 hcv hf6 ha6 href6 hrow hgx
    go_upto_region 12 with fail
    refine tol_r12 o.kb ab k _ _ _ _ _ _ _ _ gb o.R.length lc r w6 Hst6.out (by rw [Hrg.out]; exact Ha6.out) Hlt.out Hrow.out Hsh.out Hgx.out ?_
    intros
    rename_i w7 hf7
    have Hf7 := Lib.hid hf7
    clear hf7
    go_wp2_with fail
    go_ret
    exact ⟨rfl, Hf6.out.trans Hf7.out⟩
end Go.Proofs.YtkafmfdipmhleaaGreatDoor

namespace Go.Proofs.YtkafmfdipmhleaaGreatDoor
open Go.RowKit Go.Maps Go.Shelf
attribute [local go_sem] Oper.semAt_some
/-- Where an engine lies, but for its journal, disk and partner. -/
structure EvV (cv : Value) (w : World) (q : Pl) (bl : List Nat) (s : StM) : Prop where
  eng : w.heap[q.xb]? = some (.cells (egCells q.jb q.mb s.pause cv s.clock false) 79 (0, 0))
  mp : w.ownsMap Tryz.prog 3 ptrR q.mb s.sagas.length (dataOf (ilOf s.sagas bl))
  len : bl.length = s.sagas.length
  sg : ∀ (i : Nat) (g : SagaM) (b : Nat), s.sagas[i]? = some g → bl[i]? = some b → SagaAt w b g
  nd : bl.Nodup
theorem EvV.keepK {cv : Value} {w w' : World} {K : List Nat} {q : Pl} {bl : List Nat} {s : StM} (h : EvV cv w q bl s) (hf : FrK K w w') (hK : ∀ k ∈ [80, 0, 89, 55], k ∉ K) : EvV cv w' q bl s :=
  ⟨hf.block _ _ h.eng (by simpa [kindOf] using hK 80 (by simp)), map_keepK h.mp hf (hK 0 (by simp)), h.len, sgs_keepK h.sg hf (hK 89 (by simp)) (hK 55 (by simp)), h.nd⟩
set_option maxRecDepth 100000 in
set_option maxHeartbeats 4000000 in
/-- The iterator: it goes through the sagas in the order of their numbers. -/
theorem all84v (n : Nat) (hn : 1 ≤ n) {cv : Value} {w0 : World} {q : Pl} {bl : List Nat} {s : StM} (hs : EvV cv w0 q bl s) (ho : s.sagas.Pairwise (fun a b => a.id < b.id)) (hok : ∀ g ∈ s.sagas, 1 ≤ g.id ∧ g.id ≤ 1000) (hl : s.sagas.length ≤ 1000)
    (l Bn : Nat) (J Jx : List SagaM → World → Prop) (W : World) (hJ : AbidesFrom W.heap.size J)
    (hY : ∀ pre x W1, J pre W1 → pre.length < s.sagas.length → YieldAt Fence.wide (n - 1) Tryz.prog l #[.agg x.status] W1 fun e W' =>
      (e = .returned (.bool true) ∧ J (pre ++ [x]) W' ∧ KpA w0.heap.size W1 W') ∨ (e = .returned (.bool false) ∧ Jx (pre ++ [x]) W'))
    (hBn : W.heap[Bn]? = some (.cells #[.pointer (some ⟨q.xb, 0, none⟩)] 28 (0, 0))) (hB : Below w0.heap.size w0 W) (h0 : J [] W) :
    CallsIn Fence.wide n Tryz.prog 84 #[.func (.yield l) #[] #[], .pointer (some ⟨Bn, 0, none⟩)] W fun e W' => (∃ v, e = .returned v) ∧
      ((∃ ys, ys = s.sagas ∧ J ys W') ∨ (∃ pre, pre <+: s.sagas ∧ Jx pre W')) := by
  have Hs := Lib.hid hs
  have Ho := Lib.hid ho
  have Hok := Lib.hid hok
  have hs1 := hs.keepK (below_toK hB (Nat.le_refl _) []) (by simp)
  have hx := hs1.eng
  simp only [egCells] at hx
  have hz : Maps.size (dataOf (ilOf s.sagas bl)) = s.sagas.length := by
    rw [size_dataOf, ilOf, List.length_zip, List.length_map, hs.len]; omega
  have HK := Lib.hid (fun m => (callsIn_wide (n := m)).2 (Keys_calls (some q.mb) W))
  have HS := Lib.hid (fun m => (callsIn_wide (n := m)).2 (Sorted_calls q.mb s.sagas.length (dataOf (ilOf s.sagas bl)) ptrR W hs1.mp (by rw [hz]; unfold maxLen; omega) (by rw [hz]; omega)))
  have Hl := Lib.hid hl
  have HB := Lib.hid hB
  have HY := Lib.hid hY
  have HJ := Lib.hid hJ
  have H0 := Lib.hid h0
  have a1 : W.cell? ⟨Bn, 0, none⟩ = some (.pointer (some ⟨q.xb, 0, none⟩)) := by rw [cellv, hBn]; rfl
  have Hbn : Hid (W.heap[Bn]? = some (.cells #[.pointer (some ⟨q.xb, 0, none⟩)] 28 (0, 0))) := hBn
  clear hs ho hok hl hs1 hz hJ hY hB h0 hBn
  have hcv := cellv W
  refine callsIn_of_wp Tryz.func84 rfl trivial ?_ rfl
  simp only [Tryz.ntmps84, List.size_toArray, List.length_cons, List.length_nil, Nat.reduceAdd, Nat.reduceSub, Array.replicate_succ, Array.replicate_zero, List.push_toArray, List.append_toArray, List.nil_append, List.cons_append]
  gi_wp2_with (first
    | (gi_at_call 48; refine (HK.out _).mono ?_; rintro e w2 ⟨rfl, rfl⟩)
    | (refine ⟨trivial, ?_⟩; gi_at_call 48; refine (HK.out _).mono ?_; rintro e w2 ⟨rfl, rfl⟩)
    | (refine ⟨trivial, ?_⟩; refine (HK.out _).mono ?_; rintro e w2 ⟨rfl, rfl⟩)
    | (refine ⟨trivial, ?_⟩; refine (HS.out _).mono ?_; rintro e w3 ⟨v, ss, rfl, hperm, hown, hnil, hbel⟩; obtain ⟨va, vc, rfl, hva⟩ := ids_shape hown)
    | fail)
  have hb1 : Below W.heap.size W w3 := ((Below.refl _ W).alloc (Nat.le_refl _) (.cells #[.map (some q.mb)] 76)).trans (hbel.mono (by simp))
  have hb3 : Below w0.heap.size w0 w3 := HB.out.trans (hb1.mono HB.out.size)
  have hids := keys_sorted Hs.out.len Ho.out hperm
  rw [hids] at hown
  have hlen : ss.length = s.sagas.length := by
    have := congrArg List.length hids
    simpa using this
  rw [hlen] at hown hva ⊢
  have hbn3 := (hb1.block Bn (lt_of_hp Hbn.out)).trans Hbn.out
  have HJ3 := Lib.hid (abides_below HJ.out H0.out hb1)
  have HB3 := Lib.hid hb3
  have Hbn3 := Lib.hid hbn3
  have Hva := Lib.hid hva
  have Hown := Lib.hid hown
  clear hcv hx a1 hnil hbel hb1 hb3 hids hperm hva hlen hown hbn3 Hbn HJ H0 HK HS
  gi_loopw [12] (fun i wr => ∃ k : Nat, k ≤ s.sagas.length ∧ i = .int .i64 (k : Nat) ∧ J (s.sagas.take k) wr ∧ Below w0.heap.size w0 wr ∧ FrK [0, 66, 39] w3 wr) (fun i _ => s.sagas.length - (intOf i).toNat)
  case atStart => exact ⟨0, Nat.zero_le _, rfl, HJ3.out, HB3.out, FrK.refl _ _⟩
  case round =>
    obtain ⟨k, hk, rfl, hJk, hbl, hfk⟩ := hrel
    have Hbl := Lib.hid hbl
    have Hfk := Lib.hid hfk
    have HJk := Lib.hid hJk
    have hbn := hfk.block _ _ Hbn3.out (by simp [kindOf])
    clear hbl hfk hJk
    by_cases hkn : k < s.sagas.length
    · obtain ⟨g, hg⟩ : ∃ g, s.sagas[k]? = some g := ⟨s.sagas[k], List.getElem?_eq_getElem hkn⟩
      obtain ⟨b, hb, hbo⟩ := blk_of s.sagas bl Hs.out.len Ho.out k g hg
      have hokg := Hok.out g (List.mem_of_getElem? hg)
      have hsr := Hs.out.keepK (below_toK Hbl.out (Nat.le_refl _) []) (by simp)
      have hlk := look_some hsr.mp g.id (by omega) hbo
      have hsg := hsr.sg k g b hg hb
      have hx := hsr.eng
      obtain ⟨sv, hsb, _⟩ := hsg
      simp only [egCells] at hx
      simp only [sgCells] at hsb
      obtain ⟨ib, rfl⟩ : ∃ ib, va = some ⟨ib, 0, none⟩ := by
        rcases Hva.out with h | h
        · omega
        · exact h
      have hgid : (s.sagas.map (·.id))[k]? = some g.id := by rw [List.getElem?_map, hg]; rfl
      have hcell := ints_at (own_keepK Hown.out Hfk.out (by decide)) k g.id hgid
      have htk : s.sagas.take k ++ [g] = s.sagas.take (k + 1) := by
        rw [List.take_succ_eq_append_getElem hkn]
        congr 2
        rw [List.getElem?_eq_getElem hkn] at hg; exact (Option.some.inj hg).symm
      obtain ⟨fn, tmps, assign, body, hy, hR⟩ := HY.out (s.sagas.take k) g wr HJk.out (by rw [List.length_take]; omega)
      rw [htk] at hR
      have HR := Lib.hid hR
      have hkI : (k : Int) < s.sagas.length := by omega
      have Hkn := Lib.hid hkn
      simp only [SagaM.status] at hy
      have hl30 := Hl.out
      clear hb hbo hsr hgid htk hR hg hkn hokg
      have hcv := cellv wr
      have a1 : wr.cell? ⟨Bn, 0, none⟩ = some (.pointer (some ⟨q.xb, 0, none⟩)) := by rw [cellv, hbn]; rfl
      gi_wp2
      refine HR.out.mono ?_
      rintro e W3 (⟨rfl, hJ3, hk3⟩ | ⟨rfl, hJx3⟩)
      · gi_wp2
        go_roundw
        case rel => exact ⟨k + 1, Hkn.out, by go_num, hJ3, Hbl.out.trans hk3.1, Hfk.out.trans hk3.2⟩
        case measure => have := Hkn.out; simp [intOf]; omega
      · gi_wp2
        refine bodyPost_ret (results_none rfl _ _ _) rfl ?_
        exact ⟨⟨_, rfl⟩, .inr ⟨s.sagas.take (k + 1), List.take_prefix _ _, hJx3⟩⟩
    · obtain rfl : k = s.sagas.length := by omega
      have hnk : ¬ ((s.sagas.length : Int) < s.sagas.length) := by omega
      gi_wp2
      go_end0
      exact ⟨⟨_, rfl⟩, .inl (by have := HJk.out; rw [List.take_length] at this; exact this)⟩
theorem all_stopsv (n : Nat) (hn : 1 ≤ n) {cv : Value} {w0 w : World} {q : Pl} {bl : List Nat} {s : StM} (hs : EvV cv w0 q bl s) (ho : s.sagas.Pairwise (fun a b => a.id < b.id)) (hok : ∀ g ∈ s.sagas, 1 ≤ g.id ∧ g.id ≤ 1000) (hl : s.sagas.length ≤ 1000)
    (Bn : Nat) (hBn : w.heap[Bn]? = some (.cells #[.pointer (some ⟨q.xb, 0, none⟩)] 28 (0, 0))) (hB : Below w0.heap.size w0 w) :
    SeqStopsK Fence.wide n Tryz.prog 84 #[.pointer (some ⟨Bn, 0, none⟩)] (fun g : SagaM => #[Value.agg g.status]) (KpA w0.heap.size) (fun ys => ys = s.sagas) (fun pre => pre <+: s.sagas) s.sagas.length w :=
  fun l J Jx W hW hJ _ hY h0 => all84v n hn hs ho hok hl l Bn J Jx W hJ hY ((hW.block Bn (lt_of_hp hBn)).trans hBn) (hB.trans (hW.mono hB.size)) h0
set_option maxRecDepth 100000 in
set_option maxHeartbeats 4000000 in
theorem All_pos {cv : Value} {w : World} {M : Nat} {q : Pl} {bl : List Nat} {s : StM} (hs : EvV cv w q bl s) (ho : s.sagas.Pairwise (fun a b => a.id < b.id)) (hok : ∀ g ∈ s.sagas, 1 ≤ g.id ∧ g.id ≤ 1000) (hl : s.sagas.length ≤ 1000) (hM : 1 ≤ M) :
    Calls Tryz.prog 32 #[.pointer (some ⟨q.xb, 0, none⟩), .int .i64 (M : Nat)] w fun e w' => ∃ v, e = .returned v ∧ w'.ownsRow w.heap.size 38 6 v (s.sagas.take M).length (stCells (s.sagas.take M)) ∧ Below w.heap.size w w' := by
  refine (callsIn_wide (n := 10)).1 ?_
  obtain ⟨i0, hi, hz0, hz1, hz2⟩ := info_parts Tryz.info38z
  refine callsIn_of_wp_marks Tryz.func32 rfl trivial ?_ rfl
  simp only [Tryz.ntmps32, List.size_toArray, List.length_cons, List.length_nil, Nat.reduceAdd, Nat.reduceSub, Array.replicate_succ, Array.replicate_zero, List.push_toArray, List.append_toArray, List.nil_append, List.cons_append]
  have Hs := Lib.hid hs
  have Ho := Lib.hid ho
  have Hok := Lib.hid hok
  have Hl := Lib.hid hl
  have hM1 : ¬ ((M : Int) < 1) := by omega
  clear hs ho hok hl
  gi_wp2_with (first
    | (refine ⟨trivial, ?_⟩; refine (all59 9 q.xb _).mono ?_; rintro e w' ⟨rfl, rfl⟩)
    | fail)
  have bM := ((Boxed.new w 3 (.int .i64 (M : Nat))).alloc (.cells #[.slice none 0 0] 65)).alloc (.cells #[.pointer (some ⟨q.xb, 0, none⟩)] 28)
  have bO := (Boxed.new (w.alloc (.cells #[.int .i64 (M : Nat)] 3)) 65 (.slice none 0 0)).alloc (.cells #[.pointer (some ⟨q.xb, 0, none⟩)] 28)
  have bA := Boxed.new ((w.alloc (.cells #[.int .i64 (M : Nat)] 3)).alloc (.cells #[.slice none 0 0] 65)) 28 (.pointer (some ⟨q.xb, 0, none⟩))
  simp only [World.size_alloc] at bO bA
  have hB0 : Below w.heap.size w (((w.alloc (.cells #[.int .i64 (M : Nat)] 3)).alloc (.cells #[.slice none 0 0] 65)).alloc (.cells #[.pointer (some ⟨q.xb, 0, none⟩)] 28)) := (((Below.refl _ w).alloc (Nat.le_refl _) _).alloc (by simp) _).alloc (by simp; omega) _
  have hsz : (((w.alloc (.cells #[.int .i64 (M : Nat)] 3)).alloc (.cells #[.slice none 0 0] 65)).alloc (.cells #[.pointer (some ⟨q.xb, 0, none⟩)] 28)).heap.size = w.heap.size + 3 := by simp
  obtain ⟨W0, hW0⟩ : ∃ W0, ((w.alloc (.cells #[.int .i64 (M : Nat)] 3)).alloc (.cells #[.slice none 0 0] 65)).alloc (.cells #[.pointer (some ⟨q.xb, 0, none⟩)] 28) = W0 := ⟨_, rfl⟩
  rw [hW0] at bM bO bA hB0 hsz
  simp only [World.size_alloc, hW0]
  refine wpIn_rangeFunc_ownH rfl (by omega) (gf := 84) (lb := #[.pointer (some ⟨w.heap.size + 1 + 1, 0, none⟩)]) rfl trivial (enters_of Tryz.func84 (by kernel_rfl) rfl)
    (all_stopsv 9 (by omega) Hs.out Ho.out Hok.out Hl.out (w.heap.size + 1 + 1) bA hB0) KpA.trans (KpA.put (by omega)) (Below.refl _ _) (fun _ => rfl)
    (fun pre W => ((∃ v, Boxed W (w.heap.size + 1) 65 v ∧ W.ownsRow w.heap.size 38 6 v pre.length (stCells pre) ∧ (v = .slice none 0 0 ↔ pre = [])) ∧ Boxed W w.heap.size 3 (.int .i64 (M : Nat))) ∧ (Below w.heap.size w W ∧ pre.length ≤ M))
    (fun c pre W => c = .exit 0 ∧ (pre.length = M + 1 ∧ ((∃ v, Boxed W (w.heap.size + 1) 65 v ∧ W.ownsRow w.heap.size 38 6 v (pre.take M).length (stCells (pre.take M)) ∧ True) ∧ Below w.heap.size w W)))
    (OwnFrom.and (OwnFrom.and (Own.from (holdsRow_own w.heap.size (w.heap.size + 1) 65 38 6 (fun pre => pre.length) (fun pre => stCells pre) (fun pre v => v = .slice none 0 0 ↔ pre = [])) _) (Own.from (boxed_own _ _ _) _)) (OwnFrom.and (ownFrom_below (Nat.le_refl _) (by omega)) (ownFrom_pure _ (fun (pre : List SagaM) => pre.length ≤ M))))
    (fun c => OwnFrom.and (ownFrom_pure _ (fun (_ : List SagaM) => c = .exit 0)) (OwnFrom.and (ownFrom_pure _ (fun (pre : List SagaM) => pre.length = M + 1)) (OwnFrom.and (Own.from (holdsRow_own w.heap.size (w.heap.size + 1) 65 38 6 (fun (pre : List SagaM) => (pre.take M).length) (fun (pre : List SagaM) => stCells (pre.take M)) (fun (pre : List SagaM) (v : Value) => True)) _) (ownFrom_below (Nat.le_refl _) (by omega)))))
    ⟨⟨⟨_, bO, World.ownsRow_nil _ _ _ _, by simp⟩, bM⟩, hB0, by simp⟩
    (fun x a' W => ∃ Bx, w.heap.size + 1 < Bx ∧ W.heap[Bx]? = some (.cells x.status 38 (0, 0)) ∧ a' = { tmps := #[.pointer (some ⟨q.xb, 0, none⟩), .int .i64 (M : Nat), undef, .pointer (some ⟨w.heap.size, 0, none⟩), .slice none 0 0, .pointer (some ⟨w.heap.size + 1, 0, none⟩), .pointer (some ⟨Bx, 0, none⟩), .int .i64 (M : Nat), .bool false, .pointer (some ⟨q.xb, 0, none⟩), .func (.func 84) #[] #[.pointer (some ⟨w.heap.size + 1 + 1, 0, none⟩)], .agg x.status, undef, undef, undef, undef, undef, undef, undef, undef, undef], defers := [] })
    (fun x a' _ X Y row hs hg hr => by
      obtain ⟨Bx, h1, h2, h3⟩ := hs
      refine ⟨Bx, h1, (hg.block Bx (lt_of_hp h2) (fun e => ?_)).trans h2, h3⟩
      obtain ⟨_, o, ho, hc⟩ := hr Bx e.symm
      rw [h2] at ho; cases ho; cases hc)
    ?assign ?body ?done ?stop
  case assign =>
    rintro l pre x W K ⟨⟨⟨v, hv, hrow, hnil⟩, bM1⟩, hB1, hpl⟩ hK
    have hst : Hid (#[Value.int .i64 x.id, Value.int .i64 x.st, Value.int .i64 x.step, Value.int .i64 x.steps.length, Value.int .i64 x.tries, Value.int .i64 x.due] = x.status) := rfl
    simp only [SagaM.status]
    gi_wp2
    rw [hst.out]
    exact hK _ _ (FrK.keepsFrom (K := []) (((Fr.refl (fun _ => False) W).alloc _).toK (fun _ _ f _ => f.elim)) (by simp) _)
      ⟨(Below.refl _ W).alloc hB1.size _, ((Fr.refl (fun _ => False) W).alloc _).toK (fun _ _ f _ => f.elim)⟩
      ⟨⟨⟨v, hv.alloc _, hrow.alloc _, hnil⟩, bM1.alloc _⟩, hB1.alloc hB1.size _, hpl⟩ ⟨W.heap.size, hv.lt, World.alloc_heap_new W _, rfl⟩
  case body =>
    rintro l pre x a' W hl ⟨r, hr⟩ ⟨⟨⟨v, hv, hrow, hnil⟩, bM1⟩, hB1, hpl⟩ ⟨Bx, hBx, bX, rfl⟩ hlt
    have hc := hv.cell
    have hm := bM1.cell
    obtain ⟨va, vc, rfl⟩ : ∃ va vc, v = .slice va pre.length vc := by
      rcases hrow.2 with ⟨h1, h2⟩ | ⟨g, cap, cur, h1, _⟩
      · exact ⟨none, 0, by rw [h1, h2]⟩
      · exact ⟨_, _, h1⟩
    by_cases hne : (pre.length : Int) = (M : Int)
    · have hpM : pre.length = M := by omega
      have Hrow := Lib.hid hrow
      have Hv := Lib.hid hv
      have HM1 := Lib.hid bM1
      have HB1 := Lib.hid hB1
      have HpM := Lib.hid hpM
      have hst : Hid (#[Value.int .i64 x.id, Value.int .i64 x.st, Value.int .i64 x.step, Value.int .i64 x.steps.length, Value.int .i64 x.tries, Value.int .i64 x.due] = x.status) := rfl
      simp only [SagaM.status] at bX ⊢
      clear hrow hv bM1 hB1 hnil hlt hr hpM hpl
      gi_wp2
      have etk : (pre ++ [x]).take M = pre := by rw [← HpM.out]; simp
      refine ⟨FrK.keepsFrom (K := []) (FrK.refl _ _) (by simp) _, rfl, by rw [List.length_append, HpM.out]; rfl, ⟨_, Hv.out, ?_, trivial⟩, HB1.out⟩
      rw [etk]; exact Hrow.out
    have hst : Hid (#[Value.int .i64 x.id, Value.int .i64 x.st, Value.int .i64 x.step, Value.int .i64 x.steps.length, Value.int .i64 x.tries, Value.int .i64 x.due] = x.status) := rfl
    have Hrow := Lib.hid hrow
    have Hv := Lib.hid hv
    have HM1 := Lib.hid bM1
    have HB1 := Lib.hid hB1
    have Hnil := Lib.hid hnil
    simp only [SagaM.status] at bX ⊢
    have hoA := Lib.hid (hrow.alloc (.cells #[Value.int .i64 x.id, Value.int .i64 x.st, Value.int .i64 x.step, Value.int .i64 x.steps.length, Value.int .i64 x.tries, Value.int .i64 x.due] 38))
    have hnews : ∀ (j : Nat) (u : Value), [Value.int .i64 x.id, Value.int .i64 x.st, Value.int .i64 x.step, Value.int .i64 x.steps.length, Value.int .i64 x.tries, Value.int .i64 x.due][j]? = some u → (W.alloc (.cells #[Value.int .i64 x.id, Value.int .i64 x.st, Value.int .i64 x.step, Value.int .i64 x.steps.length, Value.int .i64 x.tries, Value.int .i64 x.due] 38)).cell? ((⟨W.heap.size, 0, none⟩ : Addr).add j) = some u := World.news_of_block (heap_alloc_new W _)
    have Hnews := Lib.hid hnews
    have hlt' := Lib.hid hlt
    have Hpl : Hid (pre.length < M) := by show _ < _; omega
    clear hrow hv bM1 hB1 hnil hnews hlt hr hpl
    have hcv := cellv W
    gi_wp2_with (first
      | (gi_at_builtin; refine wpListIn_append_own _ rfl _ _ 65 rfl w.heap.size 38 i0 (.agg #[.int .i64 0, .int .i64 0, .int .i64 0, .int .i64 0, .int .i64 0, .int .i64 0]) 6 48 Tryz.underlying65 hi hz0 hz1 hz2 rfl (by decide) _ _ _ rfl hoA.out ⟨W.heap.size, 0, none⟩ 1 1 [Value.int .i64 x.id, Value.int .i64 x.st, Value.int .i64 x.step, Value.int .i64 x.steps.length, Value.int .i64 x.tries, Value.int .i64 x.due] rfl rfl Hnews.out (by intro u hu; simp at hu; rcases hu with rfl | rfl | rfl | rfl | rfl | rfl <;> rfl) (by unfold maxLen; have := hlt'.out; have := Hl.out; omega) (by have := hlt'.out; have := Hl.out; omega) (by have := HB1.out.size; simp; omega) ?_; intro v' w1 hown' hgrow _; obtain ⟨g', cap', rfl⟩ := ownsRow_succ hown'; obtain ⟨hv1, hv2, hr2, hk2, hb2⟩ := Hv.out.appended (by decide) Hrow.out HB1.out.size (by omega) hown' hgrow; have hc1 := hv1.cell; have hf1 := hv1.frozen)
      | fail)
    have hg1 : (W.alloc (.cells #[Value.int .i64 x.id, Value.int .i64 x.st, Value.int .i64 x.step, Value.int .i64 x.steps.length, Value.int .i64 x.tries, Value.int .i64 x.due] 38)).grownBy w1 (Value.slice va pre.length vc).ownBlock := hgrow
    have hF : FrK [66, 39] W (w1.setCell ⟨w.heap.size + 1, 0, none⟩ (.slice (some ⟨g', 0, none⟩) (pre.length + 1) cap')) := by
      refine FrK.trans (b := W.alloc (.cells #[Value.int .i64 x.id, Value.int .i64 x.st, Value.int .i64 x.step, Value.int .i64 x.steps.length, Value.int .i64 x.tries, Value.int .i64 x.due] 38)) (((Fr.refl (fun _ => False) W).alloc _).toK (fun _ _ f _ => f.elim)) (FrK.trans (b := w1) ((Fr.ofGrown hg1).toK ?_) ((Fr.one (w.heap.size + 1) w1 0 _).toK ?_))
      · intro k o hk ho
        obtain ⟨o', ho', hk'⟩ := own_kind hoA.out hk
        rw [ho] at ho'; cases ho'
        simp [hk']
      · rintro k o rfl ho
        rw [show w1.heap[w.heap.size + 1]? = _ from hv1] at ho; cases ho
        simp [kindOf]
    refine ⟨hF.keepsFrom (by simp) _, KpA.of hF (by simp) hb2, ⟨⟨_, hv2, ?_, by simp⟩, hF.block _ _ HM1.out (by simp [kindOf])⟩, HB1.out.trans hb2, by rw [List.length_append]; show pre.length + 1 ≤ M; have := Hpl.out; omega⟩
    rw [stCells_snoc, List.length_append, List.length_singleton]
    exact hr2
  case done =>
    rintro D ys W hD rfl ⟨⟨⟨v, hv, hrow, hnil⟩, bM1⟩, hB1, hpl⟩ hK
    have etk := List.take_of_length_le hpl
    have hc := hv.cell
    obtain ⟨va, vc, rfl⟩ : ∃ va vc, v = .slice va s.sagas.length vc := by
      rcases hrow.2 with ⟨h1, h2⟩ | ⟨g, cap, cur, h1, _⟩
      · exact ⟨none, 0, by rw [h1, h2]⟩
      · exact ⟨_, _, h1⟩
    gi_wp2
    refine ⟨by simp, .inl ⟨_, _, rfl, run_takeDeferred hK, ?_⟩⟩
    exact ⟨_, results_tmp rfl _ _ _, _, rfl, by rw [etk]; exact ownsRow_putObj hrow _ hK rfl, hB1.trans (belowK_b (w := w) (Nat.le_refl _) W D _ _ (by omega) hK rfl rfl)⟩
  case stop =>
    rintro D c pre W hD hpre ⟨rfl, hpl, ⟨v, hv, hrow, _⟩, hB1⟩ hK
    have htk : pre.take M = s.sagas.take M := by
      obtain ⟨tl, htl⟩ := hpre
      rw [← htl, List.take_append_of_le_length (by omega)]
    have hc := hv.cell
    have hlM : (pre.take M).length = M := by rw [List.length_take]; omega
    rw [hlM] at hrow
    have Htk := Lib.hid htk
    have HlM := Lib.hid hlM
    clear htk hlM
    obtain ⟨va, vc, rfl⟩ : ∃ va vc, v = .slice va M vc := by
      rcases hrow.2 with ⟨h1, h2⟩ | ⟨g, cap, cur, h1, _⟩
      · exact ⟨none, 0, by rw [h1, h2]⟩
      · exact ⟨_, _, h1⟩
    gi_wp2
    refine ⟨by simp, .inl ⟨_, _, rfl, run_takeDeferred hK, ?_⟩⟩
    exact ⟨_, results_tmp rfl _ _ _, _, rfl, by rw [← Htk.out, HlM.out]; exact ownsRow_putObj hrow _ hK rfl, hB1.trans (belowK_b (w := w) (Nat.le_refl _) W D _ _ (by omega) hK rfl rfl)⟩
end Go.Proofs.YtkafmfdipmhleaaGreatDoor

namespace Go.Proofs.YtkafmfdipmhleaaGreatDoor
open Go.RowKit Go.Maps Go.Shelf
attribute [local go_sem] Oper.semAt_some
set_option maxRecDepth 100000 in
set_option maxHeartbeats 4000000 in
theorem All_neg {cv : Value} {w : World} {most : Int} {q : Pl} {bl : List Nat} {s : StM} (hs : EvV cv w q bl s) (ho : s.sagas.Pairwise (fun a b => a.id < b.id)) (hok : ∀ g ∈ s.sagas, 1 ≤ g.id ∧ g.id ≤ 1000) (hl : s.sagas.length ≤ 1000) (hM : most < 1) :
    Calls Tryz.prog 32 #[.pointer (some ⟨q.xb, 0, none⟩), .int .i64 most] w fun e w' => ∃ v, e = .returned v ∧ w'.ownsRow w.heap.size 38 6 v (s.sagas.take 0).length (stCells (s.sagas.take 0)) ∧ Below w.heap.size w w' := by
  refine (callsIn_wide (n := 10)).1 ?_
  obtain ⟨i0, hi, hz0, hz1, hz2⟩ := info_parts Tryz.info38z
  refine callsIn_of_wp_marks Tryz.func32 rfl trivial ?_ rfl
  simp only [Tryz.ntmps32, List.size_toArray, List.length_cons, List.length_nil, Nat.reduceAdd, Nat.reduceSub, Array.replicate_succ, Array.replicate_zero, List.push_toArray, List.append_toArray, List.nil_append, List.cons_append]
  have Hs := Lib.hid hs
  have Ho := Lib.hid ho
  have Hok := Lib.hid hok
  have Hl := Lib.hid hl
  clear hs ho hok hl
  gi_wp2_with (first
    | (refine ⟨trivial, ?_⟩; refine (all59 9 q.xb _).mono ?_; rintro e w' ⟨rfl, rfl⟩)
    | fail)
  have bM := ((Boxed.new w 3 (.int .i64 0)).alloc (.cells #[.slice none 0 0] 65)).alloc (.cells #[.pointer (some ⟨q.xb, 0, none⟩)] 28)
  have bO := (Boxed.new (w.alloc (.cells #[.int .i64 0] 3)) 65 (.slice none 0 0)).alloc (.cells #[.pointer (some ⟨q.xb, 0, none⟩)] 28)
  have bA := Boxed.new ((w.alloc (.cells #[.int .i64 0] 3)).alloc (.cells #[.slice none 0 0] 65)) 28 (.pointer (some ⟨q.xb, 0, none⟩))
  simp only [World.size_alloc] at bO bA
  have hB0 : Below w.heap.size w (((w.alloc (.cells #[.int .i64 0] 3)).alloc (.cells #[.slice none 0 0] 65)).alloc (.cells #[.pointer (some ⟨q.xb, 0, none⟩)] 28)) := (((Below.refl _ w).alloc (Nat.le_refl _) _).alloc (by simp) _).alloc (by simp; omega) _
  have hsz : (((w.alloc (.cells #[.int .i64 0] 3)).alloc (.cells #[.slice none 0 0] 65)).alloc (.cells #[.pointer (some ⟨q.xb, 0, none⟩)] 28)).heap.size = w.heap.size + 3 := by simp
  obtain ⟨W0, hW0⟩ : ∃ W0, ((w.alloc (.cells #[.int .i64 0] 3)).alloc (.cells #[.slice none 0 0] 65)).alloc (.cells #[.pointer (some ⟨q.xb, 0, none⟩)] 28) = W0 := ⟨_, rfl⟩
  rw [hW0] at bM bO bA hB0 hsz
  simp only [World.size_alloc, hW0]
  refine wpIn_rangeFunc_ownH rfl (by omega) (gf := 84) (lb := #[.pointer (some ⟨w.heap.size + 1 + 1, 0, none⟩)]) rfl trivial (enters_of Tryz.func84 (by kernel_rfl) rfl)
    (all_stopsv 9 (by omega) Hs.out Ho.out Hok.out Hl.out (w.heap.size + 1 + 1) bA hB0) KpA.trans (KpA.put (by omega)) (Below.refl _ _) (fun _ => rfl)
    (fun pre W => ((∃ v, Boxed W (w.heap.size + 1) 65 v ∧ W.ownsRow w.heap.size 38 6 v pre.length (stCells pre) ∧ (v = .slice none 0 0 ↔ pre = [])) ∧ Boxed W w.heap.size 3 (.int .i64 0)) ∧ (Below w.heap.size w W ∧ pre.length ≤ 0))
    (fun c pre W => c = .exit 0 ∧ (pre.length = 0 + 1 ∧ ((∃ v, Boxed W (w.heap.size + 1) 65 v ∧ W.ownsRow w.heap.size 38 6 v (pre.take 0).length (stCells (pre.take 0)) ∧ True) ∧ Below w.heap.size w W)))
    (OwnFrom.and (OwnFrom.and (Own.from (holdsRow_own w.heap.size (w.heap.size + 1) 65 38 6 (fun pre => pre.length) (fun pre => stCells pre) (fun pre v => v = .slice none 0 0 ↔ pre = [])) _) (Own.from (boxed_own _ _ _) _)) (OwnFrom.and (ownFrom_below (Nat.le_refl _) (by omega)) (ownFrom_pure _ (fun (pre : List SagaM) => pre.length ≤ 0))))
    (fun c => OwnFrom.and (ownFrom_pure _ (fun (_ : List SagaM) => c = .exit 0)) (OwnFrom.and (ownFrom_pure _ (fun (pre : List SagaM) => pre.length = 0 + 1)) (OwnFrom.and (Own.from (holdsRow_own w.heap.size (w.heap.size + 1) 65 38 6 (fun (pre : List SagaM) => (pre.take 0).length) (fun (pre : List SagaM) => stCells (pre.take 0)) (fun (pre : List SagaM) (v : Value) => True)) _) (ownFrom_below (Nat.le_refl _) (by omega)))))
    ⟨⟨⟨_, bO, World.ownsRow_nil _ _ _ _, by simp⟩, bM⟩, hB0, by simp⟩
    (fun x a' W => ∃ Bx, w.heap.size + 1 < Bx ∧ W.heap[Bx]? = some (.cells x.status 38 (0, 0)) ∧ a' = { tmps := #[.pointer (some ⟨q.xb, 0, none⟩), .int .i64 most, undef, .pointer (some ⟨w.heap.size, 0, none⟩), .slice none 0 0, .pointer (some ⟨w.heap.size + 1, 0, none⟩), .pointer (some ⟨Bx, 0, none⟩), .int .i64 most, .bool true, .pointer (some ⟨q.xb, 0, none⟩), .func (.func 84) #[] #[.pointer (some ⟨w.heap.size + 1 + 1, 0, none⟩)], .agg x.status, undef, undef, undef, undef, undef, undef, undef, undef, undef], defers := [] })
    (fun x a' _ X Y row hs hg hr => by
      obtain ⟨Bx, h1, h2, h3⟩ := hs
      refine ⟨Bx, h1, (hg.block Bx (lt_of_hp h2) (fun e => ?_)).trans h2, h3⟩
      obtain ⟨_, o, ho, hc⟩ := hr Bx e.symm
      rw [h2] at ho; cases ho; cases hc)
    ?assign ?body ?done ?stop
  case assign =>
    rintro l pre x W K ⟨⟨⟨v, hv, hrow, hnil⟩, bM1⟩, hB1, hpl⟩ hK
    have hst : Hid (#[Value.int .i64 x.id, Value.int .i64 x.st, Value.int .i64 x.step, Value.int .i64 x.steps.length, Value.int .i64 x.tries, Value.int .i64 x.due] = x.status) := rfl
    simp only [SagaM.status]
    gi_wp2
    rw [hst.out]
    exact hK _ _ (FrK.keepsFrom (K := []) (((Fr.refl (fun _ => False) W).alloc _).toK (fun _ _ f _ => f.elim)) (by simp) _)
      ⟨(Below.refl _ W).alloc hB1.size _, ((Fr.refl (fun _ => False) W).alloc _).toK (fun _ _ f _ => f.elim)⟩
      ⟨⟨⟨v, hv.alloc _, hrow.alloc _, hnil⟩, bM1.alloc _⟩, hB1.alloc hB1.size _, hpl⟩ ⟨W.heap.size, hv.lt, World.alloc_heap_new W _, rfl⟩
  case body =>
    rintro l pre x a' W hl ⟨r, hr⟩ ⟨⟨⟨v, hv, hrow, hnil⟩, bM1⟩, hB1, hpl⟩ ⟨Bx, hBx, bX, rfl⟩ hlt
    have hc := hv.cell
    have hm := bM1.cell
    obtain ⟨va, vc, rfl⟩ : ∃ va vc, v = .slice va pre.length vc := by
      rcases hrow.2 with ⟨h1, h2⟩ | ⟨g, cap, cur, h1, _⟩
      · exact ⟨none, 0, by rw [h1, h2]⟩
      · exact ⟨_, _, h1⟩
    by_cases hne : (pre.length : Int) = 0
    · have hpM : pre.length = 0 := by omega
      have Hrow := Lib.hid hrow
      have Hv := Lib.hid hv
      have HM1 := Lib.hid bM1
      have HB1 := Lib.hid hB1
      have HpM := Lib.hid hpM
      have hst : Hid (#[Value.int .i64 x.id, Value.int .i64 x.st, Value.int .i64 x.step, Value.int .i64 x.steps.length, Value.int .i64 x.tries, Value.int .i64 x.due] = x.status) := rfl
      simp only [SagaM.status] at bX ⊢
      clear hrow hv bM1 hB1 hnil hlt hr hpM hpl
      gi_wp2
      have etk : (pre ++ [x]).take 0 = pre := by rw [← HpM.out]; simp
      refine ⟨FrK.keepsFrom (K := []) (FrK.refl _ _) (by simp) _, rfl, by rw [List.length_append, HpM.out]; rfl, ⟨_, Hv.out, ?_, trivial⟩, HB1.out⟩
      rw [etk]; exact Hrow.out
    · exfalso; omega
  case done =>
    rintro D ys W hD rfl ⟨⟨⟨v, hv, hrow, hnil⟩, bM1⟩, hB1, hpl⟩ hK
    have etk := List.take_of_length_le hpl
    have hc := hv.cell
    obtain ⟨va, vc, rfl⟩ : ∃ va vc, v = .slice va s.sagas.length vc := by
      rcases hrow.2 with ⟨h1, h2⟩ | ⟨g, cap, cur, h1, _⟩
      · exact ⟨none, 0, by rw [h1, h2]⟩
      · exact ⟨_, _, h1⟩
    gi_wp2
    refine ⟨by simp, .inl ⟨_, _, rfl, run_takeDeferred hK, ?_⟩⟩
    exact ⟨_, results_tmp rfl _ _ _, _, rfl, by rw [etk]; exact ownsRow_putObj hrow _ hK rfl, hB1.trans (belowK_b (w := w) (Nat.le_refl _) W D _ _ (by omega) hK rfl rfl)⟩
  case stop =>
    rintro D c pre W hD hpre ⟨rfl, hpl, ⟨v, hv, hrow, _⟩, hB1⟩ hK
    have htk : pre.take 0 = s.sagas.take 0 := by
      obtain ⟨tl, htl⟩ := hpre
      rw [← htl, List.take_append_of_le_length (by omega)]
    have hc := hv.cell
    have hlM : (pre.take 0).length = 0 := by rw [List.length_take]; omega
    rw [hlM] at hrow
    have Htk := Lib.hid htk
    have HlM := Lib.hid hlM
    clear htk hlM
    obtain ⟨va, vc, rfl⟩ : ∃ va vc, v = .slice va 0 vc := by
      rcases hrow.2 with ⟨h1, h2⟩ | ⟨g, cap, cur, h1, _⟩
      · exact ⟨none, 0, by rw [h1, h2]⟩
      · exact ⟨_, _, h1⟩
    gi_wp2
    refine ⟨by simp, .inl ⟨_, _, rfl, run_takeDeferred hK, ?_⟩⟩
    exact ⟨_, results_tmp rfl _ _ _, _, rfl, by rw [← Htk.out, HlM.out]; exact ownsRow_putObj hrow _ hK rfl, hB1.trans (belowK_b (w := w) (Nat.le_refl _) W D _ _ (by omega) hK rfl rfl)⟩
end Go.Proofs.YtkafmfdipmhleaaGreatDoor

namespace Go.Proofs.YtkafmfdipmhleaaGreatDoor
open Go.RowKit Go.Maps
theorem StV.ev {cv : Value} {w : World} {q : Pl} {bl : List Nat} {s : StM} (h : StV cv w q bl s) : EvV cv w q bl s := ⟨h.eng, h.mp, h.len, h.sg, h.nd⟩
def mostN (most : Int) : Nat := if most < 1 then 0 else most.toNat
theorem All_any {cv : Value} {w : World} {q : Pl} {bl : List Nat} {s : StM} (hs : EvV cv w q bl s) (ho : s.sagas.Pairwise (fun a b => a.id < b.id)) (hok : ∀ g ∈ s.sagas, 1 ≤ g.id ∧ g.id ≤ 1000) (hl : s.sagas.length ≤ 1000) (most : Int) :
    Calls Tryz.prog 32 #[.pointer (some ⟨q.xb, 0, none⟩), .int .i64 most] w fun e w' => ∃ v, e = .returned v ∧ w'.ownsRow w.heap.size 38 6 v (s.sagas.take (mostN most)).length (stCells (s.sagas.take (mostN most))) ∧ New w w' := by
  by_cases h : most < 1
  · have e : mostN most = 0 := by unfold mostN; rw [if_pos h]
    rw [e]
    refine Calls.mono (All_neg hs ho hok hl h) ?_
    rintro e w' ⟨v, h1, h2, h3⟩
    exact ⟨v, h1, h2, below_New h3 (Nat.le_refl _)⟩
  · have e : mostN most = most.toNat := by unfold mostN; rw [if_neg h]
    obtain ⟨M, hM⟩ : ∃ M : Nat, most = (M : Int) := ⟨most.toNat, by omega⟩
    subst hM
    rw [e, Int.toNat_natCast]
    refine Calls.mono (All_pos (M := M) hs ho hok hl (by omega)) ?_
    rintro e w' ⟨v, h1, h2, h3⟩
    exact ⟨v, h1, h2, below_New h3 (Nat.le_refl _)⟩
theorem stCells_get (L : List SagaM) (i : Nat) (g : SagaM) (hg : L[i]? = some g) (j : Nat) (u : Value) (hu : g.status.toList[j]? = some u) : (stCells L)[i * 6 + j]? = some u := by
  have hj : j < 6 := by
    have := (List.getElem?_eq_some_iff.1 hu).1
    have h6 : g.status.toList.length = 6 := rfl
    omega
  induction L generalizing i with
  | nil => simp at hg
  | cons a L ih =>
    have e : stCells (a :: L) = a.status.toList ++ stCells L := by simp [stCells]
    have h6 : a.status.toList.length = 6 := rfl
    rw [e]
    cases i with
    | zero =>
      simp at hg; subst hg
      rw [Nat.zero_mul, Nat.zero_add, List.getElem?_append_left (by omega)]
      exact hu
    | succ i =>
      rw [List.getElem?_append_right (by omega), h6, show (i + 1) * 6 + j - 6 = i * 6 + j by omega]
      exact ih i (by simpa using hg)
/-- A cell of what All gave. -/
theorem all_at {w : World} {B : Nat} {v : Value} {L : List SagaM} (h : w.ownsRow B 38 6 v L.length (stCells L)) (i : Nat) (g : SagaM) (hg : L[i]? = some g) :
    ∃ ga cap cs, v = .slice (some ⟨ga, 0, none⟩) L.length cap ∧ w.heap[ga]? = some (.cells cs 38 (0, 0)) ∧ ∀ (j : Nat) (u : Value), g.status.toList[j]? = some u → cs[i * 6 + j]? = some u := by
  have hi := (List.getElem?_eq_some_iff.1 hg).1
  rcases h.2 with ⟨_, h0⟩ | ⟨ga, cap, cur, hv, hg', hh, hn, hq1, hq2, htk⟩
  · omega
  · refine ⟨ga, cap, cur, hv, hh, fun j u hu => ?_⟩
    have h1 := stCells_get L i g hg j u hu
    have hlt := (List.getElem?_eq_some_iff.1 h1).1
    rw [stCells_len] at hlt
    rw [← htk, List.getElem?_take_of_lt (by omega)] at h1
    simpa using h1
noncomputable def lstR8 : Code := ((Tryz.f115.body).bind (regionAt 8)).getD .skip
set_option maxRecDepth 100000 in
set_option maxHeartbeats 8000000 in
/-- ok := d.status(all[at], s) -/
theorem lst_r8 (kb sb ga k n c : Nat) (c0 c1 c2 c3 c4 c5 c6 c7 lv : Value) (g : SagaM) (sv mv : Value) (cs : Array Value) (W : World)
    (hk : W.heap[kb]? = some (.cells #[c0, c1, c2, c3, c4, c5, c6, c7, .bool false, lv] 165 (0, 0))) (hsb : W.heap[sb]? = some (.cells #[.int .i64 g.id, sv, .int .i64 g.st, .int .i64 g.step, .int .i64 g.tries, .int .i64 g.due, mv] 223 (0, 0))) (hkn : k < n)
    (hga : W.heap[ga]? = some (.cells cs 38 (0, 0))) (hcs : ∀ (j : Nat) (u : Value), g.status.toList[j]? = some u → cs[k * 6 + j]? = some u) (hs : ∃ a c, sv = .slice a g.steps.length c)
    {ds : List Deferred} {x1 x2 x3 x4 x7 x9 x10 x11 x12 x13 x14 x15 x16 x17 x18 x19 x20 x21 x22 x23 x24 x25 x26 x27 x28 x29 x30 x31 x32 x33 x34 x35 x36 x37 x38 x39 x40 x41 x42 x43 x44 x45 x46 x47 x48 x49 x50 x51 x52 x53 x54 x55 x56 x57 x58 x59 x60 x61 x62 x63 x64 x65 x66 x67 x68 x69 x70 x71 x72 x73 x74 x75 x76 x77 x78 x79 x80 x81 x82 x83 x84 x85 x86 x87 x88 x89 x90 x91 : Value} {Q : Exit → Act → World → Prop}
    (hQ : ∀ (y49 y50 y51 y52 y53 y54 y55 : Value) (w3 : World), New W w3 → Q .normal ⟨#[.pointer (some ⟨kb, 0, none⟩), x1,x2,x3,x4, .slice (some ⟨ga, 0, none⟩) n c, .int .i64 k, x7, .pointer (some ⟨sb, 0, none⟩), .bool true, x10,x11,x12,x13,x14,x15,x16,x17,x18,x19,x20,x21,x22,x23,x24,x25,x26,x27,x28,x29,x30,x31,x32,x33,x34,x35,x36,x37,x38,x39,x40,x41,x42,x43,x44,x45,x46,x47,x48,y49,y50,y51,y52,y53,y54,y55,x56,x57,x58,x59,x60,x61,x62,x63,x64,x65,x66,x67,x68,x69,x70,x71,x72,x73,x74,x75,x76,x77,x78,x79,x80,x81,x82,x83,x84,x85,x86,x87,x88,x89,x90,x91], ds⟩ w3) :
    Code.wp Tryz.prog lstR8 Q ⟨#[.pointer (some ⟨kb, 0, none⟩), x1,x2,x3,x4, .slice (some ⟨ga, 0, none⟩) n c, .int .i64 k, x7, .pointer (some ⟨sb, 0, none⟩), x9,x10,x11,x12,x13,x14,x15,x16,x17,x18,x19,x20,x21,x22,x23,x24,x25,x26,x27,x28,x29,x30,x31,x32,x33,x34,x35,x36,x37,x38,x39,x40,x41,x42,x43,x44,x45,x46,x47,x48,x49,x50,x51,x52,x53,x54,x55,x56,x57,x58,x59,x60,x61,x62,x63,x64,x65,x66,x67,x68,x69,x70,x71,x72,x73,x74,x75,x76,x77,x78,x79,x80,x81,x82,x83,x84,x85,x86,x87,x88,x89,x90,x91], ds⟩ W := by
  have HS : Hid (∀ w', New W w' → (w'.cell? ⟨ga, k * 6, none⟩ = some (.int .i64 g.id) ∧ w'.cell? ⟨ga, k * 6 + 1, none⟩ = some (.int .i64 g.st) ∧ w'.cell? ⟨ga, k * 6 + 2, none⟩ = some (.int .i64 g.step) ∧ w'.cell? ⟨ga, k * 6 + 3, none⟩ = some (.int .i64 g.steps.length) ∧ w'.cell? ⟨ga, k * 6 + 4, none⟩ = some (.int .i64 g.tries) ∧ w'.cell? ⟨ga, k * 6 + 5, none⟩ = some (.int .i64 g.due)) ∧
      (w'.cell? ⟨sb, 0, none⟩ = some (.int .i64 g.id) ∧ w'.cell? ⟨sb, 1, none⟩ = some sv ∧ w'.cell? ⟨sb, 2, none⟩ = some (.int .i64 g.st) ∧ w'.cell? ⟨sb, 3, none⟩ = some (.int .i64 g.step) ∧ w'.cell? ⟨sb, 4, none⟩ = some (.int .i64 g.tries) ∧ w'.cell? ⟨sb, 5, none⟩ = some (.int .i64 g.due) ∧ w'.cell? ⟨sb, 6, none⟩ = some mv)) := by
    intro w' hf
    have hx : ∀ (j : Nat) (u : Value), g.status.toList[j]? = some u → w'.cell? ⟨ga, k * 6 + j, none⟩ = some u := by
      intro j u hu
      rw [cellv, hf.get hga (fun f => f), cellOf_cells]; exact hcs j u hu
    refine ⟨⟨hx 0 _ rfl, hx 1 _ rfl, hx 2 _ rfl, hx 3 _ rfl, hx 4 _ rfl, hx 5 _ rfl⟩, ?_⟩
    simp only [cellv, hf.get hsb (fun f => f)]
    exact ⟨rfl, rfl, rfl, rfl, rfl, rfl, rfl⟩
  have HR := Lib.hid (status_calls (w := W.drew) (kb := kb) hk g sv mv hs)
  rw [show g.status = #[.int .i64 g.id, .int .i64 g.st, .int .i64 g.step, .int .i64 g.steps.length, .int .i64 g.tries, .int .i64 g.due] from rfl] at HR
  unfold rCells at HR
  have HQ := Lib.hid hQ
  obtain ⟨⟨d0, d1, d2, d3, d4, d5⟩, e0, e1, e2, e3, e4, e5, e6⟩ := HS.out W (Fr.refl _ _)
  have hkI : (k : Int) < n := by omega
  have hk0 : (0 : Int) ≤ k := by omega
  clear hk hsb hkn hga hcs hs hQ
  conv => arg 2; whnf
  go_region_held3 (fun w' => (w'.cell? ⟨ga, k * 6, none⟩ = some (.int .i64 g.id) ∧ w'.cell? ⟨ga, k * 6 + 1, none⟩ = some (.int .i64 g.st) ∧ w'.cell? ⟨ga, k * 6 + 2, none⟩ = some (.int .i64 g.step) ∧ w'.cell? ⟨ga, k * 6 + 3, none⟩ = some (.int .i64 g.steps.length) ∧ w'.cell? ⟨ga, k * 6 + 4, none⟩ = some (.int .i64 g.tries) ∧ w'.cell? ⟨ga, k * 6 + 5, none⟩ = some (.int .i64 g.due)) ∧
      (w'.cell? ⟨sb, 0, none⟩ = some (.int .i64 g.id) ∧ w'.cell? ⟨sb, 1, none⟩ = some sv ∧ w'.cell? ⟨sb, 2, none⟩ = some (.int .i64 g.st) ∧ w'.cell? ⟨sb, 3, none⟩ = some (.int .i64 g.step) ∧ w'.cell? ⟨sb, 4, none⟩ = some (.int .i64 g.tries) ∧ w'.cell? ⟨sb, 5, none⟩ = some (.int .i64 g.due) ∧ w'.cell? ⟨sb, 6, none⟩ = some mv))
    (first | exact HS.out _ ((Fr.refl _ _).drew) | exact HS.out _ ((Fr.refl _ _).drew.trans hf2))
    ((first
      | (go_at_call 149; refine Calls.mono HR.out ?_; rintro e w2 ⟨rfl, hf2⟩)
      | fail))
  exact HQ.out _ _ _ _ _ _ _ _ ((Fr.refl _ W).drew.trans hf2)
set_option maxRecDepth 100000 in
set_option maxHeartbeats 8000000 in
/-- All. -/
theorem listed_calls {w : World} {B m : Nat} {o : RD} {e : EngR} (h : RunAt w B o) (hk : RDok m o) (hx : o.x = some e) (most : Int) :
    Calls Tryz.prog 115 #[.pointer (some ⟨o.kb, 0, none⟩), .int .i64 most] w fun e w' => e = .returned (.bool true) ∧ New w w' := by
  have hst := h.st
  have H := Lib.hid h
  have HK := Lib.hid hk
  have hxv : xvOf o = .pointer (some ⟨e.xb, 0, none⟩) := by unfold xvOf; rw [hx]
  have hdec : decide (o.ep = 0) = false := by simp [hk.epx hx]
  obtain ⟨la, lc, hlv⟩ := h.ref.shape
  simp only [rdCells] at hst
  rw [hxv, hdec, hlv] at hst
  have Hst := Lib.hid hst
  have Hlv := Lib.hid hlv
  have hsl : (sagasOf o.R).length = o.R.length := by simp [sagasOf]
  have HA := Lib.hid (All_any (h.eng e hx).1.ev hk.ord (fun g hg => by have := hk.ok g hg; exact ⟨this.1, this.2.1⟩) (by show (sagasOf o.R).length ≤ 1000; rw [hsl]; exact hk.lenR) most)
  rw [show (o.pl_ e).xb = e.xb from rfl, show (o.st e).sagas = sagasOf o.R from rfl] at HA
  have hn0 : ((sagasOf o.R).take (mostN most)).length = min (mostN most) o.R.length := by rw [List.length_take, hsl]
  have hlen := hk.lenR
  have hmo : (mostN most : Int) ≥ most := by unfold mostN; split <;> omega
  have hget : ∀ k r, k < ((sagasOf o.R).take (mostN most)).length → o.R[k]? = some r → ((sagasOf o.R).take (mostN most))[k]? = some r.1 := by
    intro k r hkn hr
    rw [List.getElem?_take_of_lt (by omega)]
    unfold sagasOf; rw [List.getElem?_map, hr]; rfl
  have Hget := Lib.hid hget
  generalize (sagasOf o.R).take (mostN most) = L at HA hn0 Hget
  have HN0 := Lib.hid hn0
  have Hmo := Lib.hid hmo
  have Hlen := Lib.hid hlen
  generalize hnL : L.length = n at HA HN0 Hget
  have HnL := Lib.hid hnL
  clear h hk hx hxv hdec hlv hsl hn0 hlen hmo hget hnL
  have hcv := cellv w
  go_enter Tryz.func115, Tryz.ntmps115
  go_upto_region 2 with (first
    | (go_at_call 32; refine Calls.mono HA.out ?_; rintro e2 w1 ⟨v, rfl, hown, hf1⟩; obtain ⟨va, vc, rfl⟩ : ∃ va vc, v = .slice va n vc := (by
        rcases hown.2 with ⟨h1, h2⟩ | ⟨g, cap, cur, h1, _⟩
        · exact ⟨none, 0, by rw [h1, h2]⟩
        · exact ⟨_, _, h1⟩))
    | fail)
  have Hf1 := Lib.hid hf1
  have Hown := Lib.hid hown
  clear hf1 hown hcv hst HA
  go_wp2_with fail
  go_loopw [6, 7] (fun a i wr => ∃ k : Nat, k ≤ o.R.length ∧ i = .int .i64 k ∧ a = .int .i64 (min k n : Nat) ∧ New w1 wr) (fun _ i _ => o.R.length - (intOf i).toNat)
  case atStart => exact ⟨0, Nat.zero_le _, rfl, by simp, Fr.refl _ _⟩
  case round =>
    obtain ⟨k, hk, rfl, rfl, hf⟩ := hrel
    have Hf := Lib.hid hf
    have hstr := (Hf1.out.trans hf).get Hst.out (fun f => f)
    have Hk := Lib.hid hk
    have hl30 : o.R.length ≤ 1000 := Hlen.out
    clear hf
    by_cases hkl : k < o.R.length
    · obtain ⟨r, hr⟩ : ∃ r, o.R[k]? = some r := ⟨o.R[k], List.getElem?_eq_getElem hkl⟩
      have Hkl := Lib.hid hkl
      have hrefr : RefAt wr B (.slice la o.R.length lc) o.R := by rw [← Hlv.out]; exact (H.out.ref.new Hf1.out).new Hf.out
      obtain ⟨g, sv, mv⟩ := r
      obtain ⟨hsv, hmv⟩ := hrefr.ok _ (List.mem_of_getElem? hr)
      obtain ⟨sa, sc, hsv⟩ := hsv.shape
      obtain ⟨mb, mc, _, hmv, _⟩ := hmv
      change sv = .slice sa g.steps.length sc at hsv
      change mv = _ at hmv
      subst hsv hmv
      have Hr := Lib.hid hr
      obtain ⟨gb, rfl, c0, c1, c2, c3, c4, c5, c6⟩ := hrefr.at k _ hr
      change wr.cell? _ = some (.int .i64 g.id) at c0; change wr.cell? _ = some (.slice sa g.steps.length sc) at c1; change wr.cell? _ = some (.int .i64 g.st) at c2; change wr.cell? _ = some (.int .i64 g.step) at c3; change wr.cell? _ = some (.int .i64 g.tries) at c4; change wr.cell? _ = some (.int .i64 g.due) at c5; change wr.cell? _ = some (.slice (some ⟨mb, 0, none⟩) 1 mc) at c6
      have hkI : (k : Int) < o.R.length := by omega
      have hk0 : (0 : Int) ≤ k := by omega
      have hcv := cellv wr
      rw [hcv] at c0 c1 c2 c3 c4 c5 c6
      clear hr hrefr hk hkl
      by_cases hkn : k < n
      · rw [show min k n = k by omega]
        have hknI : (k : Int) < n := by omega
        have Hkn := Lib.hid hkn
        clear hkn
        go_upto_region 7 with fail
        have hN3 : New wr (wr.alloc (.cells #[.int .i64 g.id, .slice sa g.steps.length sc, .int .i64 g.st, .int .i64 g.step, .int .i64 g.tries, .int .i64 g.due, .slice (some ⟨mb, 0, none⟩) 1 mc] 223)) := (Fr.refl _ wr).alloc _
        have hs3 := heap_alloc_new wr (.cells #[.int .i64 g.id, .slice sa g.steps.length sc, .int .i64 g.st, .int .i64 g.step, .int .i64 g.tries, .int .i64 g.due, .slice (some ⟨mb, 0, none⟩) 1 mc] 223)
        generalize wr.alloc (.cells #[.int .i64 g.id, .slice sa g.steps.length sc, .int .i64 g.st, .int .i64 g.step, .int .i64 g.tries, .int .i64 g.due, .slice (some ⟨mb, 0, none⟩) 1 mc] 223) = w3 at hN3 hs3 ⊢
        generalize wr.heap.size = sb at hs3 ⊢
        have Hf3 := Lib.hid (Hf.out.trans hN3)
        have Hs3 := Lib.hid hs3
        obtain ⟨ga, cap, cs, hvv, hga, hcs⟩ := all_at (own_frS (w := w1) (w' := w3) (S := fun _ => False) (n := L.length) (by rw [HnL.out]; exact Hown.out) Hf3.out (fun _ _ f => f)) k g (Hget.out k _ Hkn.out Hr.out)
        simp only [Value.slice.injEq] at hvv
        obtain ⟨hv1, hv2, hv3⟩ := hvv
        subst hv1
        clear hv2 hv3
        have hdk : decide (k < n) = true := by simp [Hkn.out]
        have Hga := Lib.hid hga
        have Hcs := Lib.hid hcs
        have d0 : w3.cell? ⟨ga, k * 6, none⟩ = some (.int .i64 g.id) := by rw [cellv, hga, cellOf_cells]; exact hcs 0 _ rfl
        have e0 : w3.cell? ⟨sb, 0, none⟩ = some (.int .i64 g.id) := by rw [cellv, hs3]; rfl
        have hst3 := (Hf1.out.trans Hf3.out).get Hst.out (fun f => f)
        have Hst3 := Lib.hid hst3
        have hdd : decide (g.id = g.id) = true := by simp
        clear hcv c0 c1 c2 c3 c4 c5 c6 hstr hN3 hs3 hga hcs hst3
        go_quiet (fail)
        have Hf4 := Lib.hid (Hf3.out.trans ((Fr.refl _ w3).drewN nq))
        clear d0 e0
        have Hst4 := Lib.hid (show (w3.drewN nq).heap[o.kb]? = _ from Hst3.out)
        have Hs4 := Lib.hid (show (w3.drewN nq).heap[sb]? = _ from Hs3.out)
        have Hga4 := Lib.hid (show (w3.drewN nq).heap[ga]? = _ from Hga.out)
        generalize w3.drewN nq = w4 at Hf4 Hst4 Hs4 Hga4 ⊢
        clear Hst3 Hs3 Hga
        go_upto_region 8 with fail
        refine lst_r8 o.kb sb ga k n _ _ _ _ _ _ _ _ _ _ g (.slice sa g.steps.length sc) (.slice (some ⟨mb, 0, none⟩) 1 mc) cs w4 Hst4.out Hs4.out Hkn.out Hga4.out Hcs.out ⟨sa, sc, rfl⟩ ?_
        intros
        rename_i w5 hf5
        have Hf5 := Lib.hid (Hf4.out.trans hf5)
        clear hf5
        go_wp2_with fail
        go_roundw
        case rel => exact ⟨k + 1, Hkl.out, by go_num, by rw [show min (k + 1) n = k + 1 by have := Hkn.out; omega]; go_num, Hf5.out⟩
        case measure => have := Hkl.out; simp [intOf]; omega
      · rw [show min k n = n by omega]
        have hnn : ¬ ((n : Int) < n) := by omega
        have hdk : decide (n < n) = false := by simp
        have hnm : ¬ ((n : Int) < most) := by
          have := HN0.out
          have := HnL.out
          have := Hmo.out
          have := Hkl.out
          omega
        have Hkn := Lib.hid hkn
        clear hkn
        go_upto_region 7 with fail
        have hN3 : New wr (wr.alloc (.cells #[.int .i64 g.id, .slice sa g.steps.length sc, .int .i64 g.st, .int .i64 g.step, .int .i64 g.tries, .int .i64 g.due, .slice (some ⟨mb, 0, none⟩) 1 mc] 223)) := (Fr.refl _ wr).alloc _
        have hs3 := heap_alloc_new wr (.cells #[.int .i64 g.id, .slice sa g.steps.length sc, .int .i64 g.st, .int .i64 g.step, .int .i64 g.tries, .int .i64 g.due, .slice (some ⟨mb, 0, none⟩) 1 mc] 223)
        generalize wr.alloc (.cells #[.int .i64 g.id, .slice sa g.steps.length sc, .int .i64 g.st, .int .i64 g.step, .int .i64 g.tries, .int .i64 g.due, .slice (some ⟨mb, 0, none⟩) 1 mc] 223) = w3 at hN3 hs3 ⊢
        generalize wr.heap.size = sb at hs3 ⊢
        have Hf3 := Lib.hid (Hf.out.trans hN3)
        have hst3 := (Hf1.out.trans Hf3.out).get Hst.out (fun f => f)
        clear hcv c0 c1 c2 c3 c4 c5 c6 hstr hN3
        have hcv := cellv w3
        go_quiet (fail)
        have Hf4 := Lib.hid (Hf3.out.trans ((Fr.refl _ w3).drewN nq))
        have hst4 := show (w3.drewN nq).heap[o.kb]? = _ from hst3
        have hs4 := show (w3.drewN nq).heap[sb]? = _ from hs3
        generalize w3.drewN nq = w4 at Hf4 hst4 hs4 ⊢
        clear hst3 hs3 hcv
        have hcv := cellv w4
        cases hz : g.st == 0
        · go_wp2_with fail
          go_roundw
          case rel => exact ⟨k + 1, Hkl.out, by go_num, by rw [show min (k + 1) n = n by have := Hkn.out; omega], Hf4.out⟩
          case measure => have := Hkl.out; simp [intOf]; omega
        · go_wp2_with fail
          go_roundw
          case rel => exact ⟨k + 1, Hkl.out, by go_num, by rw [show min (k + 1) n = n by have := Hkn.out; omega], Hf4.out⟩
          case measure => have := Hkl.out; simp [intOf]; omega
    · obtain rfl : k = o.R.length := by omega
      have hkI : ¬ ((o.R.length : Int) < o.R.length) := by omega
      rw [show min o.R.length n = n by have := HN0.out; have := HnL.out; omega]
      have hnn : ((n : Int) == n) = true := by simp
      have hcv := cellv wr
      go_wp2_with fail
      go_ret
      exact ⟨rfl, Hf1.out.trans Hf.out⟩
end Go.Proofs.YtkafmfdipmhleaaGreatDoor
