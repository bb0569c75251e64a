/-
  What is proved: the engine's state, in the heap and as a model; the drawn region of Tick.
-/
import Derived.Test.YtkafmfdipmhleaaGreatDoorMp
namespace Go.Proofs.YtkafmfdipmhleaaGreatDoor
open Go.RowKit Go.Maps

/-- An engine, its journal, disk and partner. -/
structure StM where
  pause : Int
  clock : Int
  sagas : List SagaM
  j : JnM
  d : DiskM
  p : PartM
def SagaM.ok (s : SagaM) : Prop := 1 ≤ s.id ∧ s.id ≤ 1000 ∧ smallSteps s.steps ∧ 0 ≤ s.tries ∧ ((s.st = 1 ∨ s.st = 2) ∧ 1 ≤ s.step ∧ s.step ≤ s.steps.length ∨ (s.st = 3 ∨ s.st = 4) ∧ s.step = 0)
def leftSum (l : List SagaM) : Int := (l.map SagaM.left).sum
structure StM.inv (s : StM) : Prop where
  quiet : s.d.quiet
  pend : s.d.pend = none
  epoch : s.j.epoch < 2 ^ 32
  ok : ∀ g ∈ s.sagas, g.ok
  ord : s.sagas.Pairwise (fun a b => a.id < b.id)
  room : (s.j.en : Int) + leftSum s.sagas ≤ s.d.blocks.length
  size : s.d.blocks.length ≤ 1000
  pause : 1 ≤ s.pause ∧ s.pause ≤ 64
/-- Where an engine lies. -/
structure Pl where
  xb : Nat
  jb : Nat
  mb : Nat
  db : Nat
  bb : Nat
  pb : Nat
def ilOf (sagas : List SagaM) (bl : List Nat) : List (Int × Nat) := (sagas.map (·.id)).zip bl
structure StAt (w : World) (q : Pl) (bl : List Nat) (s : StM) : Prop where
  eng : w.heap[q.xb]? = some (.cells (egCells q.jb q.mb s.pause (askFn q.pb) s.clock false) 79 (0, 0))
  jn : JnAt w q.jb q.db s.j
  dk : DiskAt w q.db q.bb s.d
  pt : PAt w q.pb s.p
  mp : w.ownsMap Tryz.prog 3 ptrR q.mb s.sagas.length (dataOf (ilOf s.sagas bl))
  len : bl.length = s.sagas.length
  sg : ∀ (i : Nat) (g : SagaM) (b : Nat), s.sagas[i]? = some g → bl[i]? = some b → SagaAt w b g
  nd : bl.Nodup
  lo : s.p.lo ≤ q.xb ∧ s.p.lo ≤ q.jb ∧ s.p.lo ≤ q.mb ∧ s.p.lo ≤ q.db ∧ s.p.lo ≤ q.bb ∧ ∀ b ∈ bl, s.p.lo ≤ b
theorem StAt.size {w : World} {q : Pl} {bl : List Nat} {s : StM} (h : StAt w q bl s) : s.p.lo ≤ w.heap.size := by
  have := lt_of_hp h.eng; have := h.lo.1; omega

noncomputable def tickR15 : Code := ((Tryz.f20.body).bind (regionAt 15)).getD .skip
set_option maxRecDepth 100000 in
set_option maxHeartbeats 4000000 in
/-- s.Pause(x.clock, x.pause). -/
theorem tick_r15 (xb sb jb mb : Nat) (pause clock : Int) (cv : Value) (g : SagaM) (W : World)
    (hx : W.heap[xb]? = some (.cells (egCells jb mb pause cv clock false) 79 (0, 0))) (hg : SagaAt W sb g) (ht : 0 ≤ g.tries)
    {ds : List Deferred} {x1 x2 x3 x4 x6 x7 x8 x9 x10 x11 x12 x13 x14 x15 x16 x17 x18 x19 x20 x21 x22 x23 x24 x25 x26 x27 x28 x29 x30 x31 x32 x33 x34 x35 x36 x37 x38 x39 x40 x41 x42 x43 x44 x45 x46 x47 x48 x49 x50 x51 x52 x53 x54 x55 x56 x57 x58 x59 x60 x61 x62 x63 x64 x65 x66 x67 x68 x69 x70 x71 x72 x73 x74 x75 x76 x77 x78 x79 x80 x81 x82 x83 x84 x85 x86 : Value} {Q : Exit → Act → World → Prop}
    (hQ : ∀ (y64 y65 y66 y67 y68 y69 y70 y71 y72 y73 : Value) (w' : World), Fr (· = sb) W w' → SagaAt w' sb (g.paused clock pause) → Q .normal ⟨#[.pointer (some ⟨xb, 0, none⟩), x1, x2, x3, x4, .pointer (some ⟨sb, 0, none⟩), x6, x7, x8, x9, x10, x11, x12, x13, x14, x15, x16, x17, x18, x19, x20, x21, x22, x23, x24, x25, x26, x27, x28, x29, x30, x31, x32, x33, x34, x35, x36, x37, x38, x39, x40, x41, x42, x43, x44, x45, x46, x47, x48, x49, x50, x51, x52, x53, x54, x55, x56, x57, x58, x59, x60, x61, x62, x63, y64, y65, y66, y67, y68, y69, y70, y71, y72, y73, x74, x75, x76, x77, x78, x79, x80, x81, x82, x83, x84, x85, x86], ds⟩ w') :
    Code.wp Tryz.prog tickR15 Q ⟨#[.pointer (some ⟨xb, 0, none⟩), x1, x2, x3, x4, .pointer (some ⟨sb, 0, none⟩), x6, x7, x8, x9, x10, x11, x12, x13, x14, x15, x16, x17, x18, x19, x20, x21, x22, x23, x24, x25, x26, x27, x28, x29, x30, x31, x32, x33, x34, x35, x36, x37, x38, x39, x40, x41, x42, x43, x44, x45, x46, x47, x48, x49, x50, x51, x52, x53, x54, x55, x56, x57, x58, x59, x60, x61, x62, x63, x64, x65, x66, x67, x68, x69, x70, x71, x72, x73, x74, x75, x76, x77, x78, x79, x80, x81, x82, x83, x84, x85, x86], ds⟩ W := by
  have hne : xb ≠ sb := by
    obtain ⟨_, h, _⟩ := hg
    exact ne_of_kind hx h (by simp [kindOf])
  have a4 : W.cell? ⟨xb, 4, none⟩ = some (.int .i64 clock) := by rw [cellv, hx]; rfl
  have a2 : W.cell? ⟨xb, 2, none⟩ = some (.int .i64 pause) := by rw [cellv, hx]; rfl
  have HP := Lib.hid (Pause_calls (w := W.drew) (hg.new ((Fr.refl _ W).drew)) clock pause ht)
  have HK : Hid (∀ w', Fr (· = sb) W.drew w' → w'.cell? ⟨xb, 4, none⟩ = some (.int .i64 clock) ∧ w'.cell? ⟨xb, 2, none⟩ = some (.int .i64 pause)) := by
    intro w' hf
    have h1 := hf.get (w := W.drew) hx hne
    exact ⟨by rw [cellv, h1]; rfl, by rw [cellv, h1]; rfl⟩
  have HQ := Lib.hid hQ
  clear hx hg ht hQ hne
  conv => arg 2; whnf
  go_region_held3 (fun w' => w'.cell? ⟨xb, 4, none⟩ = some (.int .i64 clock) ∧ w'.cell? ⟨xb, 2, none⟩ = some (.int .i64 pause))
    (first | exact HK.out _ (Fr.refl _ _) | exact HK.out _ hf2)
    ((first
      | (go_at_call 54; refine Calls.mono HP.out ?_; rintro e w2 ⟨rfl, hf2, hs2⟩)
      | fail))
  exact HQ.out _ _ _ _ _ _ _ _ _ _ _ ((Fr.refl _ W).drew.trans hf2) hs2
end Go.Proofs.YtkafmfdipmhleaaGreatDoor
