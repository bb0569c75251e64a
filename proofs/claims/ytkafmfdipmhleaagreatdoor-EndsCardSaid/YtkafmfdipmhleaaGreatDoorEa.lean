/-
  What is proved: the engine asks its partner.
-/
import Derived.Test.YtkafmfdipmhleaaGreatDoorPa
import Derived.Test.YtkafmfdipmhleaaGreatDoorEn
namespace Go.Proofs.YtkafmfdipmhleaaGreatDoor
open Go.RowKit

/-- Of the blocks that were there only those of the kinds K, or of S, may have turned. -/
structure FrKS (K : List Nat) (S : Nat → Prop) (w w' : World) : Prop where
  os : w'.os = w.os
  tape : w'.tape = w.tape
  output : w'.output = w.output
  size : w.heap.size ≤ w'.heap.size
  block : ∀ (k : Nat) (o : Obj), w.heap[k]? = some o → kindOf o ∉ K → ¬ S k → w'.heap[k]? = some o
theorem FrK.set {K : List Nat} {w w' : World} (h : FrK K w w') (b o : Nat) (v : Value) : FrKS K (· = b) w (w'.setCell ⟨b, o, none⟩ v) :=
  ⟨h.os, h.tape, h.output, Nat.le_trans h.size (by simp), fun k x hk hK hS => by rw [hp_setCell, if_neg hS]; exact h.block k x hk hK⟩
noncomputable def askR2 : Code := ((Tryz.f51.body).bind (regionAt 2)).getD .skip
/-- The engine's own cells. -/
def egCells (jb mb : Nat) (pause : Int) (cv : Value) (clock : Int) (failed : Bool) : Array Value := #[.pointer (some ⟨jb, 0, none⟩), .map (some mb), .int .i64 pause, cv, .int .i64 clock, .bool failed]
def askFn (pb : Nat) : Value := .func (.func 58) #[.pointer (some ⟨pb, 0, none⟩)] #[]

set_option maxRecDepth 100000 in
set_option maxHeartbeats 4000000 in
theorem ask_r2 (xb cb rb pb jb mb : Nat) (pause clock : Int) (failed : Bool) (c : CallM) (p : PartM) (W : World)
    (hx : W.heap[xb]? = some (.cells (egCells jb mb pause (askFn pb) clock failed) 79 (0, 0))) (hc : W.heap[cb]? = some (.cells c.cells.toArray 46 (0, 0))) (hr : W.heap[rb]? = some (.cells #[.int .i64 0] 3 (0, 0)))
    (hp : PAt W pb p) (hs : p.small) (hrb : pb < rb)
    {ds : List Deferred} {x1 x2 x5 x6 x7 x8 x9 x10 x11 : Value} {Q : Exit → Act → World → Prop}
    (hQ : ∀ (y6 y7 y8 y9 y10 y11 : Value) (w' : World), FrKS [45, 47, 49] (· = rb) W w' → Low p.lo W w' → PAt w' pb (p.ask c) → w'.heap[rb]? = some (.cells #[.int .i64 (replyM (p.knows c) c.back p.k)] 3 (0, 0)) → Q .normal ⟨#[.pointer (some ⟨xb, 0, none⟩), x1, x2, .pointer (some ⟨cb, 0, none⟩), .pointer (some ⟨rb, 0, none⟩), x5, y6, y7, y8, y9, y10, y11], ds⟩ w') :
    Code.wp Tryz.prog askR2 Q ⟨#[.pointer (some ⟨xb, 0, none⟩), x1, x2, .pointer (some ⟨cb, 0, none⟩), .pointer (some ⟨rb, 0, none⟩), x5, x6, x7, x8, x9, x10, x11], ds⟩ W := by
  have a3 : W.cell? ⟨xb, 3, none⟩ = some (askFn pb) := by rw [cellv, hx]; rfl
  have c0 : W.cell? ⟨cb, 0, none⟩ = some (.int .i64 c.saga) := by rw [cellv, hc]; rfl
  have c1 : W.cell? ⟨cb, 1, none⟩ = some (.int .i64 c.step) := by rw [cellv, hc]; rfl
  have c2 : W.cell? ⟨cb, 2, none⟩ = some (.bool c.back) := by rw [cellv, hc]; rfl
  have c3 : W.cell? ⟨cb, 3, none⟩ = some (.string c.data) := by rw [cellv, hc]; rfl
  have HA := Lib.hid (Ask_calls (w := W.drew) ⟨hp.ex⟩ c hs)
  have Hr := Lib.hid hr
  have HQ := Lib.hid hQ
  unfold askFn at a3
  unfold CallM.val at HA
  have Hrk : Hid (∀ w' : World, FrK [45, 47, 49] W.drew w' → w'.heap[rb]? = some (.cells #[.int .i64 0] 3 (0, 0))) := fun w' hf => hf.block rb _ hr (by simp [kindOf])
  have Hrb := Lib.hid hrb
  have Hlob : Hid (p.lo ≤ pb) := by
    obtain ⟨⟨_, _, _, _, _, _, _, _, hb, _⟩⟩ := hp
    show _ ≤ _; omega
  clear hx hc hr hp hs hQ hrb
  conv => arg 2; whnf
  refine wp_region_noPanic ?_
  go_region_law (first
    | (go_simp; go_at_call 58; refine Calls.mono HA.out ?_; rintro e w2 ⟨rfl, hp2, hf2, ho2⟩; have hr2 := Hrk.out w2 hf2; have hcv2 := cellv w2; have hfv2 := frozv w2)
    | fail)
  all_goals
    refine NoPanic.normal (HQ.out _ _ _ _ _ _ _ ?_ ?_ ?_ ?_)
    · have h0 : FrK [45, 47, 49] W w2 := ⟨hf2.os, hf2.tape, hf2.output, hf2.size, hf2.block⟩
      exact h0.set rb 0 _
    · have hlb := Hlob.out
      have hrb := Hrb.out
      exact Low.trans (⟨ho2.os, ho2.tape, ho2.output, ho2.size, ho2.block⟩ : Low p.lo W w2) ⟨rfl, rfl, rfl, by simp, fun k hk => by rw [hp_setCell, if_neg (by omega)]⟩
    · refine hp2.keep (by simp) (fun k o ho hk => ?_)
      rw [hp_setCell, if_neg]
      · exact ho
      · rintro rfl
        rw [hr2] at ho
        cases ho
        simp [kindOf] at hk
        have := Hrb.out
        omega
    · rw [hp_setCell, if_pos rfl, hr2]; rfl

theorem idle72 (p : Value) (w : World) : CallsD Tryz.prog 72 #[p] .returning w fun e u' w' => e = .returned (.tuple #[]) ∧ u' = .returning ∧ w' = w := by
  refine callsD_of_wpS Tryz.func72 rfl fun c₀ cs hu => ?_
  apply wpS_seq
  apply wpS_region
  simp [wpOpsS, go_sem, recoverD, hu, Tryz.ntmps72, Exit.thenS]
  refine wpS_cond (t := false) (by simp [Act.eval, Array.replicate]) ?_
  simp only [Bool.false_eq_true, if_false]
  refine wpS_of_wp (wp_skip ?_)
  cases c₀
  simp_all [bodyPostS, results, Tryz.results72]

/-- What the engine hears. -/
def HearPost (w : World) (pb : Nat) (p : PartM) (c : CallM) (e : Ending) (w' : World) : Prop :=
  e = .returned (.int .i64 (replyM (p.knows c) c.back p.k)) ∧ PAt w' pb (p.ask c) ∧ FrK [45, 47, 49] w w' ∧ Low p.lo w w'
set_option maxRecDepth 100000 in
set_option maxHeartbeats 4000000 in
theorem ask_calls {w : World} {xb pb jb mb : Nat} {pause clock : Int} {failed : Bool} (c : CallM) (p : PartM)
    (hx : w.heap[xb]? = some (.cells (egCells jb mb pause (askFn pb) clock failed) 79 (0, 0))) (hp : PAt w pb p) (hs : p.small) :
    Calls Tryz.prog 51 #[.pointer (some ⟨xb, 0, none⟩), c.val] w (HearPost w pb p c) := by
  have hmf : ∀ (fn : Fn) (first cap : Array Value) (w : World), (Instr.makeFunc fn first cap).run Tryz.prog w = .ok (.func fn first cap) w := fun _ _ _ _ => rfl
  have hpb : pb < w.heap.size := by obtain ⟨⟨_, _, _, _, h, _⟩⟩ := hp; exact lt_of_hp h
  have hN : New w ((w.alloc (.cells c.cells.toArray 46)).alloc (.cells #[.int .i64 0] 3)) := ((Fr.refl _ _).alloc _).alloc _
  have hx1 := hN.get hx (fun f => f)
  have hc1 := heap_alloc_keep (.cells #[.int .i64 0] 3) (heap_alloc_new w (.cells c.cells.toArray 46))
  have hr1 := heap_alloc_new (w.alloc (.cells c.cells.toArray 46)) (.cells #[.int .i64 0] 3)
  have hp1 : PAt ((w.alloc (.cells c.cells.toArray 46)).alloc (.cells #[.int .i64 0] 3)) pb p := hp.keep hN.size (fun k o ho _ => hN.get ho (fun f => f))
  rw [sz_alloc] at hr1
  have Hx1 := Lib.hid hx1
  have Hc1 := Lib.hid hc1
  have Hr1 := Lib.hid hr1
  have Hp1 := Lib.hid hp1
  have Hs := Lib.hid hs
  have Hpb := Lib.hid hpb
  have HN := Lib.hid hN
  have Hlob : Hid (p.lo ≤ w.heap.size) := by
    obtain ⟨⟨_, _, _, _, _, _, _, _, hb, _⟩⟩ := hp
    show _ ≤ _; omega
  clear hx hp hs hpb hN hx1 hc1 hr1 hp1
  unfold CallM.val
  go_enter_defers Tryz.func51, Tryz.ntmps51
  go_upto_region 2 with fail
  refine ask_r2 xb w.heap.size (w.heap.size + 1) pb jb mb pause clock failed c p _ Hx1.out Hc1.out Hr1.out Hp1.out Hs.out (by have := Hpb.out; omega) ?_
  intro y6 y7 y8 y9 y10 y11 w5 hf5 ho5 hp5 hr5
  have hz : w.heap.size < w.heap.size + 1 := by omega
  have hfk : FrK [45, 47, 49] w w5 := by
    have h0 := HN.out
    refine ⟨hf5.os.trans h0.os, hf5.tape.trans h0.tape, hf5.output.trans h0.output, Nat.le_trans h0.size hf5.size, fun k o ho hk => ?_⟩
    exact hf5.block k o (h0.get ho (fun f => f)) hk (by have := lt_of_hp ho; omega)
  have hoo : Low p.lo w w5 := (HN.out.low Hlob.out (fun _ f => f.elim)).trans ho5
  have Hoo := Lib.hid hoo
  have Hfk := Lib.hid hfk
  have Hp5 := Lib.hid hp5
  clear hfk hp5 hf5 hz hoo ho5
  have hcv := cellv w5
  go_wp2_with fail
  refine leaves_cons (f := 72) (args := #[.pointer (some ⟨w.heap.size + 1, 0, none⟩)]) (by simp) (by simp [go_sem]) ?_
  refine (idle72 _ _).mono ?_
  rintro e u' w'' ⟨rfl, rfl, rfl⟩
  have hsome : w''.cell? ⟨w.heap.size + 1, 0, none⟩ = some (.int .i64 (replyM (p.knows c) c.back p.k)) := by rw [cellv, hr5]; rfl
  refine ⟨.int .i64 (replyM (p.knows c) c.back p.k), ?_, rfl, Hp5.out, Hfk.out, Hoo.out⟩
  simp [results, Tryz.results51, go_sem, hsome]
end Go.Proofs.YtkafmfdipmhleaaGreatDoor
