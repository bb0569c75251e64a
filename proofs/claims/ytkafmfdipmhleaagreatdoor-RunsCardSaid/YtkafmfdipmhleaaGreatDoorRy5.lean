/-
  What is proved: the contract of a journal's at, on a disk that tells no errors. append of a made slice of noughts to a slice of ints of the call's own. contracts of sagas.Open and plain.Open, of an empty journal, on a disk that tells no errors; of plain.Format and NewPartner. contracts of the statements' small helpers: pick, many, few, steps; NewPartner. the contract of Status. the contract of the iterator All, at every loop body that leaves the engine as it is. the contract of plain.All, on an engine of at most a hundred sagas. the disk behind a Format; the first engine of 'begun'. (No program in sight.) the contract of the statements' helper begun. contracts of the script's small calls: pick, near, blocks, num; a new disk and a new partner of any number. errors.As of a fault, at a target of the errors' numbers; plain.Told. (After the kit's worked text on errors.As.) errors.As of a fault that wraps a number. what a recovered fault is told as: failed, and the deferred closures where a device's error was thrown. the contract of the journal's Settle, on whatever disk. the contract of the journal's Append, on whatever disk. the contract of the engine's write, on whatever disk. the contract of Submit of a saga that is new, on whatever disk. the drawn region of the disk's After: a sector of a write that survived. the contract of the disk's After.
-/
import Derived.Test.YtkafmfdipmhleaaGreatDoorRy4
import Derived.StillTailTactics
import Derived.Deep.RegionHeld3
import Derived.RegionTactic
import Derived.BigRegion
import Derived.BigQuiet
import Derived.WalkMore
import Derived.Lib.AppendZeros
import Derived.Laws.AppendOwn
import Derived.Carry
import Derived.RangeFuncNested
import Derived.RangeFuncBound
import Derived.RangeFuncCalls
import Derived.RangeFuncLeaves
import Derived.RangeFuncBox
import Derived.Shelf.Abstract
import Derived.Shelf.RegionOpen
import Derived.OwnWalkIn
import Derived.TacticsInMore
import Derived.LoopNIn
import Derived.LoopIn
import Derived.Maps.AppendAt
import Derived.WalkKit
import Derived.LaidEql
import Derived.Stop.Asserts
import Derived.RowKitTokens

namespace Go.Proofs.YtkafmfdipmhleaaGreatDoor
open Go.RowKit Go.Maps
noncomputable def atR4 : Code := ((Tryz.f106.body).bind (regionAt 4)).getD .skip
def atOk (j : JnM) (i : Nat) (r : RecM) (ok : Bool) : Bool := ok && (r.epoch == j.epoch && r.index == i)
set_option maxRecDepth 100000 in
set_option maxHeartbeats 4000000 in
/-- return r, ok && r.Epoch == j.epoch && r.Index == i. -/
theorem at_r4 (jb db A B i : Nat) (j : JnM) (r : RecM) (ok : Bool) (sa : Option Addr) (sm sc : Nat) (W : World)
    (hj : W.heap[jb]? = some (.cells (jnCells db j) 132 (0, 0))) (hA : W.heap[A]? = some (.cells #[.int .u8 0, .int .u32 0, .int .i64 0, .int .i64 0, .int .i64 0, .slice none 0 0] 91 (0, 0)))
    (hB : W.heap[B]? = some (.cells #[.int .u8 r.kind, .int .u32 r.epoch, .int .i64 r.index, .int .i64 r.saga, .int .i64 r.reply, .slice sa sm sc] 91 (0, 0))) (hAB : A ≠ B)
    {ds : List Deferred} {x2 x3 x5 x8 x9 x10 x11 x12 x13 x14 x15 x16 x17 x18 x19 x20 x21 x22 x23 x24 x25 x26 : Value} {Q : Exit → Act → World → Prop}
    (hQ : ∀ (y27 y28 y29 y30 y31 y32 y33 y34 y35 y36 y37 y38 y39 y40 y41 y42 y43 : Value) (w' : World), Fr (· = A) W w' → w'.heap[A]? = some (.cells #[.int .u8 r.kind, .int .u32 r.epoch, .int .i64 r.index, .int .i64 r.saga, .int .i64 r.reply, .slice sa sm sc] 91 (0, 0)) → Q .normal ⟨#[.pointer (some ⟨jb, 0, none⟩), .int .i64 i, x2,x3, .pointer (some ⟨A, 0, none⟩), .bool (atOk j i r ok), .pointer (some ⟨B, 0, none⟩), .bool ok, x8,x9,x10,x11,x12,x13,x14,x15,x16,x17,x18,x19,x20,x21,x22,x23,x24,x25,x26,y27,y28,y29,y30,y31,y32,y33,y34,y35,y36,y37,y38,y39,y40,y41,y42,y43], ds⟩ w') :
    Code.wp Tryz.prog atR4 Q ⟨#[.pointer (some ⟨jb, 0, none⟩), .int .i64 i, x2,x3, .pointer (some ⟨A, 0, none⟩), x5, .pointer (some ⟨B, 0, none⟩), .bool ok, x8,x9,x10,x11,x12,x13,x14,x15,x16,x17,x18,x19,x20,x21,x22,x23,x24,x25,x26, undef, undef, undef, undef, undef, undef, undef, undef, undef, undef, undef, undef, undef, undef, undef, undef, undef], ds⟩ W := by
  have a1 : W.cell? ⟨jb, 1, none⟩ = some (.int .u32 j.epoch) := by rw [cellv, hj]; rfl
  have r0 : W.cell? ⟨B, 0, none⟩ = some (.int .u8 r.kind) := by rw [cellv, hB]; rfl
  have r1 : W.cell? ⟨B, 1, none⟩ = some (.int .u32 r.epoch) := by rw [cellv, hB]; rfl
  have r2 : W.cell? ⟨B, 2, none⟩ = some (.int .i64 r.index) := by rw [cellv, hB]; rfl
  have r3 : W.cell? ⟨B, 3, none⟩ = some (.int .i64 r.saga) := by rw [cellv, hB]; rfl
  have r4 : W.cell? ⟨B, 4, none⟩ = some (.int .i64 r.reply) := by rw [cellv, hB]; rfl
  have r5 : W.cell? ⟨B, 5, none⟩ = some (.slice sa sm sc) := by rw [cellv, hB]; rfl
  have hfv : ∀ o, W.frozen? ⟨A, o, none⟩ = false := by intro o; rw [frozv, hA]; simp
  have f0 := hfv 0
  have f1 := hfv 1
  have f2 := hfv 2
  have f3 := hfv 3
  have f4 := hfv 4
  have f5 := hfv 5
  have hAB' : B ≠ A := fun e => hAB e.symm
  have hAj : A ≠ jb := ne_of_kind hA hj (by simp [kindOf])
  have hAj' : jb ≠ A := fun e => hAj e.symm
  have hAc : ∀ o, W.cell? ⟨A, o, none⟩ = (#[.int .u8 0, .int .u32 0, .int .i64 0, .int .i64 0, .int .i64 0, .slice none 0 0] : Array Value)[o]? := by intro o; rw [cellv, hA]; rfl
  have c0 := hAc 0
  have c1 := hAc 1
  have c2 := hAc 2
  have c3 := hAc 3
  have c4 := hAc 4
  have c5 := hAc 5
  have HA := Lib.hid hA
  have HQ := Lib.hid hQ
  have Hok : Hid (atOk j i r ok = (ok && (r.epoch == j.epoch && r.index == i))) := rfl
  clear hj hA hB hQ hAc hfv
  conv => arg 2; whnf
  cases ok
  · have Hok := Hok
    refine wp_region_noPanic ?_
    refine wp_region_held_drew (S := (fun w' => w'.cell? ⟨jb, 1, none⟩ = some (.int .u32 j.epoch) ∧ w'.cell? ⟨B, 0, none⟩ = some (.int .u8 r.kind) ∧ w'.cell? ⟨B, 1, none⟩ = some (.int .u32 r.epoch) ∧ w'.cell? ⟨B, 2, none⟩ = some (.int .i64 r.index) ∧ w'.cell? ⟨B, 3, none⟩ = some (.int .i64 r.saga) ∧ w'.cell? ⟨B, 4, none⟩ = some (.int .i64 r.reply) ∧ w'.cell? ⟨B, 5, none⟩ = some (.slice sa sm sc) ∧ w'.frozen? ⟨A, 0, none⟩ = false ∧ w'.frozen? ⟨A, 1, none⟩ = false ∧ w'.frozen? ⟨A, 2, none⟩ = false ∧ w'.frozen? ⟨A, 3, none⟩ = false ∧ w'.frozen? ⟨A, 4, none⟩ = false ∧ w'.frozen? ⟨A, 5, none⟩ = false)) (by kernel_rfl) (by go_keep) (fun hHeld => ?_)
    refine wpAnyH_take (i := 0) (v := ?vb0) rfl (by kernel_rfl) (by kernel_rfl) (by kernel_rfl) (fun _ _ _ h => h) (Or.inl ⟨by rfl, ?yb0⟩) (by assumption) ?rb0
    case yb0 => intro w hSw; (try dsimp only at hSw); go_simp; (try with_reducible rfl)
    simp only [List.getElem_toArray, List.getElem_cons_zero, List.getElem_cons_succ, Act.put, List.setIfInBounds_toArray, List.set_cons_zero, List.set_cons_succ]
    refine wpAnyH_take (i := 1) (v := ?vb1) rfl (by kernel_rfl) (by kernel_rfl) (by kernel_rfl) (fun _ _ _ h => h) (Or.inl ⟨by rfl, ?yb1⟩) (by assumption) ?rb1
    case yb1 => intro w hSw; (try dsimp only at hSw); go_simp; (try with_reducible rfl)
    simp only [List.getElem_toArray, List.getElem_cons_zero, List.getElem_cons_succ, Act.put, List.setIfInBounds_toArray, List.set_cons_zero, List.set_cons_succ]
    refine wpAnyH_take (i := 2) (v := ?vb2) rfl (by kernel_rfl) (by kernel_rfl) (by kernel_rfl) (fun _ _ _ h => h) (Or.inl ⟨by rfl, ?yb2⟩) (by assumption) ?rb2
    case yb2 => intro w hSw; (try dsimp only at hSw); go_simp; (try with_reducible rfl)
    simp only [List.getElem_toArray, List.getElem_cons_zero, List.getElem_cons_succ, Act.put, List.setIfInBounds_toArray, List.set_cons_zero, List.set_cons_succ]
    refine wpAnyH_take (i := 3) (v := undef) rfl (by kernel_rfl) (by kernel_rfl) (by kernel_rfl) (fun _ _ _ h => h) (Or.inr ⟨by rfl, rfl⟩) (by assumption) ?_
    simp only [List.getElem_toArray, List.getElem_cons_zero, List.getElem_cons_succ, Act.put, List.setIfInBounds_toArray, List.set_cons_zero, List.set_cons_succ]
    refine wpAnyH_take (i := 4) (v := undef) rfl (by kernel_rfl) (by kernel_rfl) (by kernel_rfl) (fun _ _ _ h => h) (Or.inr ⟨by rfl, rfl⟩) (by assumption) ?_
    simp only [List.getElem_toArray, List.getElem_cons_zero, List.getElem_cons_succ, Act.put, List.setIfInBounds_toArray, List.set_cons_zero, List.set_cons_succ]
    refine wpAnyH_take (i := 5) (v := undef) rfl (by kernel_rfl) (by kernel_rfl) (by kernel_rfl) (fun _ _ _ h => h) (Or.inr ⟨by rfl, rfl⟩) (by assumption) ?_
    simp only [List.getElem_toArray, List.getElem_cons_zero, List.getElem_cons_succ, Act.put, List.setIfInBounds_toArray, List.set_cons_zero, List.set_cons_succ]
    refine wpAnyH_take (i := 6) (v := undef) rfl (by kernel_rfl) (by kernel_rfl) (by kernel_rfl) (fun _ _ _ h => h) (Or.inr ⟨by rfl, rfl⟩) (by assumption) ?_
    simp only [List.getElem_toArray, List.getElem_cons_zero, List.getElem_cons_succ, Act.put, List.setIfInBounds_toArray, List.set_cons_zero, List.set_cons_succ]
    refine wpAnyH_take (i := 7) (v := undef) rfl (by kernel_rfl) (by kernel_rfl) (by kernel_rfl) (fun _ _ _ h => h) (Or.inr ⟨by rfl, rfl⟩) (by assumption) ?_
    simp only [List.getElem_toArray, List.getElem_cons_zero, List.getElem_cons_succ, Act.put, List.setIfInBounds_toArray, List.set_cons_zero, List.set_cons_succ]
    refine wpAnyH_take (i := 8) (v := undef) rfl (by kernel_rfl) (by kernel_rfl) (by kernel_rfl) (fun _ _ _ h => h) (Or.inr ⟨by rfl, rfl⟩) (by assumption) ?_
    simp only [List.getElem_toArray, List.getElem_cons_zero, List.getElem_cons_succ, Act.put, List.setIfInBounds_toArray, List.set_cons_zero, List.set_cons_succ]
    refine wpAnyH_take (i := 9) (v := undef) rfl (by kernel_rfl) (by kernel_rfl) (by kernel_rfl) (fun _ _ _ h => h) (Or.inr ⟨by rfl, rfl⟩) (by assumption) ?_
    simp only [List.getElem_toArray, List.getElem_cons_zero, List.getElem_cons_succ, Act.put, List.setIfInBounds_toArray, List.set_cons_zero, List.set_cons_succ]
    refine wpAnyH_take (i := 10) (v := ?vb10) rfl (by kernel_rfl) (by kernel_rfl) (by kernel_rfl) (fun _ _ _ h => h) (Or.inl ⟨by rfl, ?yb10⟩) (by assumption) ?rb10
    case yb10 => intro w hSw; (try dsimp only at hSw); go_simp; (try with_reducible rfl)
    simp only [List.getElem_toArray, List.getElem_cons_zero, List.getElem_cons_succ, Act.put, List.setIfInBounds_toArray, List.set_cons_zero, List.set_cons_succ]
    refine wpAnyH_take (i := 11) (v := ?vb11) rfl (by kernel_rfl) (by kernel_rfl) (by kernel_rfl) (fun _ _ _ h => h) (Or.inl ⟨by rfl, ?yb11⟩) (by assumption) ?rb11
    case yb11 => intro w hSw; (try dsimp only at hSw); go_simp; (try with_reducible rfl)
    simp only [List.getElem_toArray, List.getElem_cons_zero, List.getElem_cons_succ, Act.put, List.setIfInBounds_toArray, List.set_cons_zero, List.set_cons_succ]
    refine wpAnyH_take (i := 12) (v := undef) rfl (by kernel_rfl) (by kernel_rfl) (by kernel_rfl) (fun _ _ _ h => h) (Or.inr ⟨by rfl, rfl⟩) (by assumption) ?_
    simp only [List.getElem_toArray, List.getElem_cons_zero, List.getElem_cons_succ, Act.put, List.setIfInBounds_toArray, List.set_cons_zero, List.set_cons_succ]
    refine wpAnyH_take (i := 13) (v := undef) rfl (by kernel_rfl) (by kernel_rfl) (by kernel_rfl) (fun _ _ _ h => h) (Or.inr ⟨by rfl, rfl⟩) (by assumption) ?_
    simp only [List.getElem_toArray, List.getElem_cons_zero, List.getElem_cons_succ, Act.put, List.setIfInBounds_toArray, List.set_cons_zero, List.set_cons_succ]
    refine wpAnyH_take (i := 14) (v := undef) rfl (by kernel_rfl) (by kernel_rfl) (by kernel_rfl) (fun _ _ _ h => h) (Or.inr ⟨by rfl, rfl⟩) (by assumption) ?_
    simp only [List.getElem_toArray, List.getElem_cons_zero, List.getElem_cons_succ, Act.put, List.setIfInBounds_toArray, List.set_cons_zero, List.set_cons_succ]
    refine wpAnyH_take (i := 15) (v := undef) rfl (by kernel_rfl) (by kernel_rfl) (by kernel_rfl) (fun _ _ _ h => h) (Or.inr ⟨by rfl, rfl⟩) (by assumption) ?_
    simp only [List.getElem_toArray, List.getElem_cons_zero, List.getElem_cons_succ, Act.put, List.setIfInBounds_toArray, List.set_cons_zero, List.set_cons_succ]
    refine wpAnyH_take (i := 16) (v := ?vb16) rfl (by kernel_rfl) (by kernel_rfl) (by kernel_rfl) (fun _ _ _ h => h) (Or.inl ⟨by rfl, ?yb16⟩) (by assumption) ?rb16
    case yb16 => intro w hSw; (try dsimp only at hSw); go_simp; (try with_reducible rfl)
    simp only [List.getElem_toArray, List.getElem_cons_zero, List.getElem_cons_succ, Act.put, List.setIfInBounds_toArray, List.set_cons_zero, List.set_cons_succ]
    refine wpAnyH_ready (rs := [17]) (by kernel_rfl) (by simp) ?_
    refine AllReadyH.cons rfl (fun K hK => ?_) AllReadyH.nil
    go_simp
    refine Shut.out hK _ _ ?Sb ?restb
    case Sb => go_keep
    clear hK K
    intro hHeld2
    clear hHeld
    try simp only [List.getElem_toArray, List.getElem_cons_zero, List.getElem_cons_succ, Act.put, List.setIfInBounds_toArray, List.set_cons_zero, List.set_cons_succ]
    refine wpAnyH_take (i := 18) (v := ?vb18) rfl (by kernel_rfl) (by kernel_rfl) (by kernel_rfl) (fun _ _ _ h => h) (Or.inl ⟨by rfl, ?yb18⟩) (by assumption) ?rb18
    case yb18 => intro w hSw; (try dsimp only at hSw); go_simp; (try with_reducible rfl)
    simp only [List.getElem_toArray, List.getElem_cons_zero, List.getElem_cons_succ, Act.put, List.setIfInBounds_toArray, List.set_cons_zero, List.set_cons_succ]
    refine wpAnyH_done (by kernel_rfl) ?_ _
    refine NoPanic.normal ?_
    have hfin : atOk j i r false = false := by rw [Hok.out]; rfl
    rw [hfin] at HQ
    refine HQ.out _ _ _ _ _ _ _ _ _ _ _ _ _ _ _ _ _ _ ?_ ?_
    · exact ((((((Fr.one A W 0 _).trans (Fr.one A _ 1 _)).trans (Fr.one A _ 2 _)).trans (Fr.one A _ 3 _)).trans (Fr.one A _ 4 _)).trans (Fr.one A _ 5 _)).drew
    · rw [hp_drew, hp_setCell, if_pos rfl, hp_setCell, if_pos rfl, hp_setCell, if_pos rfl, hp_setCell, if_pos rfl, hp_setCell, if_pos rfl, hp_setCell, if_pos rfl, HA.out]; first | rfl | (simp only [he]; rfl) | (simp only [he, hx]; rfl)
  · by_cases he : r.epoch = j.epoch
    · have he' : ((r.epoch : Int) == (j.epoch : Int)) = true := by simp [he]
      by_cases hx : r.index = i
      · have hx' : ((r.index : Int) == (i : Int)) = true := by simp [hx]
        refine wp_region_noPanic ?_
        refine wp_region_held_drew (S := (fun w' => w'.cell? ⟨jb, 1, none⟩ = some (.int .u32 j.epoch) ∧ w'.cell? ⟨B, 0, none⟩ = some (.int .u8 r.kind) ∧ w'.cell? ⟨B, 1, none⟩ = some (.int .u32 r.epoch) ∧ w'.cell? ⟨B, 2, none⟩ = some (.int .i64 r.index) ∧ w'.cell? ⟨B, 3, none⟩ = some (.int .i64 r.saga) ∧ w'.cell? ⟨B, 4, none⟩ = some (.int .i64 r.reply) ∧ w'.cell? ⟨B, 5, none⟩ = some (.slice sa sm sc) ∧ w'.frozen? ⟨A, 0, none⟩ = false ∧ w'.frozen? ⟨A, 1, none⟩ = false ∧ w'.frozen? ⟨A, 2, none⟩ = false ∧ w'.frozen? ⟨A, 3, none⟩ = false ∧ w'.frozen? ⟨A, 4, none⟩ = false ∧ w'.frozen? ⟨A, 5, none⟩ = false)) (by kernel_rfl) (by go_keep) (fun hHeld => ?_)
        refine wpAnyH_take (i := 0) (v := ?vc0) rfl (by kernel_rfl) (by kernel_rfl) (by kernel_rfl) (fun _ _ _ h => h) (Or.inl ⟨by rfl, ?yc0⟩) (by assumption) ?rc0
        case yc0 => intro w hSw; (try dsimp only at hSw); go_simp; (try with_reducible rfl)
        simp only [List.getElem_toArray, List.getElem_cons_zero, List.getElem_cons_succ, Act.put, List.setIfInBounds_toArray, List.set_cons_zero, List.set_cons_succ]
        refine wpAnyH_take (i := 1) (v := ?vc1) rfl (by kernel_rfl) (by kernel_rfl) (by kernel_rfl) (fun _ _ _ h => h) (Or.inl ⟨by rfl, ?yc1⟩) (by assumption) ?rc1
        case yc1 => intro w hSw; (try dsimp only at hSw); go_simp; (try with_reducible rfl)
        simp only [List.getElem_toArray, List.getElem_cons_zero, List.getElem_cons_succ, Act.put, List.setIfInBounds_toArray, List.set_cons_zero, List.set_cons_succ]
        refine wpAnyH_take (i := 2) (v := ?vc2) rfl (by kernel_rfl) (by kernel_rfl) (by kernel_rfl) (fun _ _ _ h => h) (Or.inl ⟨by rfl, ?yc2⟩) (by assumption) ?rc2
        case yc2 => intro w hSw; (try dsimp only at hSw); go_simp; (try with_reducible rfl)
        simp only [List.getElem_toArray, List.getElem_cons_zero, List.getElem_cons_succ, Act.put, List.setIfInBounds_toArray, List.set_cons_zero, List.set_cons_succ]
        refine wpAnyH_take (i := 3) (v := ?vc3) rfl (by kernel_rfl) (by kernel_rfl) (by kernel_rfl) (fun _ _ _ h => h) (Or.inl ⟨by rfl, ?yc3⟩) (by assumption) ?rc3
        case yc3 => intro w hSw; (try dsimp only at hSw); go_simp; (try with_reducible rfl)
        simp only [List.getElem_toArray, List.getElem_cons_zero, List.getElem_cons_succ, Act.put, List.setIfInBounds_toArray, List.set_cons_zero, List.set_cons_succ]
        refine wpAnyH_take (i := 4) (v := ?vc4) rfl (by kernel_rfl) (by kernel_rfl) (by kernel_rfl) (fun _ _ _ h => h) (Or.inl ⟨by rfl, ?yc4⟩) (by assumption) ?rc4
        case yc4 => intro w hSw; (try dsimp only at hSw); go_simp; (try with_reducible rfl)
        simp only [List.getElem_toArray, List.getElem_cons_zero, List.getElem_cons_succ, Act.put, List.setIfInBounds_toArray, List.set_cons_zero, List.set_cons_succ]
        refine wpAnyH_take (i := 5) (v := ?vc5) rfl (by kernel_rfl) (by kernel_rfl) (by kernel_rfl) (fun _ _ _ h => h) (Or.inl ⟨by rfl, ?yc5⟩) (by assumption) ?rc5
        case yc5 => intro w hSw; (try dsimp only at hSw); go_simp; (try with_reducible rfl)
        simp only [List.getElem_toArray, List.getElem_cons_zero, List.getElem_cons_succ, Act.put, List.setIfInBounds_toArray, List.set_cons_zero, List.set_cons_succ]
        refine wpAnyH_take (i := 6) (v := ?vc6) rfl (by kernel_rfl) (by kernel_rfl) (by kernel_rfl) (fun _ _ _ h => h) (Or.inl ⟨by rfl, ?yc6⟩) (by assumption) ?rc6
        case yc6 => intro w hSw; (try dsimp only at hSw); go_simp; (try with_reducible rfl)
        simp only [List.getElem_toArray, List.getElem_cons_zero, List.getElem_cons_succ, Act.put, List.setIfInBounds_toArray, List.set_cons_zero, List.set_cons_succ]
        refine wpAnyH_take (i := 7) (v := ?vc7) rfl (by kernel_rfl) (by kernel_rfl) (by kernel_rfl) (fun _ _ _ h => h) (Or.inl ⟨by rfl, ?yc7⟩) (by assumption) ?rc7
        case yc7 => intro w hSw; (try dsimp only at hSw); go_simp; (try with_reducible rfl)
        simp only [List.getElem_toArray, List.getElem_cons_zero, List.getElem_cons_succ, Act.put, List.setIfInBounds_toArray, List.set_cons_zero, List.set_cons_succ]
        refine wpAnyH_take (i := 8) (v := ?vc8) rfl (by kernel_rfl) (by kernel_rfl) (by kernel_rfl) (fun _ _ _ h => h) (Or.inl ⟨by rfl, ?yc8⟩) (by assumption) ?rc8
        case yc8 => intro w hSw; (try dsimp only at hSw); go_simp; (try with_reducible rfl)
        simp only [List.getElem_toArray, List.getElem_cons_zero, List.getElem_cons_succ, Act.put, List.setIfInBounds_toArray, List.set_cons_zero, List.set_cons_succ]
        refine wpAnyH_take (i := 9) (v := ?vc9) rfl (by kernel_rfl) (by kernel_rfl) (by kernel_rfl) (fun _ _ _ h => h) (Or.inl ⟨by rfl, ?yc9⟩) (by assumption) ?rc9
        case yc9 => intro w hSw; (try dsimp only at hSw); go_simp; (try with_reducible rfl)
        simp only [List.getElem_toArray, List.getElem_cons_zero, List.getElem_cons_succ, Act.put, List.setIfInBounds_toArray, List.set_cons_zero, List.set_cons_succ]
        refine wpAnyH_take (i := 10) (v := ?vc10) rfl (by kernel_rfl) (by kernel_rfl) (by kernel_rfl) (fun _ _ _ h => h) (Or.inl ⟨by rfl, ?yc10⟩) (by assumption) ?rc10
        case yc10 => intro w hSw; (try dsimp only at hSw); go_simp; (try with_reducible rfl)
        simp only [List.getElem_toArray, List.getElem_cons_zero, List.getElem_cons_succ, Act.put, List.setIfInBounds_toArray, List.set_cons_zero, List.set_cons_succ]
        refine wpAnyH_take (i := 11) (v := ?vc11) rfl (by kernel_rfl) (by kernel_rfl) (by kernel_rfl) (fun _ _ _ h => h) (Or.inl ⟨by rfl, ?yc11⟩) (by assumption) ?rc11
        case yc11 => intro w hSw; (try dsimp only at hSw); go_simp; (try with_reducible rfl)
        simp only [List.getElem_toArray, List.getElem_cons_zero, List.getElem_cons_succ, Act.put, List.setIfInBounds_toArray, List.set_cons_zero, List.set_cons_succ]
        refine wpAnyH_take (i := 12) (v := ?vc12) rfl (by kernel_rfl) (by kernel_rfl) (by kernel_rfl) (fun _ _ _ h => h) (Or.inl ⟨by rfl, ?yc12⟩) (by assumption) ?rc12
        case yc12 => intro w hSw; (try dsimp only at hSw); go_simp; (try with_reducible rfl)
        simp only [List.getElem_toArray, List.getElem_cons_zero, List.getElem_cons_succ, Act.put, List.setIfInBounds_toArray, List.set_cons_zero, List.set_cons_succ]
        refine wpAnyH_take (i := 13) (v := ?vc13) rfl (by kernel_rfl) (by kernel_rfl) (by kernel_rfl) (fun _ _ _ h => h) (Or.inl ⟨by rfl, ?yc13⟩) (by assumption) ?rc13
        case yc13 => intro w hSw; (try dsimp only at hSw); go_simp; (try with_reducible rfl)
        simp only [List.getElem_toArray, List.getElem_cons_zero, List.getElem_cons_succ, Act.put, List.setIfInBounds_toArray, List.set_cons_zero, List.set_cons_succ]
        refine wpAnyH_take (i := 14) (v := ?vc14) rfl (by kernel_rfl) (by kernel_rfl) (by kernel_rfl) (fun _ _ _ h => h) (Or.inl ⟨by rfl, ?yc14⟩) (by assumption) ?rc14
        case yc14 => intro w hSw; (try dsimp only at hSw); go_simp; (try with_reducible rfl)
        simp only [List.getElem_toArray, List.getElem_cons_zero, List.getElem_cons_succ, Act.put, List.setIfInBounds_toArray, List.set_cons_zero, List.set_cons_succ]
        refine wpAnyH_take (i := 15) (v := ?vc15) rfl (by kernel_rfl) (by kernel_rfl) (by kernel_rfl) (fun _ _ _ h => h) (Or.inl ⟨by rfl, ?yc15⟩) (by assumption) ?rc15
        case yc15 => intro w hSw; (try dsimp only at hSw); go_simp; (try with_reducible rfl)
        simp only [List.getElem_toArray, List.getElem_cons_zero, List.getElem_cons_succ, Act.put, List.setIfInBounds_toArray, List.set_cons_zero, List.set_cons_succ]
        refine wpAnyH_take (i := 16) (v := ?vc16) rfl (by kernel_rfl) (by kernel_rfl) (by kernel_rfl) (fun _ _ _ h => h) (Or.inl ⟨by rfl, ?yc16⟩) (by assumption) ?rc16
        case yc16 => intro w hSw; (try dsimp only at hSw); go_simp; (try with_reducible rfl)
        simp only [List.getElem_toArray, List.getElem_cons_zero, List.getElem_cons_succ, Act.put, List.setIfInBounds_toArray, List.set_cons_zero, List.set_cons_succ]
        refine wpAnyH_ready (rs := [17]) (by kernel_rfl) (by simp) ?_
        refine AllReadyH.cons rfl (fun K hK => ?_) AllReadyH.nil
        go_simp
        refine Shut.out hK _ _ ?Sc ?restc
        case Sc => go_keep
        clear hK K
        intro hHeld2
        clear hHeld
        try simp only [List.getElem_toArray, List.getElem_cons_zero, List.getElem_cons_succ, Act.put, List.setIfInBounds_toArray, List.set_cons_zero, List.set_cons_succ]
        refine wpAnyH_take (i := 18) (v := ?vc18) rfl (by kernel_rfl) (by kernel_rfl) (by kernel_rfl) (fun _ _ _ h => h) (Or.inl ⟨by rfl, ?yc18⟩) (by assumption) ?rc18
        case yc18 => intro w hSw; (try dsimp only at hSw); go_simp; (try with_reducible rfl)
        simp only [List.getElem_toArray, List.getElem_cons_zero, List.getElem_cons_succ, Act.put, List.setIfInBounds_toArray, List.set_cons_zero, List.set_cons_succ]
        refine wpAnyH_done (by kernel_rfl) ?_ _
        refine NoPanic.normal ?_
        have hfin : atOk j i r true = true := by rw [Hok.out]; simp [he, hx]
        rw [hfin] at HQ
        refine HQ.out _ _ _ _ _ _ _ _ _ _ _ _ _ _ _ _ _ _ ?_ ?_
        · exact ((((((Fr.one A W 0 _).trans (Fr.one A _ 1 _)).trans (Fr.one A _ 2 _)).trans (Fr.one A _ 3 _)).trans (Fr.one A _ 4 _)).trans (Fr.one A _ 5 _)).drew
        · rw [hp_drew, hp_setCell, if_pos rfl, hp_setCell, if_pos rfl, hp_setCell, if_pos rfl, hp_setCell, if_pos rfl, hp_setCell, if_pos rfl, hp_setCell, if_pos rfl, HA.out]; first | rfl | (simp only [he]; rfl) | (simp only [he, hx]; rfl)
      · have hx' : ((r.index : Int) == (i : Int)) = false := by simp; omega
        refine wp_region_noPanic ?_
        refine wp_region_held_drew (S := (fun w' => w'.cell? ⟨jb, 1, none⟩ = some (.int .u32 j.epoch) ∧ w'.cell? ⟨B, 0, none⟩ = some (.int .u8 r.kind) ∧ w'.cell? ⟨B, 1, none⟩ = some (.int .u32 r.epoch) ∧ w'.cell? ⟨B, 2, none⟩ = some (.int .i64 r.index) ∧ w'.cell? ⟨B, 3, none⟩ = some (.int .i64 r.saga) ∧ w'.cell? ⟨B, 4, none⟩ = some (.int .i64 r.reply) ∧ w'.cell? ⟨B, 5, none⟩ = some (.slice sa sm sc) ∧ w'.frozen? ⟨A, 0, none⟩ = false ∧ w'.frozen? ⟨A, 1, none⟩ = false ∧ w'.frozen? ⟨A, 2, none⟩ = false ∧ w'.frozen? ⟨A, 3, none⟩ = false ∧ w'.frozen? ⟨A, 4, none⟩ = false ∧ w'.frozen? ⟨A, 5, none⟩ = false)) (by kernel_rfl) (by go_keep) (fun hHeld => ?_)
        refine wpAnyH_take (i := 0) (v := ?vd0) rfl (by kernel_rfl) (by kernel_rfl) (by kernel_rfl) (fun _ _ _ h => h) (Or.inl ⟨by rfl, ?yd0⟩) (by assumption) ?rd0
        case yd0 => intro w hSw; (try dsimp only at hSw); go_simp; (try with_reducible rfl)
        simp only [List.getElem_toArray, List.getElem_cons_zero, List.getElem_cons_succ, Act.put, List.setIfInBounds_toArray, List.set_cons_zero, List.set_cons_succ]
        refine wpAnyH_take (i := 1) (v := ?vd1) rfl (by kernel_rfl) (by kernel_rfl) (by kernel_rfl) (fun _ _ _ h => h) (Or.inl ⟨by rfl, ?yd1⟩) (by assumption) ?rd1
        case yd1 => intro w hSw; (try dsimp only at hSw); go_simp; (try with_reducible rfl)
        simp only [List.getElem_toArray, List.getElem_cons_zero, List.getElem_cons_succ, Act.put, List.setIfInBounds_toArray, List.set_cons_zero, List.set_cons_succ]
        refine wpAnyH_take (i := 2) (v := ?vd2) rfl (by kernel_rfl) (by kernel_rfl) (by kernel_rfl) (fun _ _ _ h => h) (Or.inl ⟨by rfl, ?yd2⟩) (by assumption) ?rd2
        case yd2 => intro w hSw; (try dsimp only at hSw); go_simp; (try with_reducible rfl)
        simp only [List.getElem_toArray, List.getElem_cons_zero, List.getElem_cons_succ, Act.put, List.setIfInBounds_toArray, List.set_cons_zero, List.set_cons_succ]
        refine wpAnyH_take (i := 3) (v := ?vd3) rfl (by kernel_rfl) (by kernel_rfl) (by kernel_rfl) (fun _ _ _ h => h) (Or.inl ⟨by rfl, ?yd3⟩) (by assumption) ?rd3
        case yd3 => intro w hSw; (try dsimp only at hSw); go_simp; (try with_reducible rfl)
        simp only [List.getElem_toArray, List.getElem_cons_zero, List.getElem_cons_succ, Act.put, List.setIfInBounds_toArray, List.set_cons_zero, List.set_cons_succ]
        refine wpAnyH_take (i := 4) (v := ?vd4) rfl (by kernel_rfl) (by kernel_rfl) (by kernel_rfl) (fun _ _ _ h => h) (Or.inl ⟨by rfl, ?yd4⟩) (by assumption) ?rd4
        case yd4 => intro w hSw; (try dsimp only at hSw); go_simp; (try with_reducible rfl)
        simp only [List.getElem_toArray, List.getElem_cons_zero, List.getElem_cons_succ, Act.put, List.setIfInBounds_toArray, List.set_cons_zero, List.set_cons_succ]
        refine wpAnyH_take (i := 5) (v := ?vd5) rfl (by kernel_rfl) (by kernel_rfl) (by kernel_rfl) (fun _ _ _ h => h) (Or.inl ⟨by rfl, ?yd5⟩) (by assumption) ?rd5
        case yd5 => intro w hSw; (try dsimp only at hSw); go_simp; (try with_reducible rfl)
        simp only [List.getElem_toArray, List.getElem_cons_zero, List.getElem_cons_succ, Act.put, List.setIfInBounds_toArray, List.set_cons_zero, List.set_cons_succ]
        refine wpAnyH_take (i := 6) (v := ?vd6) rfl (by kernel_rfl) (by kernel_rfl) (by kernel_rfl) (fun _ _ _ h => h) (Or.inl ⟨by rfl, ?yd6⟩) (by assumption) ?rd6
        case yd6 => intro w hSw; (try dsimp only at hSw); go_simp; (try with_reducible rfl)
        simp only [List.getElem_toArray, List.getElem_cons_zero, List.getElem_cons_succ, Act.put, List.setIfInBounds_toArray, List.set_cons_zero, List.set_cons_succ]
        refine wpAnyH_take (i := 7) (v := ?vd7) rfl (by kernel_rfl) (by kernel_rfl) (by kernel_rfl) (fun _ _ _ h => h) (Or.inl ⟨by rfl, ?yd7⟩) (by assumption) ?rd7
        case yd7 => intro w hSw; (try dsimp only at hSw); go_simp; (try with_reducible rfl)
        simp only [List.getElem_toArray, List.getElem_cons_zero, List.getElem_cons_succ, Act.put, List.setIfInBounds_toArray, List.set_cons_zero, List.set_cons_succ]
        refine wpAnyH_take (i := 8) (v := ?vd8) rfl (by kernel_rfl) (by kernel_rfl) (by kernel_rfl) (fun _ _ _ h => h) (Or.inl ⟨by rfl, ?yd8⟩) (by assumption) ?rd8
        case yd8 => intro w hSw; (try dsimp only at hSw); go_simp; (try with_reducible rfl)
        simp only [List.getElem_toArray, List.getElem_cons_zero, List.getElem_cons_succ, Act.put, List.setIfInBounds_toArray, List.set_cons_zero, List.set_cons_succ]
        refine wpAnyH_take (i := 9) (v := ?vd9) rfl (by kernel_rfl) (by kernel_rfl) (by kernel_rfl) (fun _ _ _ h => h) (Or.inl ⟨by rfl, ?yd9⟩) (by assumption) ?rd9
        case yd9 => intro w hSw; (try dsimp only at hSw); go_simp; (try with_reducible rfl)
        simp only [List.getElem_toArray, List.getElem_cons_zero, List.getElem_cons_succ, Act.put, List.setIfInBounds_toArray, List.set_cons_zero, List.set_cons_succ]
        refine wpAnyH_take (i := 10) (v := ?vd10) rfl (by kernel_rfl) (by kernel_rfl) (by kernel_rfl) (fun _ _ _ h => h) (Or.inl ⟨by rfl, ?yd10⟩) (by assumption) ?rd10
        case yd10 => intro w hSw; (try dsimp only at hSw); go_simp; (try with_reducible rfl)
        simp only [List.getElem_toArray, List.getElem_cons_zero, List.getElem_cons_succ, Act.put, List.setIfInBounds_toArray, List.set_cons_zero, List.set_cons_succ]
        refine wpAnyH_take (i := 11) (v := ?vd11) rfl (by kernel_rfl) (by kernel_rfl) (by kernel_rfl) (fun _ _ _ h => h) (Or.inl ⟨by rfl, ?yd11⟩) (by assumption) ?rd11
        case yd11 => intro w hSw; (try dsimp only at hSw); go_simp; (try with_reducible rfl)
        simp only [List.getElem_toArray, List.getElem_cons_zero, List.getElem_cons_succ, Act.put, List.setIfInBounds_toArray, List.set_cons_zero, List.set_cons_succ]
        refine wpAnyH_take (i := 12) (v := ?vd12) rfl (by kernel_rfl) (by kernel_rfl) (by kernel_rfl) (fun _ _ _ h => h) (Or.inl ⟨by rfl, ?yd12⟩) (by assumption) ?rd12
        case yd12 => intro w hSw; (try dsimp only at hSw); go_simp; (try with_reducible rfl)
        simp only [List.getElem_toArray, List.getElem_cons_zero, List.getElem_cons_succ, Act.put, List.setIfInBounds_toArray, List.set_cons_zero, List.set_cons_succ]
        refine wpAnyH_take (i := 13) (v := ?vd13) rfl (by kernel_rfl) (by kernel_rfl) (by kernel_rfl) (fun _ _ _ h => h) (Or.inl ⟨by rfl, ?yd13⟩) (by assumption) ?rd13
        case yd13 => intro w hSw; (try dsimp only at hSw); go_simp; (try with_reducible rfl)
        simp only [List.getElem_toArray, List.getElem_cons_zero, List.getElem_cons_succ, Act.put, List.setIfInBounds_toArray, List.set_cons_zero, List.set_cons_succ]
        refine wpAnyH_take (i := 14) (v := ?vd14) rfl (by kernel_rfl) (by kernel_rfl) (by kernel_rfl) (fun _ _ _ h => h) (Or.inl ⟨by rfl, ?yd14⟩) (by assumption) ?rd14
        case yd14 => intro w hSw; (try dsimp only at hSw); go_simp; (try with_reducible rfl)
        simp only [List.getElem_toArray, List.getElem_cons_zero, List.getElem_cons_succ, Act.put, List.setIfInBounds_toArray, List.set_cons_zero, List.set_cons_succ]
        refine wpAnyH_take (i := 15) (v := ?vd15) rfl (by kernel_rfl) (by kernel_rfl) (by kernel_rfl) (fun _ _ _ h => h) (Or.inl ⟨by rfl, ?yd15⟩) (by assumption) ?rd15
        case yd15 => intro w hSw; (try dsimp only at hSw); go_simp; (try with_reducible rfl)
        simp only [List.getElem_toArray, List.getElem_cons_zero, List.getElem_cons_succ, Act.put, List.setIfInBounds_toArray, List.set_cons_zero, List.set_cons_succ]
        refine wpAnyH_take (i := 16) (v := ?vd16) rfl (by kernel_rfl) (by kernel_rfl) (by kernel_rfl) (fun _ _ _ h => h) (Or.inl ⟨by rfl, ?yd16⟩) (by assumption) ?rd16
        case yd16 => intro w hSw; (try dsimp only at hSw); go_simp; (try with_reducible rfl)
        simp only [List.getElem_toArray, List.getElem_cons_zero, List.getElem_cons_succ, Act.put, List.setIfInBounds_toArray, List.set_cons_zero, List.set_cons_succ]
        refine wpAnyH_ready (rs := [17]) (by kernel_rfl) (by simp) ?_
        refine AllReadyH.cons rfl (fun K hK => ?_) AllReadyH.nil
        go_simp
        refine Shut.out hK _ _ ?Sd ?restd
        case Sd => go_keep
        clear hK K
        intro hHeld2
        clear hHeld
        try simp only [List.getElem_toArray, List.getElem_cons_zero, List.getElem_cons_succ, Act.put, List.setIfInBounds_toArray, List.set_cons_zero, List.set_cons_succ]
        refine wpAnyH_take (i := 18) (v := ?vd18) rfl (by kernel_rfl) (by kernel_rfl) (by kernel_rfl) (fun _ _ _ h => h) (Or.inl ⟨by rfl, ?yd18⟩) (by assumption) ?rd18
        case yd18 => intro w hSw; (try dsimp only at hSw); go_simp; (try with_reducible rfl)
        simp only [List.getElem_toArray, List.getElem_cons_zero, List.getElem_cons_succ, Act.put, List.setIfInBounds_toArray, List.set_cons_zero, List.set_cons_succ]
        refine wpAnyH_done (by kernel_rfl) ?_ _
        refine NoPanic.normal ?_
        have hfin : atOk j i r true = false := by rw [Hok.out]; simp [he, hx]
        rw [hfin] at HQ
        refine HQ.out _ _ _ _ _ _ _ _ _ _ _ _ _ _ _ _ _ _ ?_ ?_
        · exact ((((((Fr.one A W 0 _).trans (Fr.one A _ 1 _)).trans (Fr.one A _ 2 _)).trans (Fr.one A _ 3 _)).trans (Fr.one A _ 4 _)).trans (Fr.one A _ 5 _)).drew
        · rw [hp_drew, hp_setCell, if_pos rfl, hp_setCell, if_pos rfl, hp_setCell, if_pos rfl, hp_setCell, if_pos rfl, hp_setCell, if_pos rfl, hp_setCell, if_pos rfl, HA.out]; first | rfl | (simp only [he]; rfl) | (simp only [he, hx]; rfl)
    · have he' : ((r.epoch : Int) == (j.epoch : Int)) = false := by simp; omega
      refine wp_region_noPanic ?_
      refine wp_region_held_drew (S := (fun w' => w'.cell? ⟨jb, 1, none⟩ = some (.int .u32 j.epoch) ∧ w'.cell? ⟨B, 0, none⟩ = some (.int .u8 r.kind) ∧ w'.cell? ⟨B, 1, none⟩ = some (.int .u32 r.epoch) ∧ w'.cell? ⟨B, 2, none⟩ = some (.int .i64 r.index) ∧ w'.cell? ⟨B, 3, none⟩ = some (.int .i64 r.saga) ∧ w'.cell? ⟨B, 4, none⟩ = some (.int .i64 r.reply) ∧ w'.cell? ⟨B, 5, none⟩ = some (.slice sa sm sc) ∧ w'.frozen? ⟨A, 0, none⟩ = false ∧ w'.frozen? ⟨A, 1, none⟩ = false ∧ w'.frozen? ⟨A, 2, none⟩ = false ∧ w'.frozen? ⟨A, 3, none⟩ = false ∧ w'.frozen? ⟨A, 4, none⟩ = false ∧ w'.frozen? ⟨A, 5, none⟩ = false)) (by kernel_rfl) (by go_keep) (fun hHeld => ?_)
      refine wpAnyH_take (i := 0) (v := ?ve0) rfl (by kernel_rfl) (by kernel_rfl) (by kernel_rfl) (fun _ _ _ h => h) (Or.inl ⟨by rfl, ?ye0⟩) (by assumption) ?re0
      case ye0 => intro w hSw; (try dsimp only at hSw); go_simp; (try with_reducible rfl)
      simp only [List.getElem_toArray, List.getElem_cons_zero, List.getElem_cons_succ, Act.put, List.setIfInBounds_toArray, List.set_cons_zero, List.set_cons_succ]
      refine wpAnyH_take (i := 1) (v := ?ve1) rfl (by kernel_rfl) (by kernel_rfl) (by kernel_rfl) (fun _ _ _ h => h) (Or.inl ⟨by rfl, ?ye1⟩) (by assumption) ?re1
      case ye1 => intro w hSw; (try dsimp only at hSw); go_simp; (try with_reducible rfl)
      simp only [List.getElem_toArray, List.getElem_cons_zero, List.getElem_cons_succ, Act.put, List.setIfInBounds_toArray, List.set_cons_zero, List.set_cons_succ]
      refine wpAnyH_take (i := 2) (v := ?ve2) rfl (by kernel_rfl) (by kernel_rfl) (by kernel_rfl) (fun _ _ _ h => h) (Or.inl ⟨by rfl, ?ye2⟩) (by assumption) ?re2
      case ye2 => intro w hSw; (try dsimp only at hSw); go_simp; (try with_reducible rfl)
      simp only [List.getElem_toArray, List.getElem_cons_zero, List.getElem_cons_succ, Act.put, List.setIfInBounds_toArray, List.set_cons_zero, List.set_cons_succ]
      refine wpAnyH_take (i := 3) (v := ?ve3) rfl (by kernel_rfl) (by kernel_rfl) (by kernel_rfl) (fun _ _ _ h => h) (Or.inl ⟨by rfl, ?ye3⟩) (by assumption) ?re3
      case ye3 => intro w hSw; (try dsimp only at hSw); go_simp; (try with_reducible rfl)
      simp only [List.getElem_toArray, List.getElem_cons_zero, List.getElem_cons_succ, Act.put, List.setIfInBounds_toArray, List.set_cons_zero, List.set_cons_succ]
      refine wpAnyH_take (i := 4) (v := ?ve4) rfl (by kernel_rfl) (by kernel_rfl) (by kernel_rfl) (fun _ _ _ h => h) (Or.inl ⟨by rfl, ?ye4⟩) (by assumption) ?re4
      case ye4 => intro w hSw; (try dsimp only at hSw); go_simp; (try with_reducible rfl)
      simp only [List.getElem_toArray, List.getElem_cons_zero, List.getElem_cons_succ, Act.put, List.setIfInBounds_toArray, List.set_cons_zero, List.set_cons_succ]
      refine wpAnyH_take (i := 5) (v := ?ve5) rfl (by kernel_rfl) (by kernel_rfl) (by kernel_rfl) (fun _ _ _ h => h) (Or.inl ⟨by rfl, ?ye5⟩) (by assumption) ?re5
      case ye5 => intro w hSw; (try dsimp only at hSw); go_simp; (try with_reducible rfl)
      simp only [List.getElem_toArray, List.getElem_cons_zero, List.getElem_cons_succ, Act.put, List.setIfInBounds_toArray, List.set_cons_zero, List.set_cons_succ]
      refine wpAnyH_take (i := 6) (v := ?ve6) rfl (by kernel_rfl) (by kernel_rfl) (by kernel_rfl) (fun _ _ _ h => h) (Or.inl ⟨by rfl, ?ye6⟩) (by assumption) ?re6
      case ye6 => intro w hSw; (try dsimp only at hSw); go_simp; (try with_reducible rfl)
      simp only [List.getElem_toArray, List.getElem_cons_zero, List.getElem_cons_succ, Act.put, List.setIfInBounds_toArray, List.set_cons_zero, List.set_cons_succ]
      refine wpAnyH_take (i := 7) (v := ?ve7) rfl (by kernel_rfl) (by kernel_rfl) (by kernel_rfl) (fun _ _ _ h => h) (Or.inl ⟨by rfl, ?ye7⟩) (by assumption) ?re7
      case ye7 => intro w hSw; (try dsimp only at hSw); go_simp; (try with_reducible rfl)
      simp only [List.getElem_toArray, List.getElem_cons_zero, List.getElem_cons_succ, Act.put, List.setIfInBounds_toArray, List.set_cons_zero, List.set_cons_succ]
      refine wpAnyH_take (i := 8) (v := ?ve8) rfl (by kernel_rfl) (by kernel_rfl) (by kernel_rfl) (fun _ _ _ h => h) (Or.inl ⟨by rfl, ?ye8⟩) (by assumption) ?re8
      case ye8 => intro w hSw; (try dsimp only at hSw); go_simp; (try with_reducible rfl)
      simp only [List.getElem_toArray, List.getElem_cons_zero, List.getElem_cons_succ, Act.put, List.setIfInBounds_toArray, List.set_cons_zero, List.set_cons_succ]
      refine wpAnyH_take (i := 9) (v := ?ve9) rfl (by kernel_rfl) (by kernel_rfl) (by kernel_rfl) (fun _ _ _ h => h) (Or.inl ⟨by rfl, ?ye9⟩) (by assumption) ?re9
      case ye9 => intro w hSw; (try dsimp only at hSw); go_simp; (try with_reducible rfl)
      simp only [List.getElem_toArray, List.getElem_cons_zero, List.getElem_cons_succ, Act.put, List.setIfInBounds_toArray, List.set_cons_zero, List.set_cons_succ]
      refine wpAnyH_take (i := 10) (v := ?ve10) rfl (by kernel_rfl) (by kernel_rfl) (by kernel_rfl) (fun _ _ _ h => h) (Or.inl ⟨by rfl, ?ye10⟩) (by assumption) ?re10
      case ye10 => intro w hSw; (try dsimp only at hSw); go_simp; (try with_reducible rfl)
      simp only [List.getElem_toArray, List.getElem_cons_zero, List.getElem_cons_succ, Act.put, List.setIfInBounds_toArray, List.set_cons_zero, List.set_cons_succ]
      refine wpAnyH_take (i := 11) (v := ?ve11) rfl (by kernel_rfl) (by kernel_rfl) (by kernel_rfl) (fun _ _ _ h => h) (Or.inl ⟨by rfl, ?ye11⟩) (by assumption) ?re11
      case ye11 => intro w hSw; (try dsimp only at hSw); go_simp; (try with_reducible rfl)
      simp only [List.getElem_toArray, List.getElem_cons_zero, List.getElem_cons_succ, Act.put, List.setIfInBounds_toArray, List.set_cons_zero, List.set_cons_succ]
      refine wpAnyH_take (i := 12) (v := undef) rfl (by kernel_rfl) (by kernel_rfl) (by kernel_rfl) (fun _ _ _ h => h) (Or.inr ⟨by rfl, rfl⟩) (by assumption) ?_
      simp only [List.getElem_toArray, List.getElem_cons_zero, List.getElem_cons_succ, Act.put, List.setIfInBounds_toArray, List.set_cons_zero, List.set_cons_succ]
      refine wpAnyH_take (i := 13) (v := undef) rfl (by kernel_rfl) (by kernel_rfl) (by kernel_rfl) (fun _ _ _ h => h) (Or.inr ⟨by rfl, rfl⟩) (by assumption) ?_
      simp only [List.getElem_toArray, List.getElem_cons_zero, List.getElem_cons_succ, Act.put, List.setIfInBounds_toArray, List.set_cons_zero, List.set_cons_succ]
      refine wpAnyH_take (i := 14) (v := undef) rfl (by kernel_rfl) (by kernel_rfl) (by kernel_rfl) (fun _ _ _ h => h) (Or.inr ⟨by rfl, rfl⟩) (by assumption) ?_
      simp only [List.getElem_toArray, List.getElem_cons_zero, List.getElem_cons_succ, Act.put, List.setIfInBounds_toArray, List.set_cons_zero, List.set_cons_succ]
      refine wpAnyH_take (i := 15) (v := undef) rfl (by kernel_rfl) (by kernel_rfl) (by kernel_rfl) (fun _ _ _ h => h) (Or.inr ⟨by rfl, rfl⟩) (by assumption) ?_
      simp only [List.getElem_toArray, List.getElem_cons_zero, List.getElem_cons_succ, Act.put, List.setIfInBounds_toArray, List.set_cons_zero, List.set_cons_succ]
      refine wpAnyH_take (i := 16) (v := ?ve16) rfl (by kernel_rfl) (by kernel_rfl) (by kernel_rfl) (fun _ _ _ h => h) (Or.inl ⟨by rfl, ?ye16⟩) (by assumption) ?re16
      case ye16 => intro w hSw; (try dsimp only at hSw); go_simp; (try with_reducible rfl)
      simp only [List.getElem_toArray, List.getElem_cons_zero, List.getElem_cons_succ, Act.put, List.setIfInBounds_toArray, List.set_cons_zero, List.set_cons_succ]
      refine wpAnyH_ready (rs := [17]) (by kernel_rfl) (by simp) ?_
      refine AllReadyH.cons rfl (fun K hK => ?_) AllReadyH.nil
      go_simp
      refine Shut.out hK _ _ ?Se ?reste
      case Se => go_keep
      clear hK K
      intro hHeld2
      clear hHeld
      try simp only [List.getElem_toArray, List.getElem_cons_zero, List.getElem_cons_succ, Act.put, List.setIfInBounds_toArray, List.set_cons_zero, List.set_cons_succ]
      refine wpAnyH_take (i := 18) (v := ?ve18) rfl (by kernel_rfl) (by kernel_rfl) (by kernel_rfl) (fun _ _ _ h => h) (Or.inl ⟨by rfl, ?ye18⟩) (by assumption) ?re18
      case ye18 => intro w hSw; (try dsimp only at hSw); go_simp; (try with_reducible rfl)
      simp only [List.getElem_toArray, List.getElem_cons_zero, List.getElem_cons_succ, Act.put, List.setIfInBounds_toArray, List.set_cons_zero, List.set_cons_succ]
      refine wpAnyH_done (by kernel_rfl) ?_ _
      refine NoPanic.normal ?_
      have hfin : atOk j i r true = false := by rw [Hok.out]; simp [he]
      rw [hfin] at HQ
      refine HQ.out _ _ _ _ _ _ _ _ _ _ _ _ _ _ _ _ _ _ ?_ ?_
      · exact ((((((Fr.one A W 0 _).trans (Fr.one A _ 1 _)).trans (Fr.one A _ 2 _)).trans (Fr.one A _ 3 _)).trans (Fr.one A _ 4 _)).trans (Fr.one A _ 5 _)).drew
      · rw [hp_drew, hp_setCell, if_pos rfl, hp_setCell, if_pos rfl, hp_setCell, if_pos rfl, hp_setCell, if_pos rfl, hp_setCell, if_pos rfl, hp_setCell, if_pos rfl, HA.out]; first | rfl | (simp only [he]; rfl) | (simp only [he, hx]; rfl)
def AtPost (w : World) (db bb : Nat) (d : DiskM) (r : RecM) (ok : Bool) (e : Ending) (w' : World) : Prop :=
  ∃ sv, e = .returned (.tuple #[.agg (rcells r.kind r.epoch r.index r.saga r.reply sv), .bool ok]) ∧ StepsVal w' w.heap.size sv r.steps ∧ DiskAt w' db bb d.count ∧ Fr (· = db) w w'
set_option maxRecDepth 100000 in
set_option maxHeartbeats 2000000 in
theorem at_calls {w : World} {jb db bb : Nat} {j : JnM} {d : DiskM} (hj : JnAt w jb db j) (h : DiskAt w db bb d) (hq : d.quiet) (i : Nat) (r : RecM) (ok : Bool) (hpm : parseM (d.look i) = some (r, ok)) (hi : i < d.blocks.length) :
    Calls Tryz.prog 106 #[.pointer (some ⟨jb, 0, none⟩), .int .i64 i] w (AtPost w db bb d r (atOk j i r ok)) := by
  have hlk := DiskM.look_length h.wf hi
  have hne := jn_ne hj h
  have hdl := disk_lt h
  have hjl := lt_of_hp hj
  have hd1 := h.new ((Fr.refl _ w).alloc (.cells #[.int .u8 0, .int .u32 0, .int .i64 0, .int .i64 0, .int .i64 0, .slice none 0 0] 91))
  have hj1 := heap_alloc_keep (.cells #[.int .u8 0, .int .u32 0, .int .i64 0, .int .i64 0, .int .i64 0, .slice none 0 0] 91) hj
  have hR1 := heap_alloc_new w (.cells #[.int .u8 0, .int .u32 0, .int .i64 0, .int .i64 0, .int .i64 0, .slice none 0 0] 91)
  have HF1 : Hid (New w (w.alloc (.cells #[.int .u8 0, .int .u32 0, .int .i64 0, .int .i64 0, .int .i64 0, .slice none 0 0] 91))) := (Fr.refl _ w).alloc _
  have HB := Lib.hid (Blocks_calls hd1)
  have hil : ¬ ((d.blocks.length : Int) ≤ i) := by omega
  have HRD := Lib.hid (read_quiet hd1 hq i hi)
  have Hlk := Lib.hid hlk
  have Hpm := Lib.hid hpm
  have Hne := Lib.hid hne
  have Hdl := Lib.hid hdl
  have Hjl := Lib.hid hjl
  have HR1 := Lib.hid hR1
  have Hj1 := Lib.hid hj1
  simp only [jnCells] at hj1
  clear hj h hq hpm hi hlk hne hdl hd1 hjl hR1
  go_enter Tryz.func106, Tryz.ntmps106
  go_upto_region 1 with fail
  generalize w.alloc (.cells #[.int .u8 0, .int .u32 0, .int .i64 0, .int .i64 0, .int .i64 0, .slice none 0 0] 91) = W1 at *
  have hcv := cellv W1
  go_upto_region 4 with (first
    | (go_at_call 177; refine Calls.mono HB.out ?_; rintro e w2 ⟨rfl, rfl⟩)
    | (go_at_call 105; refine Calls.mono HRD.out ?_; rintro e w2 ⟨g, hg, rfl, hgc, hd2, hf2⟩)
    | (go_at_call 104; refine Calls.mono (parse_calls w2 g _ 5 (d.look i) r ok Hlk.out hgc (by intro j hj; simp [Hlk.out, hj]) Hpm.out) ?_; rintro e w3 ⟨sv, rfl, hsv, hf3⟩; obtain ⟨sa, sm, sc, rfl⟩ := own_slice hsv; simp only [rcells])
    | fail)
  have hsv' := hsv
  have hszs : w.heap.size < W1.heap.size := lt_of_hp HR1.out
  have hj3 : w3.heap[jb]? = some (.cells (jnCells db j) 132 (0, 0)) := hf3.get (hf2.get Hj1.out (by have := Hne.out; omega)) (fun f => f)
  have hA3 := hf3.get (hf2.get HR1.out (by have := Hdl.out; omega)) (fun f => f)
  have hlt3 := lt_of_hp hA3
  have hj4 := heap_alloc_keep (.cells #[.int .u8 r.kind, .int .u32 r.epoch, .int .i64 r.index, .int .i64 r.saga, .int .i64 r.reply, .slice sa sm sc] 91) hj3
  have hA4 := heap_alloc_keep (.cells #[.int .u8 r.kind, .int .u32 r.epoch, .int .i64 r.index, .int .i64 r.saga, .int .i64 r.reply, .slice sa sm sc] 91) hA3
  have hB4 := heap_alloc_new w3 (.cells #[.int .u8 r.kind, .int .u32 r.epoch, .int .i64 r.index, .int .i64 r.saga, .int .i64 r.reply, .slice sa sm sc] 91)
  refine at_r4 jb db w.heap.size w3.heap.size i j r ok sa sm sc _ hj4 hA4 hB4 (by omega) ?_
  intros
  rename_i w5 hf5 hA5
  have hf13 : Fr (· = db) w (w3.alloc (.cells #[.int .u8 r.kind, .int .u32 r.epoch, .int .i64 r.index, .int .i64 r.saga, .int .i64 r.reply, .slice sa sm sc] 91)) :=
    ((HF1.out.mono (fun _ _ f => f.elim)).trans hf2).trans ((hf3.alloc _).mono (fun _ _ f => f.elim))
  have hF : Fr (· = db) w w5 := hf13.trans' hf5 (by rintro i hi e; omega)
  have hsv5 : StepsVal w5 w.heap.size (.slice sa sm sc) r.steps := by
    have h0 : StepsVal w3 w.heap.size (.slice sa sm sc) r.steps := ⟨hsv.1, by
      rcases hsv.2 with h | ⟨g, cap, cur, e1, e2, e3⟩
      · exact .inl h
      · exact .inr ⟨g, cap, cur, e1, by have := hf2.size; omega, e3⟩⟩
    have hk : FrK [92] w3 w5 := (((Fr.refl (fun _ => False) w3).alloc _).toK (fun _ _ f _ => f.elim)).trans (hf5.toK (by
      rintro k o rfl ho
      rw [hA4] at ho; cases ho; simp [kindOf]))
    exact own_keepK h0 hk (by decide)
  have hd5 : DiskAt w5 db bb d.count := (hd2.new (hf3.alloc _)).frame hf5 (by
    rintro k rfl
    have := Hdl.out
    exact ⟨by omega, by omega, _, hA4, by simp [kindOf]⟩)
  have Hfin := Lib.hid (show StepsVal w5 w.heap.size (.slice sa sm sc) r.steps ∧ DiskAt w5 db bb d.count ∧ Fr (· = db) w w5 from ⟨hsv5, hd5, hF⟩)
  clear hsv' hszs hj3 hA3 hlt3 hj4 hA4 hB4 hf13 hF hsv5 hd5 hsv hf2 hf3 hd2 hg hgc hcv hf5
  have hcv := cellv w5
  go_wp2_with fail
  refine bodyPost_ret (results_row_tmp rfl _ _ w.heap.size 91 (rcells r.kind r.epoch r.index r.saga r.reply (.slice sa sm sc)) (0, 0) _ rfl hA5 Tryz.underlying91 rfl Tryz.info91s) rfl ?_
  exact ⟨_, rfl, Hfin.out⟩
end Go.Proofs.YtkafmfdipmhleaaGreatDoor

namespace Go.Proofs.YtkafmfdipmhleaaGreatDoor
open Go.RowKit
theorem Tryz.info3z : (Tryz.prog.info? 3).map (fun i => (i.zero, i.size, i.bytes)) = some (some (.int .i64 0), 1, 8) := by kernel_rfl
end Go.Proofs.YtkafmfdipmhleaaGreatDoor

namespace Go.Proofs.YtkafmfdipmhleaaGreatDoor
open Go.RowKit Go.Maps
theorem sfmt_ret {w w2 : World} {db bb ep : Nat} {d : DiskM} {e : Ending} (he : sFmtPost w db bb d ep e w2) : ∃ v, e = .returned v := by
  unfold sFmtPost at he
  split at he
  · exact ⟨_, he.1⟩
  · obtain ⟨v, h, _⟩ := he; exact ⟨v, h⟩
set_option maxHeartbeats 1000000 in
theorem pFormat_calls {w : World} {db bb : Nat} {d : DiskM} (h : DiskAt w db bb d) (hq : d.quiet) (hp : d.pend = none) (r : RecM) (ok : Bool) (hpm : parseM (d.look 0) = some (r, ok)) :
    Calls Tryz.prog 39 #[.pointer (some ⟨db, 0, none⟩)] w (sFmtPost w db bb d (nextEpoch r ok)) := by
  have HF := Lib.hid (sFormat_calls h hq hp r ok hpm)
  clear h hq hp hpm
  go_enter Tryz.func39, Tryz.ntmps39
  go_wp2_with (first
    | (go_at_call 61; refine Calls.mono HF.out ?_; rintro e w2 he; obtain ⟨v, rfl⟩ := sfmt_ret he)
    | fail)
  go_ret
  exact he
end Go.Proofs.YtkafmfdipmhleaaGreatDoor

namespace Go.Proofs.YtkafmfdipmhleaaGreatDoor
open Go.RowKit Go.Maps
def i64 (c : Int) : Prop := -9223372036854775808 ≤ c ∧ c ≤ 9223372036854775807
def pickM (c n : Int) : Int := (if c < 0 then -(c + 1) else c) % n
theorem pickM_range (c n : Int) (hn : 0 < n) : 0 ≤ pickM c n ∧ pickM c n < n := ⟨Int.emod_nonneg _ (by omega), Int.emod_lt_of_pos _ hn⟩
theorem IntsAt.new {w w' : World} {v : Value} {l : List Int} (h : IntsAt w v l) (hf : New w w') : IntsAt w' v l := h.keep (fun _ _ ho _ => hf.get ho (fun f => f))
theorem IntsAt.shape {w : World} {v : Value} {l : List Int} (h : IntsAt w v l) : ∃ a c, v = .slice a l.length c := by
  rcases h with ⟨rfl, a, c, e⟩ | ⟨b, off, cap, c, e, _⟩
  · exact ⟨a, c, e⟩
  · exact ⟨_, _, e⟩
theorem IntsAt.at {w : World} {a : Option Addr} {m c : Nat} {l : List Int} (h : IntsAt w (.slice a m c) l) (k : Nat) (x : Int) (hx : l[k]? = some x) : ∃ b off, a = some ⟨b, off, none⟩ ∧ ∀ w', New w w' → w'.cell? ⟨b, off + k, none⟩ = some (.int .i64 x) := by
  rcases h with ⟨rfl, _⟩ | ⟨b, off, cap, cc, e, h1, h2⟩
  · simp at hx
  · simp only [Value.slice.injEq] at e
    refine ⟨b, off, e.1, fun w' hf => ?_⟩
    rw [cellv, hf.get h1 (fun f => f)]
    exact h2 k x hx
theorem own_ints {w : World} {B : Nat} {v : Value} {l : List Int} (h : w.ownsRow B 3 1 v l.length (l.map encZ)) : IntsAt w v l := by
  rcases h.2 with ⟨rfl, h0⟩ | ⟨g, cap, cur, hv, hg, hh, hn, _, _, htk⟩
  · exact .inl ⟨List.length_eq_zero_iff.1 h0, none, 0, rfl⟩
  · refine .inr ⟨g, 0, cap, cur, by rw [hv], hh, fun j x hx => ?_⟩
    have hj := (List.getElem?_eq_some_iff.1 hx).1
    rw [Nat.zero_add]
    have : (l.map encZ)[j]? = some (.int .i64 x) := by rw [List.getElem?_map, hx]; rfl
    rw [← htk, List.getElem?_take_of_lt (by omega)] at this
    simpa using this
theorem newP_done {w w1 : World} {iv : Value} {l : List Int} {lo : Nat} (hlo : lo ≤ w.heap.size) (hi : IntsAt w1 iv l) (hf : New w w1) (hiv : ∀ a m c, iv = .slice (some a) m c → a.block < w1.heap.size) :
    PAt (w1.alloc (.cells #[.slice none 0 0, .slice none 0 0, iv, .int .i64 0] 44)) w1.heap.size ⟨[], [], l, 0, lo⟩ :=
  ⟨.slice none 0 0, .slice none 0 0, iv, lo, heap_alloc_new w1 _, World.ownsRow_nil _ lo 48 5, World.ownsRow_nil _ lo 46 4, hi.new ((Fr.refl _ w1).alloc _), ⟨by have := hf.size; simp; omega, rfl, by have := hf.size; omega⟩, hiv⟩
end Go.Proofs.YtkafmfdipmhleaaGreatDoor

namespace Go.Proofs.YtkafmfdipmhleaaGreatDoor
open Go.RowKit Go.Maps
def SagaM.status (g : SagaM) : Array Value := #[.int .i64 g.id, .int .i64 g.st, .int .i64 g.step, .int .i64 g.steps.length, .int .i64 g.tries, .int .i64 g.due]
theorem Tryz.info38s : (Tryz.prog.info? 38).map (·.size) = some 6 := by kernel_rfl
end Go.Proofs.YtkafmfdipmhleaaGreatDoor

namespace Go.Proofs.YtkafmfdipmhleaaGreatDoor
open Go.RowKit Go.Maps Go.Shelf
attribute [local go_sem] Oper.semAt_some
/-- What a round of a loop over All keeps. -/
def KpA (n₀ : Nat) (W W' : World) : Prop := Below n₀ W W' ∧ FrK [0, 66, 39] W W'
theorem KpA.refl (n₀ : Nat) (W : World) : KpA n₀ W W := ⟨Below.refl _ _, FrK.refl _ _⟩
theorem KpA.trans {n₀ : Nat} {A B C : World} (h : KpA n₀ A B) (k : KpA n₀ B C) : KpA n₀ A C := ⟨h.1.trans k.1, h.2.trans k.2⟩
theorem grown_below {w w' : World} (h : Below w.heap.size w w') : w.grownBy w' none := ⟨h.os, h.tape, h.output, h.size, fun k hk _ => h.block k hk⟩
theorem abides_below {β : Type} {B : Nat} {J : β → World → Prop} (hJ : AbidesFrom B J) {x : β} {w w' : World} (h : J x w) (hb : Below w.heap.size w w') : J x w' :=
  hJ x w w' none h (grown_below hb) (fun r e => by cases e)
set_option maxHeartbeats 1000000 in
/-- x.All(): the receiver is boxed. -/
theorem all59 (n : Nat) (xb : Nat) (w : World) :
    CallsIn Fence.wide n Tryz.prog 59 #[.pointer (some ⟨xb, 0, none⟩)] w fun e w' => e = .returned (.func (.func 84) #[] #[.pointer (some ⟨w.heap.size, 0, none⟩)]) ∧ w' = w.alloc (.cells #[.pointer (some ⟨xb, 0, none⟩)] 28) := by
  refine callsIn_of_wp Tryz.func59 rfl trivial ?_ rfl
  simp only [Tryz.ntmps59, List.size_toArray, List.length_cons, List.length_nil, Nat.reduceAdd, Nat.reduceSub, Array.replicate_succ, Array.replicate_zero, List.push_toArray, List.append_toArray, List.nil_append, List.cons_append]
  gi_wp2
  go_ret
  exact ⟨rfl, rfl⟩
end Go.Proofs.YtkafmfdipmhleaaGreatDoor

namespace Go.Proofs.YtkafmfdipmhleaaGreatDoor
open Go.RowKit Go.Maps Go.Shelf
attribute [local go_sem] Oper.semAt_some
theorem FrK.keepsFrom {K : List Nat} {W W' : World} (h : FrK K W W') (hK : 0 ∉ K) (B : Nat) : KeepsFrom B W W' :=
  ⟨h.size, fun k o _ hk ho => h.block k o hk (by cases o <;> first | exact hK | cases ho)⟩
theorem KpA.of {n₀ : Nat} {K : List Nat} {W W' : World} (h : FrK K W W') (hK : ∀ k ∈ K, k ∈ [0, 66, 39]) (hb : Below n₀ W W') : KpA n₀ W W' := ⟨hb, h.mono hK⟩
theorem KpA.put {n₀ : Nat} {w : World} (hn : n₀ ≤ w.heap.size) (W : World) (l : Nat) (o o' : Obj) (hl : w.heap.size ≤ l) (h : W.heap[l]? = some o) (hc : o.isCells = false) (hw : o.isWalk = false) : KpA n₀ W (W.putObj l o') :=
  ⟨belowK_b hn W l o o' hl h hc hw, rfl, rfl, rfl, by simp, fun k x hx hk => by
    have hg := grownBy_putObj' W l o'
    refine (hg.block k (lt_of_hp hx) (fun e => ?_)).trans hx
    cases e
    rw [h] at hx; cases hx
    exact hk (by cases o <;> simp_all [kindOf, Obj.isCells])⟩
theorem Tryz.info38z : (Tryz.prog.info? 38).map (fun i => (i.zero, i.size, i.bytes)) = some (some (.agg #[.int .i64 0, .int .i64 0, .int .i64 0, .int .i64 0, .int .i64 0, .int .i64 0]), 6, 48) := by kernel_rfl
def stCells (l : List SagaM) : List Value := l.flatMap (fun g => g.status.toList)
theorem stCells_len (l : List SagaM) : (stCells l).length = l.length * 6 := by
  induction l with
  | nil => rfl
  | cons a l ih => simp [stCells, SagaM.status] at ih ⊢; omega
theorem stCells_snoc (l : List SagaM) (g : SagaM) : stCells (l ++ [g]) = stCells l ++ g.status.toList := by simp [stCells]
end Go.Proofs.YtkafmfdipmhleaaGreatDoor

namespace Go.Proofs.YtkafmfdipmhleaaGreatDoor
open Go.RowKit Go.Maps
def hdr : List UInt8 := padB (recBytes ⟨1, 1, 0, 0, 0, []⟩)
def zer : List UInt8 := List.replicate 128 0
theorem parse_zer : ∃ r, parseM zer = some (r, false) := by
  have hk : kindB zer = 0 := by decide
  unfold parseM
  split
  · rw [if_neg (by rw [hk]; decide)]
    exact ⟨_, by rw [hk]; rfl⟩
  · exact ⟨_, rfl⟩
/-- The disk behind a Format. -/
def DiskM.fresh (n : Nat) : DiskM := (DiskM.new n).format 1
theorem new_quiet (n : Nat) : (DiskM.new n).quiet := ⟨by simp [DiskM.new], by simp [DiskM.new]⟩
/-- An engine on a fresh disk. -/
def StM.fresh (n : Nat) (pause : Int) (p : PartM) : StM := ⟨pause, 0, [], ⟨1, 1, true⟩, (DiskM.fresh n).count.count, p⟩
end Go.Proofs.YtkafmfdipmhleaaGreatDoor

namespace Go.Proofs.YtkafmfdipmhleaaGreatDoor
open Go.RowKit Go.Maps
theorem PAt.low {w w' : World} {pb : Nat} {p : PartM} (h : PAt w pb p) (hl : Low w.heap.size w w') (hs : w.heap.size ≤ w'.heap.size) : PAt w' pb p :=
  h.keep hs (fun k _ ho _ => (hl.block k (lt_of_hp ho)).trans ho)
end Go.Proofs.YtkafmfdipmhleaaGreatDoor

namespace Go.Proofs.YtkafmfdipmhleaaGreatDoor
open Go.RowKit Go.Maps
theorem lpick_calls (w : World) (c n : Int) (hc : i64 c) (hn : 0 < n ∧ n ≤ 9223372036854775807) :
    Calls Tryz.prog 86 #[.int .i64 c, .int .i64 n] w fun e w' => e = .returned (.int .i64 (pickM c n)) ∧ w = w' := by
  unfold i64 at hc
  have hn0 : (n == 0) = false := by simp; omega
  by_cases h : c < 0
  · have h1 : wrap64 (c + 1) = c + 1 := wrap_in _ (by omega)
    have h2 : wrap64 (-(c + 1)) = -(c + 1) := wrap_in _ (by omega)
    have hm : pickM c n = (-(c + 1)) % n := by unfold pickM; rw [if_pos h]
    have h3 : (-(c + 1)).tmod n = (-(c + 1)) % n := Int.tmod_eq_emod_of_nonneg (by omega)
    have h4 := Int.emod_nonneg (-(c + 1)) (show n ≠ 0 by omega)
    have h5 := Int.emod_lt_of_pos (-(c + 1)) hn.1
    have h6 : wrap64 ((-(c + 1)) % n) = (-(c + 1)) % n := wrap_in _ (by omega)
    rw [hm]
    clear hm h4 h5
    go_enter Tryz.func86, Tryz.ntmps86
    go_wp2_with fail
    go_ret
    first
      | exact ⟨rfl, rfl⟩
      | (refine ⟨?_, rfl⟩; simp only [h1, h2, h3, h6])
  · have hm : pickM c n = c % n := by unfold pickM; rw [if_neg h]
    have h3 : c.tmod n = c % n := Int.tmod_eq_emod_of_nonneg (by omega)
    have h4 := Int.emod_nonneg c (show n ≠ 0 by omega)
    have h5 := Int.emod_lt_of_pos c hn.1
    have h6 : wrap64 (c % n) = c % n := wrap_in _ (by omega)
    rw [hm]
    clear hm h4 h5
    go_enter Tryz.func86, Tryz.ntmps86
    go_wp2_with fail
    go_ret
    first
      | exact ⟨rfl, rfl⟩
      | (refine ⟨?_, rfl⟩; simp only [h3, h6])
theorem near_calls (w : World) (c : Int) (hc : i64 c) : Calls Tryz.prog 87 #[.int .i64 c] w fun e w' => (∃ x, e = .returned (.int .i64 x)) ∧ w = w' := by
  have HP := Lib.hid (lpick_calls w c 600 hc (by omega))
  go_enter Tryz.func87, Tryz.ntmps87
  go_wp2_with (first
    | (go_at_call 86; refine Calls.mono HP.out ?_; rintro e w2 ⟨rfl, rfl⟩)
    | fail)
  go_ret
  exact ⟨⟨_, rfl⟩, rfl⟩
/-- How many blocks a disk has that is made of a number. -/
def blkM (x : Int) : Nat := if x < 0 then 0 else (x % 1000).toNat
theorem blkM_lt (x : Int) : blkM x < 1000 := by
  unfold blkM
  split
  · omega
  · have := Int.emod_lt_of_pos x (show (0 : Int) < 1000 by decide)
    have := Int.emod_nonneg x (show (1000 : Int) ≠ 0 by decide)
    omega
theorem blkM_neg {x : Int} (h : x < 0) : blkM x = 0 := by unfold blkM; rw [if_pos h]
theorem blkM_pos {x : Int} (h : ¬ x < 0) : x.tmod 1000 = (blkM x : Int) := by
  unfold blkM; rw [if_neg h, Int.tmod_eq_emod_of_nonneg (by omega)]
  have := Int.emod_nonneg x (show (1000 : Int) ≠ 0 by decide)
  omega
theorem blocks_calls (w : World) (x : Int) : Calls Tryz.prog 107 #[.int .i64 x] w fun e w' => e = .returned (.int .i64 (blkM x)) ∧ w = w' := by
  by_cases h : x < 0
  · rw [blkM_neg h]
    go_enter Tryz.func107, Tryz.ntmps107
    go_wp2_with fail
    go_ret
    exact ⟨rfl, rfl⟩
  · have hm := blkM_pos h
    have hl := blkM_lt x
    generalize blkM x = n at hm hl ⊢
    have hw : wrap64 (n : Int) = n := wrap_in _ (by omega)
    go_enter Tryz.func107, Tryz.ntmps107
    go_wp2_with fail
    go_ret
    exact ⟨rfl, rfl⟩
theorem num_calls (w : World) (x : Int) : Calls Tryz.prog 108 #[.int .i64 x] w fun e w' => e = .returned (.int .i64 x) ∧ w = w' := by
  go_enter Tryz.func108, Tryz.ntmps108
  go_wp2_with fail
  go_ret
  exact ⟨rfl, rfl⟩
set_option maxRecDepth 100000 in
set_option maxHeartbeats 1000000 in
theorem NewDisk_all (w : World) (x : Int) : Calls Tryz.prog 38 #[.int .i64 x] w fun e w' => New w w' ∧ ∃ db bb, w.heap.size ≤ db ∧ w.heap.size ≤ bb ∧ e = .returned (.pointer (some ⟨db, 0, none⟩)) ∧ DiskAt w' db bb (DiskM.new (blkM x)) := by
  obtain ⟨i, z, hi, hz, hs, hb, hzc⟩ : ∃ i z, Tryz.prog.info? 103 = some i ∧ i.zero = some z ∧ i.size = 128 ∧ i.bytes = 128 ∧ z.cells = Array.replicate 128 (.int .u8 0) := by
    have hx : (Tryz.prog.info? 103).map (fun i => (i.zero.map (·.cells), i.size, i.bytes)) = some (some (Array.replicate 128 (.int .u8 0)), 128, 128) := by kernel_rfl
    cases hi : Tryz.prog.info? 103 with
    | none => rw [hi] at hx; cases hx
    | some i =>
      rw [hi] at hx
      simp only [Option.map_some, Option.some.injEq, Prod.mk.injEq] at hx
      obtain ⟨h1, h2, h3⟩ := hx
      cases hz : i.zero with
      | none => rw [hz] at h1; cases h1
      | some z => rw [hz] at h1; exact ⟨i, z, rfl, hz, h2, h3, Option.some.inj h1⟩
  have hn := blkM_lt x
  have hrem : ∀ h : ¬ x < 0, x.tmod 1000 = (blkM x : Int) := blkM_pos
  have hneg : ∀ h : x < 0, blkM x = 0 := blkM_neg
  generalize blkM x = n at hn hrem hneg ⊢
  have hmk : ∀ w, (Instr.makeSlice 99 (.int .i64 n) (.int .i64 n)).run Tryz.prog w = .ok (.slice (some ⟨w.heap.size, 0, none⟩) n n) (w.alloc (.cells (blkCells (List.replicate n (List.replicate 128 0)) []) 103)) := by
    intro w
    have := run_make (P := Tryz.prog) w 99 103 i z Tryz.underlying99 hi hz .i64 .i64 n n (by omega) (Int.le_refl _) (by rw [hb]; omega) (by omega)
    rw [this, hs, Int.toNat_natCast, made_zero n z hzc]
  clear hi hz hs hb hzc
  generalize hBC : (blkCells (List.replicate n (List.replicate 128 0)) []) = BC at hmk
  have HBC := Lib.hid hBC
  clear hBC
  by_cases h : x < 0
  · obtain rfl := hneg h
    have hmk0 : ∀ w, (Instr.makeSlice 99 (.int .i64 0) (.int .i64 0)).run Tryz.prog w = .ok (.slice (some ⟨w.heap.size, 0, none⟩) 0 0) (w.alloc (.cells BC 103)) := hmk
    clear hrem hneg hmk
    go_enter Tryz.func38, Tryz.ntmps38
    go_wp2_with fail
    go_ret
    have h1 := heap_alloc_keep (.cells #[.slice (some ⟨w.heap.size, 0, none⟩) 0 0, .slice none 0 0, .int .i64 0, .int .i64 0, .int .i64 0, .int .i64 (-1), .int .i64 0, .int .i64 0] 102) (heap_alloc_new w (.cells BC 103))
    refine ⟨((Fr.refl _ w).alloc _).alloc _, w.heap.size + 1, w.heap.size, by omega, Nat.le_refl _, rfl, ⟨fun b hb => by obtain rfl := List.eq_of_mem_replicate hb; simp, fun p hp => by cases hp⟩, 0, [], .slice none 0 0, ?_, ?_, rfl⟩
    · have := heap_alloc_new (w.alloc (.cells BC 103)) (.cells #[.slice (some ⟨w.heap.size, 0, none⟩) 0 0, .slice none 0 0, .int .i64 0, .int .i64 0, .int .i64 0, .int .i64 (-1), .int .i64 0, .int .i64 0] 102)
      rw [sz_alloc] at this
      simpa [dkCells, DiskM.new] using this
    · rw [h1, ← HBC.out]; rfl
  · have hr := hrem h
    have hwr : wrap64 (n : Int) = n := wrap_in _ (by omega)
    clear hrem hneg
    go_enter Tryz.func38, Tryz.ntmps38
    go_wp2_with fail
    go_ret
    have h1 := heap_alloc_keep (.cells #[.slice (some ⟨w.heap.size, 0, none⟩) n n, .slice none 0 0, .int .i64 0, .int .i64 0, .int .i64 0, .int .i64 (-1), .int .i64 0, .int .i64 0] 102) (heap_alloc_new w (.cells BC 103))
    refine ⟨((Fr.refl _ w).alloc _).alloc _, w.heap.size + 1, by omega, w.heap.size, Nat.le_refl _, rfl, ⟨fun b hb => by obtain rfl := List.eq_of_mem_replicate hb; simp, fun p hp => by cases hp⟩, n, [], .slice none 0 0, ?_, ?_, rfl⟩
    · have := heap_alloc_new (w.alloc (.cells BC 103)) (.cells #[.slice (some ⟨w.heap.size, 0, none⟩) n n, .slice none 0 0, .int .i64 0, .int .i64 0, .int .i64 0, .int .i64 (-1), .int .i64 0, .int .i64 0] 102)
      rw [sz_alloc] at this
      simpa [dkCells, DiskM.new] using this
    · rw [h1, ← HBC.out]; rfl
end Go.Proofs.YtkafmfdipmhleaaGreatDoor

namespace Go.Proofs.YtkafmfdipmhleaaGreatDoor
open Go.RowKit Go.Extern.Stop Go.Stop Go.Extern
theorem Tryz.valueOf105 (t : Addr) (w : World) : (ReflectliteValue.unpack (.iface 105 (.pointer (some t)))).run Tryz.prog w
    = .ok (.agg #[.pointer (some ⟨1, 105, none⟩), .pointer (some ⟨w.heap.size, 0, none⟩), .int .u64 150]) (w.alloc (.cells #[.pointer (some t)] 105)) := by kernel_rfl
theorem Tryz.type105 (a : Addr) (w : World) : (ReflectliteValue.methodAny (ReflectliteValue.valueError "reflectlite.Value.Type" 0) (fun t _ _ _ => ReflectliteType.toType t) #[.agg #[.pointer (some ⟨1, 105, none⟩), .pointer (some a), .int .u64 150]]).run Tryz.prog w
    = .ok (.iface 176 (.agg #[.pointer (some ⟨1, 105, none⟩)])) w := by kernel_rfl
theorem Tryz.kind105 (w : World) : ((ReflectliteType.abiMethod fun t => (fun a : Nat => Value.int IntKind.u8 (a : Int)) <$> Rtype.kind t) #[.pointer (some ⟨1, 105, none⟩)]).run Tryz.prog w = .ok (.int .u8 22) w := by kernel_rfl
theorem Tryz.kind55 (w : World) : ((ReflectliteType.abiMethod fun t => (fun a : Nat => Value.int IntKind.u8 (a : Int)) <$> Rtype.kind t) #[.pointer (some ⟨1, 55, none⟩)]).run Tryz.prog w = .ok (.int .u8 2) w := by kernel_rfl
theorem rlm (z : Sem Value) (f : TypeId → Addr → Nat → Nat → Sem Value) (v : Value) :
    ReflectliteValue.method z f #[v] = (do match ← ReflectliteValue.parts v with | none => z | some (t, a, fl) => f t a fl (fl % 32)) := rfl
theorem Tryz.parts105 (a : Addr) (w : World) : (ReflectliteValue.parts (.agg #[.pointer (some ⟨1, 105, none⟩), .pointer (some a), .int .u64 150])).run Tryz.prog w = .ok (some (105, a, 150)) w := by kernel_rfl
theorem Tryz.isNil105 (a p : Addr) (W : World) (ha : W.cell? a = some (.pointer (some p))) :
    (ReflectliteValue.method (ReflectliteValue.valueError "reflectlite.Value.IsNil" 0) ReflectliteValue.isNil #[.agg #[.pointer (some ⟨1, 105, none⟩), .pointer (some a), .int .u64 150]]).run Tryz.prog W = .ok (.bool false) W := by
  rw [rlm]
  simp only [Sem.run_bind, Tryz.parts105, Result.andThen]
  simp [ReflectliteValue.isNil, loadVar, isAgg, underlying, Tryz.underlying105, ha, Result.andThen]
theorem Tryz.elem105 (w : World) : (ReflectliteType.method ReflectliteType.elem #[.agg #[.pointer (some ⟨1, 105, none⟩)]]).run Tryz.prog w = .ok (.iface 176 (.agg #[.pointer (some ⟨1, 55, none⟩)])) w := by kernel_rfl
theorem Tryz.implements55 (w : World) : (ReflectliteType.relation "Implements" ReflectliteType.implements_ #[.agg #[.pointer (some ⟨1, 55, none⟩)], .iface 176 (.agg #[.pointer (some ⟨1, 32, none⟩)])]).run Tryz.prog w = .ok (.bool true) w := by kernel_rfl
theorem Tryz.typeOf121 (v : Value) (w : World) : (ReflectliteType.typeOf #[.iface 121 v]).run Tryz.prog w = .ok (.iface 176 (.agg #[.pointer (some ⟨1, 121, none⟩)])) w := by kernel_rfl
theorem Tryz.typeOf55 (v : Value) (w : World) : (ReflectliteType.typeOf #[.iface 55 v]).run Tryz.prog w = .ok (.iface 176 (.agg #[.pointer (some ⟨1, 55, none⟩)])) w := by kernel_rfl
theorem Tryz.assignable121 (w : World) : (ReflectliteType.relation "AssignableTo" ReflectliteType.assignableTo #[.agg #[.pointer (some ⟨1, 121, none⟩)], .iface 176 (.agg #[.pointer (some ⟨1, 55, none⟩)])]).run Tryz.prog w = .ok (.bool false) w := by kernel_rfl
theorem Tryz.assignable55 (w : World) : (ReflectliteType.relation "AssignableTo" ReflectliteType.assignableTo #[.agg #[.pointer (some ⟨1, 55, none⟩)], .iface 176 (.agg #[.pointer (some ⟨1, 55, none⟩)])]).run Tryz.prog w = .ok (.bool true) w := by kernel_rfl
theorem Tryz.valueOf55 (n : Int) (w : World) : (ReflectliteValue.unpack (.iface 55 (.int .i64 n))).run Tryz.prog w
    = .ok (.agg #[.pointer (some ⟨1, 55, none⟩), .pointer (some ⟨w.heap.size, 0, none⟩), .int .u64 130]) (w.alloc (.cells #[.int .i64 n] 55)) := by kernel_rfl
theorem Tryz.elemOf105 (w : World) : (Rtype.elem? 105).run Tryz.prog w = .ok (some 55) w := by kernel_rfl
theorem Tryz.mk55 (p : Addr) (w : World) : (ReflectliteValue.mk 55 p ReflectliteValue.flagAddr).run Tryz.prog w = .ok (.agg #[.pointer (some ⟨1, 55, none⟩), .pointer (some p), .int .u64 386]) w := by kernel_rfl
theorem Tryz.elemV105 (a p : Addr) (W : World) (ha : W.cell? a = some (.pointer (some p))) :
    (ReflectliteValue.method (ReflectliteValue.valueError "reflectlite.Value.Elem" 0) ReflectliteValue.elem #[.agg #[.pointer (some ⟨1, 105, none⟩), .pointer (some a), .int .u64 150]]).run Tryz.prog W
      = .ok (.agg #[.pointer (some ⟨1, 55, none⟩), .pointer (some p), .int .u64 386]) W := by
  rw [rlm]
  simp only [Sem.run_bind, Tryz.parts105, Result.andThen]
  simp [ReflectliteValue.elem, loadVar, isAgg, underlying, Tryz.underlying105, ha, Result.andThen, Tryz.elemOf105, Tryz.mk55]
theorem rls (v x : Value) : ReflectliteValue.set #[v, x] = (do
    let (some (dst, a, fl), some (src, b, _)) := (← ReflectliteValue.parts v, ← ReflectliteValue.parts x)
      | unsupported (.noEntry "extern/(internal/reflectlite.Value).Set.zeroValue")
    if fl / ReflectliteValue.flagAddr % 2 == 0 then unsupported (.noEntry "extern/(internal/reflectlite.Value).Set.unaddressable")
    let val ← loadVar src b
    if ← Rtype.directlyAssignable dst src then storeVar dst a val
    else if ← Rtype.implements dst src then
      if (← Rtype.kind src) == 20 then
        match val with
        | .nilIface => unsupported (.noEntry "extern/reflectlite: a nil value of one interface type handed on as a value of another")
        | _ => storeVar dst a val
      else storeVar dst a (.iface src val)
    else panicString ("reflectlite.Set: value of type " ++ (← Rtype.spelt src) ++ " is not assignable to type " ++ (← Rtype.spelt dst))
    pure (.tuple #[])) := rfl
theorem Tryz.parts55a (a : Addr) (w : World) : (ReflectliteValue.parts (.agg #[.pointer (some ⟨1, 55, none⟩), .pointer (some a), .int .u64 386])).run Tryz.prog w = .ok (some (55, a, 386)) w := by kernel_rfl
theorem Tryz.parts55 (a : Addr) (w : World) : (ReflectliteValue.parts (.agg #[.pointer (some ⟨1, 55, none⟩), .pointer (some a), .int .u64 130])).run Tryz.prog w = .ok (some (55, a, 130)) w := by kernel_rfl
theorem Tryz.direct55 (w : World) : (Rtype.directlyAssignable 55 55).run Tryz.prog w = .ok true w := by kernel_rfl
theorem Tryz.set55 (ta b : Addr) (n : Int) (old : Value) (W : World) (hb : W.cell? b = some (.int .i64 n)) (ht : W.cell? ta = some old) (hf : W.frozen? ta = false) :
    (ReflectliteValue.set #[.agg #[.pointer (some ⟨1, 55, none⟩), .pointer (some ta), .int .u64 386], .agg #[.pointer (some ⟨1, 55, none⟩), .pointer (some b), .int .u64 130]]).run Tryz.prog W
      = .ok (.tuple #[]) (W.setCell ta (.int .i64 n)) := by
  rw [rls]
  simp only [Sem.run_bind, Tryz.parts55a, Tryz.parts55, Result.andThen]
  simp [ReflectliteValue.flagAddr, loadVar, isAgg, underlying, Tryz.underlying55, hb, Result.andThen, Tryz.direct55, storeVar, Value.cells, storeCells, Addr.add]
  rw [run_store Tryz.prog W ta _ _ (by rfl)]
  simp [ht, hf]
end Go.Proofs.YtkafmfdipmhleaaGreatDoor

namespace Go.Proofs.YtkafmfdipmhleaaGreatDoor
open Go.RowKit Go.Extern.Stop Go.Stop Go.Extern
theorem Tryz.noAs (v : Value) (xT : TypeId) (w : World) : (Instr.typeAssert (.iface 121 v) xT 181 true).run Tryz.prog w = .ok (.tuple #[.nilIface, .bool false]) w := run_typeAssert_lacksB Tryz.underlying181 (by kernel_rfl) (by kernel_rfl) v xT w
theorem Tryz.isUnwrap (v : Value) (xT : TypeId) (w : World) : (Instr.typeAssert (.iface 121 v) xT 184 true).run Tryz.prog w = .ok (.tuple #[.iface 121 v, .bool true]) w := run_typeAssert_hasB Tryz.underlying184 (by kernel_rfl) v xT w
set_option maxHeartbeats 4000000 in
set_option maxRecDepth 100000 in
/-- errors.As of a fault that wraps a number. -/
theorem as_fault (fb t : Nat) (op : ByteArray) (n : Int) (old : Value) (w : World) (hg : w.cell? ⟨0, 0, none⟩ = some (.iface 176 (.agg #[.pointer (some ⟨1, 32, none⟩)]))) (hfb : w.heap[fb]? = some (.cells (faultCells op n) 123 (0, 0))) (ht : w.heap[t]? = some (.cells #[old] 55 (0, 0))) :
    Calls Tryz.prog 56 #[.iface 121 (.pointer (some ⟨fb, 0, none⟩)), .iface 105 (.pointer (some ⟨t, 0, none⟩))] w fun ev w' => ev = .returned (.bool true) ∧ Fr (· = t) w w' ∧ w'.heap[t]? = some (.cells #[.int .i64 n] 55 (0, 0)) := by
  have h75 := @run_callFunc_extern Tryz.prog 75 _ (fun args => ReflectliteValue.unpack (args.getD 0 (.tuple #[]))) Tryz.func75 (by kernel_rfl) (by kernel_rfl) (by kernel_rfl) (by kernel_rfl)
  have h76 := @run_callFunc_extern Tryz.prog 76 _ (ReflectliteValue.methodAny (ReflectliteValue.valueError "reflectlite.Value.Type" 0) (fun t _ _ _ => ReflectliteType.toType t)) Tryz.func76 (by kernel_rfl) (by kernel_rfl) (by kernel_rfl) (by kernel_rfl)
  have h77 := @run_callFunc_extern Tryz.prog 77 _ (ReflectliteValue.method (ReflectliteValue.valueError "reflectlite.Value.IsNil" 0) ReflectliteValue.isNil) Tryz.func77 (by kernel_rfl) (by kernel_rfl) (by kernel_rfl) (by kernel_rfl)
  have h174 := @run_callFunc_extern Tryz.prog 174 _ (ReflectliteType.abiMethod fun t => do pure (.int .u8 (← Rtype.kind t))) Tryz.func174 (by kernel_rfl) (by kernel_rfl) (by kernel_rfl) (by kernel_rfl)
  have h192 := @run_callFunc_extern Tryz.prog 192 _ (ReflectliteType.method ReflectliteType.elem) Tryz.func192 (by kernel_rfl) (by kernel_rfl) (by kernel_rfl) (by kernel_rfl)
  have h193 := @run_callFunc_extern Tryz.prog 193 _ (ReflectliteType.relation "Implements" ReflectliteType.implements_) Tryz.func193 (by kernel_rfl) (by kernel_rfl) (by kernel_rfl) (by kernel_rfl)
  have h100 := @run_callFunc_extern Tryz.prog 100 _ ReflectliteType.typeOf Tryz.func100 (by kernel_rfl) (by kernel_rfl) (by kernel_rfl) (by kernel_rfl)
  have h190 := @run_callFunc_extern Tryz.prog 190 _ (ReflectliteType.relation "AssignableTo" ReflectliteType.assignableTo) Tryz.func190 (by kernel_rfl) (by kernel_rfl) (by kernel_rfl) (by kernel_rfl)
  have h101 := @run_callFunc_extern Tryz.prog 101 _ (ReflectliteValue.method (ReflectliteValue.valueError "reflectlite.Value.Elem" 0) ReflectliteValue.elem) Tryz.func101 (by kernel_rfl) (by kernel_rfl) (by kernel_rfl) (by kernel_rfl)
  have h102 := @run_callFunc_extern Tryz.prog 102 _ ReflectliteValue.set Tryz.func102 (by kernel_rfl) (by kernel_rfl) (by kernel_rfl) (by kernel_rfl)
  have f75 := Tryz.valueOf105
  have f76 := Tryz.type105
  have htl := lt_of_hp ht
  have hfl := lt_of_hp hfb
  have h0l : 0 < w.heap.size := by omega
  have k105 := Tryz.kind105
  have k55 := Tryz.kind55
  have e105 := Tryz.elem105
  have i55 := Tryz.implements55
  have t121 := Tryz.typeOf121
  have t55 := Tryz.typeOf55
  have a121 := Tryz.assignable121
  have a55 := Tryz.assignable55
  have v55 := Tryz.valueOf55
  have hs1 : (w.alloc (.cells #[.pointer (some ⟨t, 0, none⟩)] 105)).heap.size = w.heap.size + 1 := sz_alloc _ _
  have hs2 : ((w.alloc (.cells #[.pointer (some ⟨t, 0, none⟩)] 105)).alloc (.cells #[.pointer (some ⟨1, 105, none⟩), .pointer (some ⟨w.heap.size, 0, none⟩), .int .u64 150] 143)).heap.size = w.heap.size + 1 + 1 := by rw [sz_alloc, sz_alloc]
  have hs3 : (((w.alloc (.cells #[.pointer (some ⟨t, 0, none⟩)] 105)).alloc (.cells #[.pointer (some ⟨1, 105, none⟩), .pointer (some ⟨w.heap.size, 0, none⟩), .int .u64 150] 143)).alloc (.cells #[.pointer (some ⟨1, 105, none⟩), .pointer (some ⟨w.heap.size, 0, none⟩), .int .u64 150] 143)).heap.size = w.heap.size + 1 + 1 + 1 := by rw [sz_alloc, sz_alloc, sz_alloc]
  have p2 : ((w.alloc (.cells #[.pointer (some ⟨t, 0, none⟩)] 105)).alloc (.cells #[.pointer (some ⟨1, 105, none⟩), .pointer (some ⟨w.heap.size, 0, none⟩), .int .u64 150] 143)).heap[w.heap.size]? = some (.cells #[.pointer (some ⟨t, 0, none⟩)] 105 (0, 0)) := heap_alloc_keep _ (heap_alloc_new w _)
  have p3 : (((w.alloc (.cells #[.pointer (some ⟨t, 0, none⟩)] 105)).alloc (.cells #[.pointer (some ⟨1, 105, none⟩), .pointer (some ⟨w.heap.size, 0, none⟩), .int .u64 150] 143)).alloc (.cells #[.pointer (some ⟨1, 105, none⟩), .pointer (some ⟨w.heap.size, 0, none⟩), .int .u64 150] 143)).heap[w.heap.size]? = some (.cells #[.pointer (some ⟨t, 0, none⟩)] 105 (0, 0)) := heap_alloc_keep _ p2
  have n77 := Tryz.isNil105 ⟨w.heap.size, 0, none⟩ ⟨t, 0, none⟩ ((w.alloc (.cells #[.pointer (some ⟨t, 0, none⟩)] 105)).alloc (.cells #[.pointer (some ⟨1, 105, none⟩), .pointer (some ⟨w.heap.size, 0, none⟩), .int .u64 150] 143)) (by rw [cellv, p2]; rfl)
  have el := Tryz.elemV105 ⟨w.heap.size, 0, none⟩ ⟨t, 0, none⟩ (((w.alloc (.cells #[.pointer (some ⟨t, 0, none⟩)] 105)).alloc (.cells #[.pointer (some ⟨1, 105, none⟩), .pointer (some ⟨w.heap.size, 0, none⟩), .int .u64 150] 143)).alloc (.cells #[.pointer (some ⟨1, 105, none⟩), .pointer (some ⟨w.heap.size, 0, none⟩), .int .u64 150] 143)) (by rw [cellv, p3]; rfl)
  have b4 : ((((w.alloc (.cells #[.pointer (some ⟨t, 0, none⟩)] 105)).alloc (.cells #[.pointer (some ⟨1, 105, none⟩), .pointer (some ⟨w.heap.size, 0, none⟩), .int .u64 150] 143)).alloc (.cells #[.pointer (some ⟨1, 105, none⟩), .pointer (some ⟨w.heap.size, 0, none⟩), .int .u64 150] 143)).alloc (.cells #[.int .i64 n] 55)).heap[w.heap.size + 1 + 1 + 1]? = some (.cells #[.int .i64 n] 55 (0, 0)) := by rw [← hs3]; exact heap_alloc_new _ _
  have t4 : ((((w.alloc (.cells #[.pointer (some ⟨t, 0, none⟩)] 105)).alloc (.cells #[.pointer (some ⟨1, 105, none⟩), .pointer (some ⟨w.heap.size, 0, none⟩), .int .u64 150] 143)).alloc (.cells #[.pointer (some ⟨1, 105, none⟩), .pointer (some ⟨w.heap.size, 0, none⟩), .int .u64 150] 143)).alloc (.cells #[.int .i64 n] 55)).heap[t]? = some (.cells #[old] 55 (0, 0)) := heap_alloc_keep _ (heap_alloc_keep _ (heap_alloc_keep _ (heap_alloc_keep _ ht)))
  have st := Tryz.set55 ⟨t, 0, none⟩ ⟨w.heap.size + 1 + 1 + 1, 0, none⟩ n old ((((w.alloc (.cells #[.pointer (some ⟨t, 0, none⟩)] 105)).alloc (.cells #[.pointer (some ⟨1, 105, none⟩), .pointer (some ⟨w.heap.size, 0, none⟩), .int .u64 150] 143)).alloc (.cells #[.pointer (some ⟨1, 105, none⟩), .pointer (some ⟨w.heap.size, 0, none⟩), .int .u64 150] 143)).alloc (.cells #[.int .i64 n] 55)) (by rw [cellv, b4]; rfl) (by rw [cellv, t4]; rfl) (by rw [frozv, t4]; rfl)
  have hg2 : ((w.alloc (.cells #[.pointer (some ⟨t, 0, none⟩)] 105)).alloc (.cells #[.pointer (some ⟨1, 105, none⟩), .pointer (some ⟨w.heap.size, 0, none⟩), .int .u64 150] 143)).cell? ⟨0, 0, none⟩ = some (.iface 176 (.agg #[.pointer (some ⟨1, 32, none⟩)])) := by
    rw [World.cell?_alloc_lt _ _ ⟨0, 0, none⟩ (by simp), World.cell?_alloc_lt _ _ ⟨0, 0, none⟩ h0l]; exact hg
  have hf3 : (((w.alloc (.cells #[.pointer (some ⟨t, 0, none⟩)] 105)).alloc (.cells #[.pointer (some ⟨1, 105, none⟩), .pointer (some ⟨w.heap.size, 0, none⟩), .int .u64 150] 143)).alloc (.cells #[.pointer (some ⟨1, 105, none⟩), .pointer (some ⟨w.heap.size, 0, none⟩), .int .u64 150] 143)).cell? ⟨fb, 1, none⟩ = some (.iface 55 (.int .i64 n)) := by
    rw [cellv, heap_alloc_keep _ (heap_alloc_keep _ (heap_alloc_keep _ hfb))]; rfl
  have Ht := Lib.hid ht
  have Ht4 := Lib.hid t4
  have Htl := Lib.hid htl
  have HF : Hid (Fr (· = t) w ((((w.alloc (.cells #[.pointer (some ⟨t, 0, none⟩)] 105)).alloc (.cells #[.pointer (some ⟨1, 105, none⟩), .pointer (some ⟨w.heap.size, 0, none⟩), .int .u64 150] 143)).alloc (.cells #[.pointer (some ⟨1, 105, none⟩), .pointer (some ⟨w.heap.size, 0, none⟩), .int .u64 150] 143)).alloc (.cells #[.int .i64 n] 55))) := ((((Fr.refl _ w).alloc _).alloc _).alloc _).alloc _
  clear hfb ht htl hfl p2 p3 b4 t4 hg h0l hs1 hs2 hs3
  go_enter Tryz.func56, Tryz.ntmps56
  go_wp2
  refine wp_loop_rounds 2 ?_
  rw [rounds_succ]
  have ta1 := Tryz.noAs
  have ta2 := Tryz.isUnwrap
  go_wp2
  simp only [Array.getD_eq_getD_getElem?]
  rw [rounds_succ]
  go_wp2
  go_ret
  refine ⟨rfl, HF.out.trans (Fr.one t _ 0 _), ?_⟩
  rw [hp_setCell, if_pos rfl, Ht4.out]; rfl
end Go.Proofs.YtkafmfdipmhleaaGreatDoor

namespace Go.Proofs.YtkafmfdipmhleaaGreatDoor
open Go.RowKit
/-- The laid variable of package errors. -/
def Handle (w : World) : Prop := w.cell? ⟨0, 0, none⟩ = some (.iface 176 (.agg #[.pointer (some ⟨1, 32, none⟩)]))
end Go.Proofs.YtkafmfdipmhleaaGreatDoor

namespace Go.Proofs.YtkafmfdipmhleaaGreatDoor
open Go.RowKit
theorem Handle.fr {S : Nat → Prop} {w w' : World} (h : Handle w) (hf : Fr S w w') (h0 : ¬ S 0) : Handle w' := by
  unfold Handle at h ⊢
  have hlt := World.block_lt_of_cell? w _ h
  rw [← h]; exact World.cell?_of_block (hf.block 0 hlt h0)
theorem Handle.new {w w' : World} (h : Handle w) (hf : New w w') : Handle w' := by
  unfold Handle at h ⊢
  have hlt := World.block_lt_of_cell? w _ h
  rw [← h]; exact World.cell?_of_block (hf.block 0 hlt (fun f => f))
end Go.Proofs.YtkafmfdipmhleaaGreatDoor

namespace Go.Proofs.YtkafmfdipmhleaaGreatDoor
open Go.RowKit
/-- A block made sure of, on whatever disk: the disk behind it; was no error told? -/
def DiskM.sureG (d : DiskM) (i : Nat) (l : List UInt8) : DiskM × Bool :=
  if d.bad then (d.count, false) else if (d.put i l).bad then ((d.put i l).count, false) else (d.sure i l, true)
/-- Records made sure of, one behind the other, on whatever disk. -/
def DiskM.appendG (d : DiskM) (ep ix : Nat) : List RecM → DiskM × Bool
  | [] => (d, true)
  | r :: rs => if (d.sureG ix (recBytes (placed r ep ix))).2 then (d.sureG ix (recBytes (placed r ep ix))).1.appendG ep (ix + 1) rs else ((d.sureG ix (recBytes (placed r ep ix))).1, false)
theorem settle_len' (j : JnM) (d : DiskM) : (settleD j d).blocks.length = d.blocks.length := by
  unfold settleD; split
  · simp only [DiskM.flush, DiskM.count]; split <;> simp
  · rfl
end Go.Proofs.YtkafmfdipmhleaaGreatDoor

namespace Go.Proofs.YtkafmfdipmhleaaGreatDoor
open Go.RowKit Go.Maps
/-- What an Append makes of a disk; was no error told? -/
def DiskM.appendA (d : DiskM) (j : JnM) (rs : List RecM) : DiskM × Bool := if j.fresh = true ∧ d.bad = true then (d.count, false) else (settleD j d).appendG j.epoch j.en rs
end Go.Proofs.YtkafmfdipmhleaaGreatDoor

namespace Go.Proofs.YtkafmfdipmhleaaGreatDoor
open Go.RowKit Go.Maps
/-- What an engine that has not failed keeps, whatever its disk tells. -/
structure StM.inv0 (s : StM) : Prop where
  pend : s.j.fresh = false → s.d.pend = none
  epoch : s.j.epoch < 2 ^ 32
  ok : ∀ g ∈ s.sagas, g.ok
  ord : s.sagas.Pairwise (fun a b => a.id < b.id)
  size : s.d.blocks.length ≤ 1000
theorem StM.inv.zero {s : StM} (h : s.inv) : s.inv0 := ⟨fun _ => h.pend, h.epoch, h.ok, h.ord, h.size⟩
end Go.Proofs.YtkafmfdipmhleaaGreatDoor

namespace Go.Proofs.YtkafmfdipmhleaaGreatDoor
open Go.RowKit Go.Maps
/-- A block with one sector of another. -/
def secB (old new : List UInt8) (s : Nat) : List UInt8 := old.take (s * 32) ++ (new.drop (s * 32)).take 32 ++ old.drop (s * 32 + 32)
end Go.Proofs.YtkafmfdipmhleaaGreatDoor

namespace Go.Proofs.YtkafmfdipmhleaaGreatDoor
open Go.RowKit Go.Maps
/-- Does the sector survive? -/
def bitK (k : Int) (s : Nat) : Bool := (bits BinOp.and IntKind.i64 (k / 2 ^ s) 1 == 1)
/-- A block behind a failure of power: of a write those sectors that k names. -/
def tearB (old new : List UInt8) (k : Int) : Nat → List UInt8
  | 0 => old
  | s + 1 => if bitK k s then secB (tearB old new k s) new s else tearB old new k s
def DiskM.after (d : DiskM) (l : List Int) : DiskM :=
  ⟨(match d.pend, l with | some (i, b), k :: _ => d.blocks.set i (tearB (d.blocks.getD i []) b k 4) | _, _ => d.blocks), none, 0, 0, 0, -1, 0, 0⟩
end Go.Proofs.YtkafmfdipmhleaaGreatDoor
