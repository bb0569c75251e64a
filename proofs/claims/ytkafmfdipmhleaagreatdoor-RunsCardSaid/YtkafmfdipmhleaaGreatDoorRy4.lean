/-
  What is proved: contracts of the engine's small calls: fail, fits, Format, write. the engine asks its partner. maps.Keys and slices.Sorted at this program's map of sagas. (The layings are what the kit's tool lay-plain writes.) the engine's map of sagas: look-ups, a new saga, its keys in order; the engine's write. the engine's state, in the heap and as a model; the drawn region of Tick. contracts of Same, Clone, New, Whole. the contract of Whole. one saga's turn in a Tick. a saga's turn keeps the engine's state in order. (No program in sight.) one saga ends, as often as it is ticked. (No program in sight.) the contract of a Tick, on a disk that tells no errors. what a Submit that is taken makes of the engine's state. (No program in sight.) the contract of a Submit that is taken, on a disk that tells no errors.
-/
import Derived.Test.YtkafmfdipmhleaaGreatDoorRy3
import Derived.Shelf.SlIterI.Nil
import Derived.Shelf.SortM.Plain
import Derived.Shelf.SortM.SortNone
import Derived.Ground.GgzProg
import Derived.Ground.SlgmProg
import Derived.Test.YtkafmfdipmhleaaGreatDoorProg
import Derived.Maps.OwnSet
import Derived.Maps.Views
import Derived.Maps.RangeWalk
import Derived.Lib.SliceRun
import Derived.Laws.StructEq
import Derived.Deep.CutBlock

namespace Go.Proofs.YtkafmfdipmhleaaGreatDoor
open Go.RowKit
/-- A fault of an operation, in a new block. -/
def FaultAt (w : World) (w' : World) (op : ByteArray) (n : Int) (v : Value) : Prop := ∃ fb, w.heap.size ≤ fb ∧ v = .iface 121 (.pointer (some ⟨fb, 0, none⟩)) ∧ w'.heap[fb]? = some (.cells (faultCells op n) 123 (0, 0))
def FailPost (w : World) (op : ByteArray) (n : Int) (e : Ending) (w' : World) : Prop := ∃ v, e = .returned v ∧ FaultAt w w' op n v ∧ New w w'
theorem fail_calls (w : World) (op : ByteArray) (n : Int) : Calls Tryz.prog 40 #[.string op, .int .i64 n] w (FailPost w op n) := by
  go_enter Tryz.func40, Tryz.ntmps40
  go_wp2
  go_ret
  exact ⟨_, rfl, ⟨w.heap.size, Nat.le_refl _, rfl, heap_alloc_new w _⟩, (Fr.refl _ _).alloc _⟩
def DiskM.fits (d : DiskM) : Bool := decide (8 ≤ d.blocks.length) && decide (d.blocks.length ≤ 400)
theorem fits_calls {w : World} {db bb : Nat} {d : DiskM} (h : DiskAt w db bb d) :
    Calls Tryz.prog 79 #[.iface 27 (.pointer (some ⟨db, 0, none⟩))] w fun e w' => e = .returned (.bool d.fits) ∧ w = w' := by
  have HB := Lib.hid (Blocks_calls h)
  have Hf : Hid (d.fits = (decide (8 ≤ d.blocks.length) && decide (d.blocks.length ≤ 400))) := rfl
  clear h
  generalize d.blocks.length = n at HB Hf
  by_cases h1 : (8 : Int) ≤ n
  · have h1' : 8 ≤ n := by omega
    by_cases h2 : (n : Int) ≤ 400
    · have h2' : n ≤ 400 := by omega
      go_enter Tryz.func79, Tryz.ntmps79
      go_wp2_with (first
        | (go_at_call 177; refine Calls.mono HB.out ?_; rintro e w2 ⟨rfl, rfl⟩)
        | fail)
      go_ret
      exact ⟨by rw [Hf.out]; simp [h1', h2'], rfl⟩
    · have h2' : ¬ n ≤ 400 := by omega
      go_enter Tryz.func79, Tryz.ntmps79
      go_wp2_with (first
        | (go_at_call 177; refine Calls.mono HB.out ?_; rintro e w2 ⟨rfl, rfl⟩)
        | fail)
      go_ret
      exact ⟨by rw [Hf.out]; simp [h2']; omega, rfl⟩
  · have h1' : ¬ 8 ≤ n := by omega
    go_enter Tryz.func79, Tryz.ntmps79
    go_wp2_with (first
      | (go_at_call 177; refine Calls.mono HB.out ?_; rintro e w2 ⟨rfl, rfl⟩)
      | fail)
    go_ret
    exact ⟨by rw [Hf.out]; simp; intros; omega, rfl⟩
def fmtStr : ByteArray := ⟨#[102, 111, 114, 109, 97, 116]⟩
/-- Format of a disk that tells no errors and on which nothing is pending. -/
def sFmtPost (w : World) (db bb : Nat) (d : DiskM) (ep : Nat) (e : Ending) (w' : World) : Prop :=
  if d.fits then FmtPost w db bb d ep e w' else FailPost w fmtStr 7 e w'
theorem sFormat_calls {w : World} {db bb : Nat} {d : DiskM} (h : DiskAt w db bb d) (hq : d.quiet) (hp : d.pend = none) (r : RecM) (ok : Bool) (hpm : parseM (d.look 0) = some (r, ok)) :
    Calls Tryz.prog 61 #[.iface 27 (.pointer (some ⟨db, 0, none⟩))] w (sFmtPost w db bb d (nextEpoch r ok)) := by
  have HF := Lib.hid (fits_calls h)
  have HJ := Lib.hid (fun h0 => jFormat_calls h hq hp h0 r ok hpm)
  have H0 : Hid (d.fits = true → 0 < d.blocks.length) := by intro h; simp [DiskM.fits] at h; omega
  clear h hq hp hpm
  cases hf : d.fits
  · have Hp : Hid (sFmtPost w db bb d (nextEpoch r ok) = FailPost w fmtStr 7) := by show _ = _; funext e w'; simp [sFmtPost, hf]
    rw [Hp.out]
    rw [hf] at HF
    clear hf
    go_enter Tryz.func61, Tryz.ntmps61
    go_wp2_with (first
      | (go_at_call 79; refine Calls.mono HF.out ?_; rintro e w2 ⟨rfl, rfl⟩)
      | (go_at_call 40; refine Calls.mono (fail_calls w fmtStr 7) ?_; rintro e w2 ⟨v, rfl, hv, hf2⟩)
      | fail)
    go_ret
    exact ⟨v, rfl, hv, hf2⟩
  · have Hp : Hid (sFmtPost w db bb d (nextEpoch r ok) = FmtPost w db bb d (nextEpoch r ok)) := by show _ = _; funext e w'; simp [sFmtPost, hf]
    rw [Hp.out]
    have HJ := Lib.hid (HJ.out (H0.out hf))
    rw [hf] at HF
    clear hf
    go_enter Tryz.func61, Tryz.ntmps61
    go_wp2_with (first
      | (go_at_call 79; refine Calls.mono HF.out ?_; rintro e w2 ⟨rfl, rfl⟩)
      | (go_at_call 92; refine Calls.mono HJ.out ?_; rintro e w2 ⟨rfl, hf2, hd2⟩)
      | fail)
    go_ret
    exact ⟨rfl, hf2, hd2⟩
end Go.Proofs.YtkafmfdipmhleaaGreatDoor

namespace Go.Proofs.YtkafmfdipmhleaaGreatDoor
open Go.RowKit
/-- Of the blocks that were there only those of the kinds K, or of S, may have turned. -/
structure FrKS (K : List Nat) (S : Nat → Prop) (w w' : World) : Prop where
  os : w'.os = w.os
  tape : w'.tape = w.tape
  output : w'.output = w.output
  size : w.heap.size ≤ w'.heap.size
  block : ∀ (k : Nat) (o : Obj), w.heap[k]? = some o → kindOf o ∉ K → ¬ S k → w'.heap[k]? = some o
theorem FrK.set {K : List Nat} {w w' : World} (h : FrK K w w') (b o : Nat) (v : Value) : FrKS K (· = b) w (w'.setCell ⟨b, o, none⟩ v) :=
  ⟨h.os, h.tape, h.output, Nat.le_trans h.size (by simp), fun k x hk hK hS => by rw [hp_setCell, if_neg hS]; exact h.block k x hk hK⟩
noncomputable def askR2 : Code := ((Tryz.f51.body).bind (regionAt 2)).getD .skip
/-- The engine's own cells. -/
def egCells (jb mb : Nat) (pause : Int) (cv : Value) (clock : Int) (failed : Bool) : Array Value := #[.pointer (some ⟨jb, 0, none⟩), .map (some mb), .int .i64 pause, cv, .int .i64 clock, .bool failed]
def askFn (pb : Nat) : Value := .func (.func 58) #[.pointer (some ⟨pb, 0, none⟩)] #[]
theorem idle72 (p : Value) (w : World) : CallsD Tryz.prog 72 #[p] .returning w fun e u' w' => e = .returned (.tuple #[]) ∧ u' = .returning ∧ w' = w := by
  refine callsD_of_wpS Tryz.func72 rfl fun c₀ cs hu => ?_
  apply wpS_seq
  apply wpS_region
  simp [wpOpsS, go_sem, recoverD, hu, Tryz.ntmps72, Exit.thenS]
  refine wpS_cond (t := false) (by simp [Act.eval, Array.replicate]) ?_
  simp only [Bool.false_eq_true, if_false]
  refine wpS_of_wp (wp_skip ?_)
  cases c₀
  simp_all [bodyPostS, results, Tryz.results72]
end Go.Proofs.YtkafmfdipmhleaaGreatDoor

namespace Go.Proofs.YtkafmfdipmhleaaGreatDoor
open Go.RowKit Go.Maps Go.Sort Go.Shelf
def Tryz.keysA_ren : Go.Shelf.Ren := ⟨fun | 7 => 48 | 10 => 68 | n => n, fun | 23 => 76 | 26 => 3 | 3 => 82 | 28 => 95 | 0 => 0 | 27 => 94 | 33 => 97 | 4 => 4 | n => n, fun | n => n⟩
theorem Tryz.keysA : Go.Proofs.SlLaysZI.n7 Tryz.prog Tryz.keysA_ren := {
  mixed := by kernel_rfl
  f7 := ⟨Tryz.f48.name, by decide, Tryz.func48.trans (congrArg some (by kernel_rfl))⟩
  f10 := ⟨Tryz.f68.name, by decide, Tryz.func68.trans (congrArg some (by kernel_rfl))⟩
  t0 := Tryz.underlying0
  a0 := Tryz.isAgg0
  z0 := Tryz.sizeOf0
  v0 := Tryz.zeroValue0
  t4 := Tryz.underlying4
  a4 := Tryz.isAgg4
  z4 := Tryz.sizeOf4
  v4 := Tryz.zeroValue4
  t23 := Tryz.underlying76
  a23 := Tryz.isAgg76
  z23 := Tryz.sizeOf76
  v23 := Tryz.zeroValue76
  t26 := Tryz.underlying3
  a26 := Tryz.isAgg3
  z26 := Tryz.sizeOf3
  v26 := Tryz.zeroValue3
  t27 := Tryz.underlying94
  a27 := Tryz.isAgg94
  z27 := Tryz.sizeOf94
  v27 := Tryz.zeroValue94
  t28 := Tryz.underlying95
  a28 := Tryz.isAgg95
  z28 := Tryz.sizeOf95
  v28 := Tryz.zeroValue95
  t33 := Tryz.underlying97
  a33 := Tryz.isAgg97
  z33 := Tryz.sizeOf97
  v33 := Tryz.zeroValue97 }
def Tryz.sortedA_ren : Go.Shelf.Ren := ⟨fun | 6 => 47 | 8 => 66 | 9 => 67 | 11 => 97 | 13 => 99 | 12 => 98 | 23 => 129 | 24 => 130 | 14 => 120 | 15 => 121 | 16 => 122 | 17 => 123 | 18 => 124 | 19 => 125 | 20 => 126 | 21 => 127 | 22 => 128 | 25 => 150 | 26 => 151 | 27 => 152 | 28 => 153 | 29 => 154 | 30 => 155 | 31 => 159 | n => n, fun | 26 => 3 | 28 => 95 | 24 => 22 | 0 => 0 | 3 => 3 | 37 => 174 | 48 => 89 | 50 => 215 | 4 => 4 | 40 => 207 | 39 => 206 | 45 => 211 | 5 => 5 | 9 => 9 | 51 => 239 | 55 => 243 | 57 => 246 | 58 => 247 | 33 => 97 | n => n, fun | n => n⟩
theorem Tryz.sortedA : Go.Proofs.SlLaysZI.n6 Tryz.prog Tryz.sortedA_ren := {
  mixed := by kernel_rfl
  f6 := ⟨Tryz.f47.name, by decide, Tryz.func47.trans (congrArg some (by kernel_rfl))⟩
  f8 := ⟨Tryz.f66.name, by decide, Tryz.func66.trans (congrArg some (by kernel_rfl))⟩
  f11 := ⟨Tryz.f97.name, by decide, Tryz.func97.trans (congrArg some (by kernel_rfl))⟩
  t0 := Tryz.underlying0
  a0 := Tryz.isAgg0
  z0 := Tryz.sizeOf0
  v0 := Tryz.zeroValue0
  t24 := Tryz.underlying22
  a24 := Tryz.isAgg22
  z24 := Tryz.sizeOf22
  v24 := Tryz.zeroValue22
  t26 := Tryz.underlying3
  a26 := Tryz.isAgg3
  z26 := Tryz.sizeOf3
  v26 := Tryz.zeroValue3
  t28 := Tryz.underlying95
  a28 := Tryz.isAgg95
  z28 := Tryz.sizeOf95
  v28 := Tryz.zeroValue95
  i26 := by kernel_rfl }
def Tryz.sortA_ren : Go.Shelf.Ren := ⟨fun | 5 => 67 | 8 => 99 | 7 => 98 | 19 => 129 | 20 => 130 | 10 => 120 | 11 => 121 | 12 => 122 | 13 => 123 | 14 => 124 | 15 => 125 | 16 => 126 | 17 => 127 | 18 => 128 | 30 => 150 | 31 => 151 | 32 => 152 | 33 => 153 | 34 => 154 | 35 => 155 | 40 => 159 | n => n, fun | 23 => 22 | 25 => 3 | 3 => 3 | 32 => 174 | 22 => 22 | 0 => 0 | 44 => 89 | 46 => 215 | 4 => 4 | 36 => 207 | 35 => 206 | 41 => 211 | 5 => 5 | 9 => 9 | 53 => 239 | 57 => 243 | 63 => 246 | 64 => 247 | n => n, fun | n => n⟩
theorem Tryz.sortA : Go.Proofs.SlLaysM.n5 Tryz.prog Tryz.sortA_ren := {
  mixed := by kernel_rfl
  f5 := ⟨Tryz.f67.name, by decide, Tryz.func67.trans (congrArg some (by kernel_rfl))⟩
  f7 := ⟨Tryz.f98.name, by decide, Tryz.func98.trans (congrArg some (by kernel_rfl))⟩
  f8 := Tryz.func99.trans (congrArg some (by kernel_rfl))
  f10 := ⟨Tryz.f120.name, by decide, Tryz.func120.trans (congrArg some (by kernel_rfl))⟩
  f11 := ⟨Tryz.f121.name, by decide, Tryz.func121.trans (congrArg some (by kernel_rfl))⟩
  f12 := ⟨Tryz.f122.name, by decide, Tryz.func122.trans (congrArg some (by kernel_rfl))⟩
  f13 := ⟨Tryz.f123.name, by decide, Tryz.func123.trans (congrArg some (by kernel_rfl))⟩
  f14 := ⟨Tryz.f124.name, by decide, Tryz.func124.trans (congrArg some (by kernel_rfl))⟩
  f15 := ⟨Tryz.f125.name, by decide, Tryz.func125.trans (congrArg some (by kernel_rfl))⟩
  f16 := ⟨Tryz.f126.name, by decide, Tryz.func126.trans (congrArg some (by kernel_rfl))⟩
  f17 := ⟨Tryz.f127.name, by decide, Tryz.func127.trans (congrArg some (by kernel_rfl))⟩
  f18 := ⟨Tryz.f128.name, by decide, Tryz.func128.trans (congrArg some (by kernel_rfl))⟩
  f19 := Tryz.func129.trans (congrArg some (by kernel_rfl))
  f20 := Tryz.func130.trans (congrArg some (by kernel_rfl))
  f30 := ⟨Tryz.f150.name, by decide, Tryz.func150.trans (congrArg some (by kernel_rfl))⟩
  f31 := Tryz.func151.trans (congrArg some (by kernel_rfl))
  f32 := Tryz.func152.trans (congrArg some (by kernel_rfl))
  f33 := ⟨Tryz.f153.name, by decide, Tryz.func153.trans (congrArg some (by kernel_rfl))⟩
  f34 := ⟨Tryz.f154.name, by decide, Tryz.func154.trans (congrArg some (by kernel_rfl))⟩
  f35 := ⟨Tryz.f155.name, by decide, Tryz.func155.trans (congrArg some (by kernel_rfl))⟩
  f40 := ⟨Tryz.f159.name, by decide, Tryz.func159.trans (congrArg some (by kernel_rfl))⟩
  t0 := Tryz.underlying0
  a0 := Tryz.isAgg0
  z0 := Tryz.sizeOf0
  v0 := Tryz.zeroValue0
  t3 := Tryz.underlying3
  a3 := Tryz.isAgg3
  z3 := Tryz.sizeOf3
  v3 := Tryz.zeroValue3
  t4 := Tryz.underlying4
  a4 := Tryz.isAgg4
  z4 := Tryz.sizeOf4
  v4 := Tryz.zeroValue4
  t5 := Tryz.underlying5
  a5 := Tryz.isAgg5
  z5 := Tryz.sizeOf5
  v5 := Tryz.zeroValue5
  t9 := Tryz.underlying9
  a9 := Tryz.isAgg9
  z9 := Tryz.sizeOf9
  v9 := Tryz.zeroValue9
  t22 := Tryz.underlying22
  a22 := Tryz.isAgg22
  z22 := Tryz.sizeOf22
  v22 := Tryz.zeroValue22
  t23 := Tryz.underlying22
  a23 := Tryz.isAgg22
  z23 := Tryz.sizeOf22
  v23 := Tryz.zeroValue22
  t25 := Tryz.underlying3
  a25 := Tryz.isAgg3
  z25 := Tryz.sizeOf3
  v25 := Tryz.zeroValue3
  t32 := Tryz.underlying174
  a32 := Tryz.isAgg174
  z32 := Tryz.sizeOf174
  v32 := Tryz.zeroValue174
  t35 := Tryz.underlying206
  a35 := Tryz.isAgg206
  z35 := Tryz.sizeOf206
  v35 := Tryz.zeroValue206
  t36 := Tryz.underlying207
  a36 := Tryz.isAgg207
  z36 := Tryz.sizeOf207
  v36 := Tryz.zeroValue207
  t41 := Tryz.underlying211
  a41 := Tryz.isAgg211
  z41 := Tryz.sizeOf211
  v41 := Tryz.zeroValue211
  t44 := Tryz.underlying89
  a44 := Tryz.isAgg89
  z44 := Tryz.sizeOf89
  v44 := Tryz.zeroValue89
  t46 := Tryz.underlying215
  a46 := Tryz.isAgg215
  z46 := Tryz.sizeOf215
  v46 := Tryz.zeroValue215
  t53 := Tryz.underlying239
  a53 := Tryz.isAgg239
  z53 := Tryz.sizeOf239
  v53 := Tryz.zeroValue239
  t57 := Tryz.underlying243
  a57 := Tryz.isAgg243
  z57 := Tryz.sizeOf243
  v57 := Tryz.zeroValue243
  t63 := Tryz.underlying246
  a63 := Tryz.isAgg246
  z63 := Tryz.sizeOf246
  v63 := Tryz.zeroValue246
  t64 := Tryz.underlying247
  a64 := Tryz.isAgg247
  z64 := Tryz.sizeOf247
  v64 := Tryz.zeroValue247 }
/-- slices.Sort's two contracts at this dump, at the fence that asks nothing. -/
theorem Tryz.sortsA (m : Nat) : AnyZI.SortsIn Tryz.prog Tryz.sortedA_ren Fence.wide m :=
  ⟨fun blk off cap ss W hH hblk hsz => callsIn_wide.2 (AnyM.slices_Sort_int Tryz.sortA blk off cap ss W hH hblk hsz),
   fun p cap W => callsIn_wide.2 (AnyM.slices_Sort_int_none Tryz.sortA p cap W)⟩
/-- maps.Keys: an iterator over one new block that holds the map. -/
theorem Keys_calls (mb : Option Nat) (W : World) : Calls Tryz.prog 48 #[.map mb] W fun e w' => e = .returned (.func (.func 68) #[] #[.pointer (some ⟨W.heap.size, 0, none⟩)]) ∧ w' = W.alloc (.cells #[.map mb] 76) :=
  (callsIn_wide (n := 5)).1 (AnyZI.keys_in Tryz.keysA Fence.wide 5 trivial rfl mb W)
set_option maxHeartbeats 1000000 in
/-- slices.Sorted of the map's keys. -/
theorem Sorted_calls {H : Type} (b nn : Nat) (D0 : DataW H) (R : Value → Option (DataW H × List MemPlace)) (w : World) (hown : w.ownsMap Tryz.prog 3 R b nn D0) (hmax : Maps.size D0 ≤ maxLen) (hbytes : Maps.size D0 * 8 ≤ 140737488355328) :
    Calls Tryz.prog 47 #[.func (.func 68) #[] #[.pointer (some ⟨w.heap.size, 0, none⟩)]] (w.alloc (.cells #[.map (some b)] 76)) fun e w' => ∃ (v : Value) (ss : List Int), e = .returned v ∧ ss.Perm (intKeys D0) ∧
      w'.ownsRow (w.alloc (.cells #[.map (some b)] 76)).heap.size 3 1 v ss.length ((ss.mergeSort (fun x y => decide (x ≤ y))).map encZ) ∧ (v = .slice none 0 0 ↔ ss = []) ∧ Below (w.alloc (.cells #[.map (some b)] 76)).heap.size (w.alloc (.cells #[.map (some b)] 76)) w' := by
  have hbl := hown.lt
  have hseq : SeqGives Fence.wide 2 Tryz.prog 68 #[.pointer (some ⟨w.heap.size, 0, none⟩)] encZ (fun ss => ss.Perm (intKeys D0)) (Maps.size D0) (w.alloc (.cells #[.map (some b)] 76)) :=
    AnyZI.keys_gives (ρ := Tryz.keysA_ren) { Tryz.keysA with } Fence.wide _ trivial rfl (by omega) w.heap.size b nn D0 _ (by simp) (by simp) (by
      obtain ⟨es, clock, hb, Ft, hs, hD⟩ := hown
      exact ⟨es, clock, (Below.heap_alloc _ _ b hbl).trans hb, Ft, hs, hD⟩)
  have cS := AnyZI.sorted_in Tryz.sortedA Fence.wide 5 trivial trivial trivial trivial rfl (by omega) (Tryz.sortsA _) (enters_of Tryz.func67 (by kernel_rfl) rfl) 68 #[.pointer (some ⟨w.heap.size, 0, none⟩)] trivial (enters_of Tryz.func68 (by kernel_rfl) rfl) _ _ hmax hbytes _ hseq
  change CallsIn _ _ Tryz.prog 47 _ _ _ at cS
  exact (callsIn_wide (n := 5)).1 cS
end Go.Proofs.YtkafmfdipmhleaaGreatDoor

namespace Go.Proofs.YtkafmfdipmhleaaGreatDoor
open Go.RowKit Go.Maps
/-- How a pointer to a saga reads: its block. -/
def ptrR : Value → Option (DataW Unit × List MemPlace)
  | .pointer (some ⟨b, 0, none⟩) => some (.lit (.int .i64 b), [])
  | .pointer none => some (.nil, [])
  | _ => none
theorem ptrR_inv {v : Value} {b : Nat} {ps : List MemPlace} (h : ptrR v = some (.lit (.int .i64 b), ps)) : v = .pointer (some ⟨b, 0, none⟩) := by
  unfold ptrR at h
  split at h
  · rename_i b'
    simp at h
    obtain ⟨h, _⟩ := h
    obtain rfl : b' = b := by omega
    rfl
  · simp at h
  · cases h
theorem ptrR_nil {v : Value} {ps : List MemPlace} (h : ptrR v = some (.nil, ps)) : v = .pointer none := by
  unfold ptrR at h
  split at h
  · simp at h
  · rfl
  · cases h
def dataOf (L : List (Int × Nat)) : DataW Unit := .map (L.map fun p => (Lit.int .i64 p.1, DataW.lit (.int .i64 p.2)))
def blkOfId (L : List (Int × Nat)) (id : Int) : Option Nat := (L.find? fun p => decide (p.1 = id)).map (·.2)
theorem dataOf_at (L : List (Int × Nat)) (id : Int) : (dataOf L).atKey (.int .i64 id) .nil = match blkOfId L id with | some b => .lit (.int .i64 b) | none => .nil := by
  induction L with
  | nil => rfl
  | cons a L ih =>
    simp only [dataOf, DataW.atKey, blkOfId, List.map_cons, List.find?_cons] at ih ⊢
    by_cases h : a.1 = id
    · simp [Lit.sameKey, h]
    · have h1 : Lit.sameKey (.int .i64 a.1) (.int .i64 id) = false := by simp [Lit.sameKey, h]
      rw [h1, decide_eq_false h]
      exact ih
theorem Tryz.zero82 (w : World) : (zeroValue 82).run Tryz.prog w = .ok (.pointer none) w := Tryz.zeroValue82 w
theorem keyI (id : Int) (h : -9223372036854775808 ≤ id ∧ id ≤ 9223372036854775807) : keyOf Tryz.prog 3 (.int .i64 id) = some (.int .i64 id) := keyOf_int_mk Tryz.underlying3 (WalkArith.wf_i64 h)
theorem look_some {w : World} {mb n : Nat} {L : List (Int × Nat)} (h : w.ownsMap Tryz.prog 3 ptrR mb n (dataOf L)) (id : Int) (hid : -9223372036854775808 ≤ id ∧ id ≤ 9223372036854775807) {b : Nat} (hb : blkOfId L id = some b) :
    (Instr.lookup 76 (.map (some mb)) (.int .i64 id) false).run Tryz.prog w = .ok (.pointer (some ⟨b, 0, none⟩)) w := by
  obtain ⟨v, ps, hrun, hv⟩ := h.lookup (int_keyed Tryz.underlying3) Tryz.underlying76 (Tryz.zero82 w) (zd := .nil) (zp := []) rfl (keyI id hid)
  rw [dataOf_at, hb] at hv
  rw [hrun, ptrR_inv hv]
theorem look_none {w : World} {mb n : Nat} {L : List (Int × Nat)} (h : w.ownsMap Tryz.prog 3 ptrR mb n (dataOf L)) (id : Int) (hid : -9223372036854775808 ≤ id ∧ id ≤ 9223372036854775807) (hb : blkOfId L id = none) :
    (Instr.lookup 76 (.map (some mb)) (.int .i64 id) false).run Tryz.prog w = .ok (.pointer none) w := by
  obtain ⟨v, ps, hrun, hv⟩ := h.lookup (int_keyed Tryz.underlying3) Tryz.underlying76 (Tryz.zero82 w) (zd := .nil) (zp := []) rfl (keyI id hid)
  rw [dataOf_at, hb] at hv
  rw [hrun, ptrR_nil hv]
def insIL (x : Int × Nat) : List (Int × Nat) → List (Int × Nat)
  | [] => [x]
  | y :: r => if x.1 < y.1 then x :: y :: r else y :: insIL x r
theorem dataOf_put (L : List (Int × Nat)) (id : Int) (b : Nat) (h : blkOfId L id = none) : (dataOf L).put (.int .i64 id) (.lit (.int .i64 b)) = dataOf (insIL (id, b) L) := by
  have hno : ∀ p ∈ L, p.1 ≠ id := by
    intro p hp e
    simp only [blkOfId, Option.map_eq_none_iff, List.find?_eq_none] at h
    exact h p hp (by simp [e])
  have hf : (L.map fun p => ((Lit.int .i64 p.1, DataW.lit (.int .i64 p.2)) : Lit × DataW Unit)).filter (fun p => !p.1.sameKey (.int .i64 id)) = L.map fun p => (Lit.int .i64 p.1, DataW.lit (.int .i64 p.2)) := by
    rw [List.filter_eq_self]
    intro p hp
    rw [List.mem_map] at hp
    obtain ⟨q, hq, rfl⟩ := hp
    simp [Lit.sameKey, hno q hq]
  unfold dataOf DataW.put
  simp only [hf]
  congr 1
  clear hf hno h
  induction L with
  | nil => rfl
  | cons a L ih =>
    simp only [List.map_cons, DataW.insert, insIL, Lit.before]
    by_cases h : id < a.1
    · simp [h]
    · simp [h]; exact ih
theorem intKeys_dataOf (L : List (Int × Nat)) : intKeys (dataOf L) = L.map (·.1) := by
  simp only [intKeys, dataOf, List.map_map]
  exact List.map_congr_left (fun p _ => rfl)
theorem size_dataOf (L : List (Int × Nat)) : Maps.size (dataOf L) = L.length := by simp [Maps.size, dataOf]
def WritePost2 (w : World) (xb jb db bb mb : Nat) (pause clock : Int) (cv : Value) (j : JnM) (d : DiskM) (rs : List RecM) (e : Ending) (w' : World) : Prop :=
  e = .returned .nilIface ∧ Fr (fun k => k = db ∨ k = bb ∨ k = jb ∨ k = xb) w w' ∧ DiskAt w' db bb ((settleD j d).append j.epoch j.en rs) ∧ JnAt w' jb db ⟨j.epoch, j.en + rs.length, false⟩ ∧ w'.heap[xb]? = some (.cells (egCells jb mb pause cv clock false) 79 (0, 0))
set_option maxRecDepth 100000 in
set_option maxHeartbeats 2000000 in
theorem write_calls {w : World} {xb jb db bb mb lb n cap : Nat} {pause clock : Int} {cv : Value} {j : JnM} {d : DiskM} {rs : List RecM}
    (hx : w.heap[xb]? = some (.cells (egCells jb mb pause cv clock false) 79 (0, 0))) (hj : JnAt w jb db j) (h : DiskAt w db bb d) (hq : d.quiet) (hp : d.pend = none) (hl : RecsAt w lb rs) (hn : n = rs.length)
    (hep : j.epoch < 2 ^ 32) (hroom : j.en + rs.length ≤ d.blocks.length) (hb : d.blocks.length ≤ 1000) :
    Calls Tryz.prog 46 #[.pointer (some ⟨xb, 0, none⟩), .slice (some ⟨lb, 0, none⟩) n cap] w (WritePost2 w xb jb db bb mb pause clock cv j d rs) := by
  have hxne : xb ≠ db ∧ xb ≠ bb ∧ xb ≠ jb := by
    obtain ⟨_, _, _, _, h1, h2, _⟩ := h
    exact ⟨ne_of_kind hx h1 (by simp [kindOf]), ne_of_kind hx h2 (by simp [kindOf]), ne_of_kind hx hj (by simp [kindOf])⟩
  have HA := Lib.hid (Append_calls (cap := cap) hj h hq hp hl hn hep hroom hb)
  have Hne := Lib.hid hxne
  have Hx := Lib.hid hx
  simp only [egCells] at hx
  clear h hj hq hp hl hn hep hroom hb hxne
  have hcv := cellv w
  go_enter Tryz.func46, Tryz.ntmps46
  go_upto_region 2 with (first
    | (go_at_call 65; refine Calls.mono HA.out ?_; rintro e w2 ⟨rfl, hf2, hd2, hj2⟩)
    | fail)
  have hx2 := hf2.get Hx.out (by have := Hne.out; omega)
  have Hf2 := Lib.hid hf2
  have Hd2 := Lib.hid hd2
  have Hj2 := Lib.hid hj2
  have Hx2 := Lib.hid hx2
  simp only [egCells] at hx2
  clear hcv hx hf2 hd2 hj2
  have hcv := cellv w2
  have hfv := frozv w2
  go_wp2_with fail
  go_ret
  have hs : Fr (· = xb) w2 (w2.setCell ⟨xb, 5, none⟩ (.bool false)) := Fr.one _ _ _ _
  have hK : ∀ k, k = xb → k ≠ db ∧ k ≠ bb ∧ ∃ o, w2.heap[k]? = some o ∧ kindOf o ≠ 108 := by rintro k rfl; exact ⟨Hne.out.1, Hne.out.2.1, _, hx2, by simp [kindOf]⟩
  refine ⟨rfl, (Hf2.out.mono (fun k _ e => by rcases e with e | e | e <;> simp [e])).setCell (b := xb) (fun _ => .inr (.inr (.inr rfl))) 5 _, Hd2.out.frame hs hK, ?_, ?_⟩
  · exact hs.get Hj2.out (fun e => Hne.out.2.2 e.symm)
  · rw [hp_setCell, if_pos rfl, Hx2.out]; simp [egCells]
end Go.Proofs.YtkafmfdipmhleaaGreatDoor

namespace Go.Proofs.YtkafmfdipmhleaaGreatDoor
open Go.RowKit Go.Maps
/-- An engine, its journal, disk and partner. -/
structure StM where
  pause : Int
  clock : Int
  sagas : List SagaM
  j : JnM
  d : DiskM
  p : PartM
def SagaM.ok (s : SagaM) : Prop := 1 ≤ s.id ∧ s.id ≤ 1000 ∧ smallSteps s.steps ∧ 0 ≤ s.tries ∧ ((s.st = 1 ∨ s.st = 2) ∧ 1 ≤ s.step ∧ s.step ≤ s.steps.length ∨ (s.st = 3 ∨ s.st = 4) ∧ s.step = 0)
def leftSum (l : List SagaM) : Int := (l.map SagaM.left).sum
structure StM.inv (s : StM) : Prop where
  quiet : s.d.quiet
  pend : s.d.pend = none
  epoch : s.j.epoch < 2 ^ 32
  ok : ∀ g ∈ s.sagas, g.ok
  ord : s.sagas.Pairwise (fun a b => a.id < b.id)
  room : (s.j.en : Int) + leftSum s.sagas ≤ s.d.blocks.length
  size : s.d.blocks.length ≤ 1000
  pause : 1 ≤ s.pause ∧ s.pause ≤ 64
/-- Where an engine lies. -/
structure Pl where
  xb : Nat
  jb : Nat
  mb : Nat
  db : Nat
  bb : Nat
  pb : Nat
def ilOf (sagas : List SagaM) (bl : List Nat) : List (Int × Nat) := (sagas.map (·.id)).zip bl
noncomputable def tickR15 : Code := ((Tryz.f20.body).bind (regionAt 15)).getD .skip
set_option maxRecDepth 100000 in
set_option maxHeartbeats 4000000 in
/-- s.Pause(x.clock, x.pause). -/
theorem tick_r15 (xb sb jb mb : Nat) (pause clock : Int) (cv : Value) (g : SagaM) (W : World)
    (hx : W.heap[xb]? = some (.cells (egCells jb mb pause cv clock false) 79 (0, 0))) (hg : SagaAt W sb g) (ht : 0 ≤ g.tries)
    {ds : List Deferred} {x1 x2 x3 x4 x6 x7 x8 x9 x10 x11 x12 x13 x14 x15 x16 x17 x18 x19 x20 x21 x22 x23 x24 x25 x26 x27 x28 x29 x30 x31 x32 x33 x34 x35 x36 x37 x38 x39 x40 x41 x42 x43 x44 x45 x46 x47 x48 x49 x50 x51 x52 x53 x54 x55 x56 x57 x58 x59 x60 x61 x62 x63 x64 x65 x66 x67 x68 x69 x70 x71 x72 x73 x74 x75 x76 x77 x78 x79 x80 x81 x82 x83 x84 x85 x86 : Value} {Q : Exit → Act → World → Prop}
    (hQ : ∀ (y64 y65 y66 y67 y68 y69 y70 y71 y72 y73 : Value) (w' : World), Fr (· = sb) W w' → SagaAt w' sb (g.paused clock pause) → Q .normal ⟨#[.pointer (some ⟨xb, 0, none⟩), x1,x2,x3,x4, .pointer (some ⟨sb, 0, none⟩), x6,x7,x8,x9,x10,x11,x12,x13,x14,x15,x16,x17,x18,x19,x20,x21,x22,x23,x24,x25,x26,x27,x28,x29,x30,x31,x32,x33,x34,x35,x36,x37,x38,x39,x40,x41,x42,x43,x44,x45,x46,x47,x48,x49,x50,x51,x52,x53,x54,x55,x56,x57,x58,x59,x60,x61,x62,x63,y64,y65,y66,y67,y68,y69,y70,y71,y72,y73,x74,x75,x76,x77,x78,x79,x80,x81,x82,x83,x84,x85,x86], ds⟩ w') :
    Code.wp Tryz.prog tickR15 Q ⟨#[.pointer (some ⟨xb, 0, none⟩), x1,x2,x3,x4, .pointer (some ⟨sb, 0, none⟩), x6,x7,x8,x9,x10,x11,x12,x13,x14,x15,x16,x17,x18,x19,x20,x21,x22,x23,x24,x25,x26,x27,x28,x29,x30,x31,x32,x33,x34,x35,x36,x37,x38,x39,x40,x41,x42,x43,x44,x45,x46,x47,x48,x49,x50,x51,x52,x53,x54,x55,x56,x57,x58,x59,x60,x61,x62,x63,x64,x65,x66,x67,x68,x69,x70,x71,x72,x73,x74,x75,x76,x77,x78,x79,x80,x81,x82,x83,x84,x85,x86], ds⟩ W := by
  have hne : xb ≠ sb := by
    obtain ⟨_, h, _⟩ := hg
    exact ne_of_kind hx h (by simp [kindOf])
  have a4 : W.cell? ⟨xb, 4, none⟩ = some (.int .i64 clock) := by rw [cellv, hx]; rfl
  have a2 : W.cell? ⟨xb, 2, none⟩ = some (.int .i64 pause) := by rw [cellv, hx]; rfl
  have HP := Lib.hid (Pause_calls (w := W.drew) (hg.new ((Fr.refl _ W).drew)) clock pause ht)
  have HK : Hid (∀ w', Fr (· = sb) W.drew w' → w'.cell? ⟨xb, 4, none⟩ = some (.int .i64 clock) ∧ w'.cell? ⟨xb, 2, none⟩ = some (.int .i64 pause)) := by
    intro w' hf
    have h1 := hf.get (w := W.drew) hx hne
    exact ⟨by rw [cellv, h1]; rfl, by rw [cellv, h1]; rfl⟩
  have HQ := Lib.hid hQ
  clear hx hg ht hQ hne
  conv => arg 2; whnf
  go_region_held3 (fun w' => w'.cell? ⟨xb, 4, none⟩ = some (.int .i64 clock) ∧ w'.cell? ⟨xb, 2, none⟩ = some (.int .i64 pause))
    (first | exact HK.out _ (Fr.refl _ _) | exact HK.out _ hf2)
    ((first
      | (go_at_call 54; refine Calls.mono HP.out ?_; rintro e w2 ⟨rfl, hf2, hs2⟩)
      | fail))
  exact HQ.out _ _ _ _ _ _ _ _ _ _ _ ((Fr.refl _ W).drew.trans hf2) hs2
end Go.Proofs.YtkafmfdipmhleaaGreatDoor

namespace Go.Proofs.YtkafmfdipmhleaaGreatDoor
open Go.RowKit
/-- Two steps at a place. -/
theorem StepsAt.get {w : World} {l : List (ByteArray × ByteArray)} {b off : Nat} {c : Array Value} (h2 : w.heap[b]? = some (.cells c 54 (0, 0))) (h3 : ∀ j, j < 2 * l.length → c[off + j]? = (stepCells l)[j]?) (k : Nat) (hk : k < l.length) :
    cellOf w.heap[b]? (off + k * 2) = some (.string l[k].1) ∧ cellOf w.heap[b]? (off + k * 2 + 1) = some (.string l[k].2) := by
  obtain ⟨x0,x1⟩ := stepCells_get l k hk
  have c0 := h3 (k * 2) (by omega)
  have c1 := h3 (k * 2 + 1) (by omega)
  rw [x0] at c0
  rw [x1] at c1
  rw [h2]
  exact ⟨c0, c1⟩
theorem ba_toList (a b : ByteArray) : a.toList = b.toList ↔ a = b := by
  rw [ByteArray.toList_eq, ByteArray.toList_eq]
  obtain ⟨⟨x⟩⟩ := a
  obtain ⟨⟨y⟩⟩ := b
  simp
theorem ba_beq (a b : ByteArray) : (a == b) = decide (a = b) := by
  rw [beq_toListBytes]
  by_cases h : a = b
  · subst h; simp
  · have : ¬ a.toList = b.toList := fun e => h ((ba_toList a b).1 e)
    simp [h, this]
theorem Tryz.guard54 : Tryz.prog.eqGuardType Tryz.prog.depth 54 = false := by kernel_rfl
theorem eq54 (a b c d : ByteArray) (w : World) : (Op.equalIn 10000 54 (.agg #[.string a, .string b]) (.agg #[.string c, .string d])).run Tryz.prog w = .ok (a == c && b == d) w := by
  have hS : Tryz.prog.underlying 54 = some (.struct (Tryz.prog.fieldsOf 54)) := by kernel_rfl
  have hp : Tryz.prog.stoodInHeld 54 = false := by kernel_rfl
  have u9 := Tryz.underlying9
  rw [show (10000 : Nat) = 9999 + 1 from rfl, run_equalIn_agg w 9999 54 _ _ hS hp]
  simp only [Program.fieldsOf, Tryz.underlying54]
  go_simp
  simp only [ba_toList, ba_beq]
  by_cases h1 : a = c <;> by_cases h2 : b = d <;> simp [h1, h2]
set_option maxRecDepth 100000 in
set_option maxHeartbeats 2000000 in
theorem Same_calls {w : World} {sb : Nat} {s : SagaM} (h : SagaAt w sb s) (l : List (ByteArray × ByteArray)) (v : Value) (hv : StepsAt w v l) (hl : l.length ≤ 1000) (hs : s.steps.length ≤ 1000) :
    Calls Tryz.prog 42 #[.pointer (some ⟨sb, 0, none⟩), v] w fun e w' => e = .returned (.bool (decide (l = s.steps))) ∧ ∃ n, w' = w.drewN n := by
  obtain ⟨sv, h1, b, off, cap, c, rfl, h2, h3⟩ := h
  obtain ⟨b', off', cap', c', rfl, h2', h3'⟩ := hv
  obtain ⟨id, st, step, tries, due, steps⟩ := s
  simp only at h3 hs
  simp only [sgCells] at h1
  have hcv := cellv w
  have hw := Lib.hid (rfl : w = w)
  by_cases hlen : l.length = steps.length
  · have hne : ((l.length : Int) != steps.length) = false := by simp; omega
    have G := Lib.hid (StepsAt.get h2 h3)
    have G' := Lib.hid (StepsAt.get h2' h3')
    have Hlen := Lib.hid hlen
    clear h3 h3' h2 h2' hlen
    go_enter Tryz.func42, Tryz.ntmps42
    go_wp2_with fail
    go_loopw [16] (fun i wr => ∃ k : Nat, k ≤ l.length ∧ i = .int .i64 k ∧ l.take k = steps.take k ∧ ∃ n, wr = w.drewN n) (fun i _ => l.length - (intOf i).toNat)
    case atStart => exact ⟨0, Nat.zero_le _, rfl, rfl, 0, rfl⟩
    case round =>
      obtain ⟨k, hk, rfl, htk, nd, rfl⟩ := hrel
      have Htk := Lib.hid htk
      clear htk
      by_cases hlt : k < l.length
      · obtain ⟨x0,x1⟩ := G'.out k hlt
        obtain ⟨y0,y1⟩ := G.out k (by rw [← Hlen.out]; exact hlt)
        have hltI : (k : Int) < l.length := by omega
        have hltS : (k : Int) < steps.length := by have := Hlen.out; omega
        have hk0 : (0 : Int) ≤ k := by omega
        rw [← cellv] at x0 x1 y0 y1
        have a6 : w.cell? ⟨sb, 6, none⟩ = some (.slice (some ⟨b, off, none⟩) steps.length cap) := by rw [cellv, h1]; rfl
        clear hcv h1
        have hg54 := Tryz.guard54
        have he54 := eq54
        go_wp2_with fail
        go_quiet (fail)
        clear x0 x1 y0 y1 a6 hg54 he54
        have hsn1 : l.take (k + 1) = l.take k ++ [l[k]] := List.take_succ_eq_append_getElem hlt
        have hsn2 : steps.take (k + 1) = steps.take k ++ [steps[k]'(by have := Hlen.out; omega)] := List.take_succ_eq_append_getElem _
        have Hsn1 := Lib.hid hsn1
        have Hsn2 := Lib.hid hsn2
        clear hsn1 hsn2
        by_cases he : l[k] = steps[k]'(by have := Hlen.out; omega)
        · have He := Lib.hid he
          have q : (!(l[k].fst == (steps[k]'(by have := Hlen.out; omega)).fst) || !(l[k].snd == (steps[k]'(by have := Hlen.out; omega)).snd)) = false := by rw [he, ba_beq, ba_beq]; simp
          rw [q]
          clear he q
          go_wp2_with fail
          go_roundw
          case rel => exact ⟨k + 1, by omega, by go_num, by rw [Hsn1.out, Hsn2.out, Htk.out, He.out], _, rfl⟩
          case measure => simp [intOf]; omega
        · have hd : Hid (decide (l = steps) = false) := by
            show _ = _
            simp only [decide_eq_false_iff_not]
            rintro rfl
            exact he rfl
          have q : (!(l[k].fst == (steps[k]'(by have := Hlen.out; omega)).fst) || !(l[k].snd == (steps[k]'(by have := Hlen.out; omega)).snd)) = true := by
            rw [Bool.or_eq_true]
            by_cases h1 : l[k].fst = (steps[k]'(by have := Hlen.out; omega)).fst
            · right
              by_cases h2 : l[k].snd = (steps[k]'(by have := Hlen.out; omega)).snd
              · exact absurd (Prod.ext h1 h2) he
              · rw [ba_beq]; simp [h2]
            · left; rw [ba_beq]; simp [h1]
          clear he
          rw [q]
          clear q
          go_wp2_with fail
          go_ret
          exact ⟨by rw [hd.out]; rfl, nd + nq, by simp⟩
      · have hkl : k = l.length := by omega
        have hd : Hid (decide (l = steps) = true) := by
          show _ = _
          have h1 := Htk.out
          rw [hkl, List.take_length, Hlen.out, List.take_length] at h1
          simp [h1]
        clear hkl
        go_wp2_with fail
        go_ret
        exact ⟨by rw [hd.out]; rfl, _, rfl⟩
  · have hne : ((l.length : Int) != steps.length) = true := by simp; omega
    have Hd : Hid (decide (l = steps) = false) := by show _ = _; simp; intro e; exact hlen (by rw [e])
    clear h3 h3' h2 h2'
    go_enter Tryz.func42, Tryz.ntmps42
    go_wp2_with fail
    go_ret
    exact ⟨by rw [Hd.out]; rfl, 0, rfl⟩
theorem stepCells_length (l : List (ByteArray × ByteArray)) : (stepCells l).length = l.length * 2 := by
  induction l with
  | nil => rfl
  | cons a l ih => simp [stepCells] at ih ⊢; omega
theorem stepCells_one (l : List (ByteArray × ByteArray)) : ∀ u ∈ stepCells l, u.oneCell' = true := by
  intro u hu
  simp only [stepCells, List.mem_flatMap] at hu
  obtain ⟨s, _, hs⟩ := hu
  simp at hs
  rcases hs with rfl | rfl <;> rfl
/-- What an own slice of steps is good for. -/
theorem StepsVal.at {w : World} {B : Nat} {v : Value} {l : List (ByteArray × ByteArray)} (h : StepsVal w B v l) (hl : 1 ≤ l.length) : StepsAt w v l := by
  obtain ⟨h1, h2⟩ := h
  rcases h2 with ⟨_, h0⟩ | ⟨g, cap, cur, hv, hg, hh, _, _, _, htk⟩
  · omega
  · refine ⟨g, 0, cap, cur, hv, hh, fun j hj => ?_⟩
    rw [Nat.zero_add, ← htk, List.getElem?_take_of_lt (by omega)]
    simp
set_option maxRecDepth 100000 in
set_option maxHeartbeats 2000000 in
theorem Clone_calls {w : World} (l : List (ByteArray × ByteArray)) (v : Value) (hv : StepsAt w v l) (hl : 1 ≤ l.length ∧ l.length ≤ 1000) :
    Calls Tryz.prog 64 #[v] w fun e w' => ∃ v', e = .returned v' ∧ StepsAt w' v' l ∧ New w w' := by
  obtain ⟨b, off, cap, c, rfl, h2, h3⟩ := hv
  obtain ⟨i0, hi, hz0, hz1, hz2⟩ := info_parts Tryz.info54
  have q34 : ∀ (w : World) (a : Option Addr) (n c n' c' : Nat), (binOp .eql 34 (.slice a n c) (.slice none n' c')).run Tryz.prog w = .ok (.bool a.isNone) w := fun w a n c n' c' => Lib.run_eql_slice_nil w _ _ a n c n' c' Tryz.underlying34
  have A := Lib.hid h3
  have H2 := Lib.hid h2
  clear h2 h3
  go_enter Tryz.func64, Tryz.ntmps64
  go_wp2_with (at_builtin; refine wpList_append_own _ rfl _ _ 34 rfl w.heap.size 54 i0 (.agg #[.string ⟨#[]⟩, .string ⟨#[]⟩]) 2 32 Tryz.underlying34 hi hz0 hz1 hz2 rfl (by decide) _ _ _ rfl (World.ownsRow_made w #[] 0 (Nat.le_refl _) (Nat.zero_le _) (by simp)) ⟨b, off, none⟩ l.length cap (stepCells l) rfl ?qc1 ?qc2 ?qc3 ?qc4 ?qc5 ?qc6 ?_)
  case qc1 => exact stepCells_length l
  case qc2 =>
    intro j u hj
    rw [Addr.add_lit]
    have hjl : j < 2 * l.length := by
      have := (List.getElem?_eq_some_iff.1 hj).1
      rw [stepCells_length] at this
      omega
    refine Lib.cell?_alloc_some _ ?_
    rw [cellv, H2.out, cellOf_cells, A.out j hjl]
    exact hj
  case qc3 => exact stepCells_one l
  case qc4 => rw [Nat.zero_add]; unfold maxLen; omega
  case qc5 => rw [Nat.zero_add]; omega
  case qc6 => simp
  intro v' w1 hown hgrow hnil
  go_wp2
  go_ret
  refine ⟨v', rfl, StepsVal.at (B := w.heap.size) hown hl.1, ?_⟩
  exact ((Fr.refl _ w).alloc _).trans' (Fr.ofGrown hgrow) (by
    intro i hi he
    simp only [Value.ownBlock, Option.some.injEq] at he
    omega)
theorem StepsAt.shape {w : World} {v : Value} {l : List (ByteArray × ByteArray)} (h : StepsAt w v l) : ∃ a n c, v = .slice a n c := by
  obtain ⟨_, _, _, _, e, _⟩ := h
  exact ⟨_, _, _, e⟩
def SagaM.new (id : Int) (l : List (ByteArray × ByteArray)) : SagaM := ⟨id, 1, 1, 0, 0, l⟩
def NewPost (w : World) (s : SagaM) (e : Ending) (w' : World) : Prop := ∃ sb, w.heap.size ≤ sb ∧ e = .returned (.pointer (some ⟨sb, 0, none⟩)) ∧ SagaAt w' sb s ∧ New w w'
set_option maxRecDepth 100000 in
set_option maxHeartbeats 2000000 in
theorem New_calls {w : World} (id : Int) (l : List (ByteArray × ByteArray)) (v : Value) (hv : StepsAt w v l) (hl : 1 ≤ l.length ∧ l.length ≤ 1000) :
    Calls Tryz.prog 43 #[.int .i64 id, v] w (NewPost w (SagaM.new id l)) := by
  have hc := Clone_calls l v hv hl
  have hvs : ∃ a n c, v = .slice a n c ∧ n = l.length := by
    obtain ⟨b, off, cap, _, e, _⟩ := hv
    exact ⟨_, _, _, e, rfl⟩
  obtain ⟨a, n, cp, rfl, hn⟩ := hvs
  have Hn := Lib.hid hn
  have Hc := Lib.hid hc
  clear hv hl hn hc
  go_enter Tryz.func43, Tryz.ntmps43
  go_wp2_with (first
    | (go_at_call 64; refine Calls.mono Hc.out ?_; rintro e w1 ⟨v', rfl, hs1, hf1⟩; obtain ⟨va, vn, vc, rfl⟩ := hs1.shape)
    | fail)
  go_ret
  refine ⟨w1.heap.size, hf1.size, rfl, ⟨.slice va vn vc, ?_, hs1.frame (S := fun _ => False) ((Fr.refl _ _).alloc _) (fun _ f => f.elim)⟩, hf1.alloc _⟩
  rw [← Hn.out.symm]
  exact heap_alloc_new w1 _
/-- A slice of steps that may be empty. -/
def SlAt (w : World) (v : Value) (l : List (ByteArray × ByteArray)) : Prop := (l = [] ∧ ∃ a c, v = .slice a 0 c) ∨ StepsAt w v l
def longB (s : ByteArray × ByteArray) : Bool := decide (8 < s.1.size) || decide (8 < s.2.size)
set_option maxHeartbeats 1000000 in
theorem long_calls (w : World) (a b : ByteArray) : Calls Tryz.prog 62 #[.agg #[.string a, .string b]] w fun e w' => e = .returned (.bool (longB (a, b))) ∧ New w w' := by
  have Hl : Hid (longB (a, b) = (decide (8 < a.size) || decide (8 < b.size))) := rfl
  have hn := heap_alloc_new w (.cells #[.string a, .string b] 54)
  by_cases h1 : 8 < a.size
  · have h1' : (8 : Int) < a.size := by omega
    go_enter Tryz.func62, Tryz.ntmps62
    go_wp2
    go_ret
    exact ⟨by rw [Hl.out]; simp [h1], (Fr.refl _ _).alloc _⟩
  · have h1' : ¬ (8 : Int) < a.size := by omega
    by_cases h2 : 8 < b.size
    · have h2' : (8 : Int) < b.size := by omega
      go_enter Tryz.func62, Tryz.ntmps62
      go_wp2
      go_ret
      exact ⟨by rw [Hl.out]; simp [h1, h2], (Fr.refl _ _).alloc _⟩
    · have h2' : ¬ (8 : Int) < b.size := by omega
      go_enter Tryz.func62, Tryz.ntmps62
      go_wp2
      go_ret
      exact ⟨by rw [Hl.out]; simp [h1, h2], (Fr.refl _ _).alloc _⟩
end Go.Proofs.YtkafmfdipmhleaaGreatDoor

namespace Go.Proofs.YtkafmfdipmhleaaGreatDoor
open Go.RowKit
def anyLong (l : List (ByteArray × ByteArray)) : Bool := l.any longB
set_option maxRecDepth 100000 in
set_option maxHeartbeats 2000000 in
theorem Index_calls (w : World) (l : List (ByteArray × ByteArray)) (v : Value) (hv : SlAt w v l) (hl : l.length ≤ 1000) :
    Calls Tryz.prog 93 #[v, .func (.func 62) #[] #[]] w fun e w' => (∃ i : Int, e = .returned (.int .i64 i) ∧ decide (0 ≤ i) = anyLong l) ∧ New w w' := by
  have hsh : ∃ a c, v = .slice a l.length c := by
    rcases hv with ⟨rfl, a, c, rfl⟩ | ⟨b, off, cap, _, e, _⟩
    · exact ⟨a, c, rfl⟩
    · exact ⟨_, _, e⟩
  obtain ⟨a, c, rfl⟩ := hsh
  have hst : ∀ k (hk : k < l.length), ∃ b off, a = some ⟨b, off, none⟩ ∧ ∀ w', New w w' → w'.cell? ⟨b, off + k * 2, none⟩ = some (.string l[k].1) ∧ w'.cell? ⟨b, off + k * 2 + 1, none⟩ = some (.string l[k].2) := by
    intro k hk
    rcases hv with ⟨rfl, _⟩ | ⟨b, off, cap, c, e, h2, h3⟩
    · simp at hk
    · simp only [Value.slice.injEq] at e
      refine ⟨b, off, e.1, fun w' hf => ?_⟩
      have := StepsAt.get (hf.get h2 (fun f => f)) h3 k hk
      rw [← cellv, ← cellv] at this
      exact this
  have Hst := Lib.hid hst
  clear hst hv
  go_enter Tryz.func93, Tryz.ntmps93
  go_wp2_with fail
  go_loopw [8] (fun i wr => ∃ k : Nat, k ≤ l.length ∧ i = .int .i64 k ∧ anyLong (l.take k) = false ∧ New w wr) (fun i _ => l.length - (intOf i).toNat)
  case atStart => exact ⟨0, Nat.zero_le _, rfl, rfl, Fr.refl _ _⟩
  case round =>
    obtain ⟨k, hk, rfl, hno, hf⟩ := hrel
    have Hno := Lib.hid hno
    have Hf := Lib.hid hf
    clear hno hf
    have hk0 : (0 : Int) ≤ k := by omega
    by_cases hlt : k < l.length
    · obtain ⟨b, off, hva, hcc⟩ := Hst.out k hlt
      subst hva
      obtain ⟨x0,x1⟩ := hcc wr Hf.out
      have hlti : (k : Int) < l.length := by omega
      have hsn : Hid (anyLong (l.take (k + 1)) = (anyLong (l.take k) || longB (l[k].1, l[k].2))) := by
        show _ = _
        rw [List.take_succ_eq_append_getElem hlt]
        unfold anyLong
        rw [List.any_append]
        simp
      have hall : Hid (longB (l[k].1, l[k].2) = true → anyLong l = true) := by
        intro h
        simp only [anyLong, List.any_eq_true]
        exact ⟨l[k], List.getElem_mem hlt, h⟩
      clear hcc
      generalize l[k].1 = A at x0 hsn hall
      generalize l[k].2 = B at x1 hsn hall
      go_wp2_with (first
        | (go_at_call 62; refine Calls.mono (long_calls wr A B) ?_; rintro e w1 ⟨rfl, hf1⟩)
        | fail)
      · rename_i hL
        go_ret
        exact ⟨⟨k, rfl, by rw [hall.out hL]; simp⟩, Hf.out.trans hf1⟩
      · rename_i hL
        go_roundw
        case rel => exact ⟨k + 1, by omega, by go_num, by rw [hsn.out, Hno.out, hL]; rfl, Hf.out.trans hf1⟩
        case measure => simp [intOf]; omega
    · have hkl : Hid (k = l.length) := by show _ = _; omega
      go_wp2_with fail
      go_ret
      exact ⟨⟨-1, rfl, by
        have := Hno.out
        rw [hkl.out, List.take_length] at this
        rw [this]; rfl⟩, Hf.out⟩
theorem Contains_calls (w : World) (l : List (ByteArray × ByteArray)) (v : Value) (hv : SlAt w v l) (hl : l.length ≤ 1000) :
    Calls Tryz.prog 63 #[v, .func (.func 62) #[] #[]] w fun e w' => e = .returned (.bool (anyLong l)) ∧ New w w' := by
  have HI := Lib.hid (Index_calls w l v hv hl)
  clear hv
  go_enter Tryz.func63, Tryz.ntmps63
  go_wp2_with (first
    | (go_at_call 93; refine Calls.mono HI.out ?_; rintro e w1 ⟨⟨i, rfl, hi⟩, hf1⟩)
    | fail)
  go_ret
  exact ⟨by rw [← hi]; rfl, hf1⟩
def wholeB (id : Int) (l : List (ByteArray × ByteArray)) : Bool := decide (1 ≤ id) && decide (id ≤ 1000) && decide (1 ≤ l.length) && decide (l.length ≤ 6) && !anyLong l
set_option maxRecDepth 100000 in
set_option maxHeartbeats 2000000 in
theorem Whole_calls (w : World) (id : Int) (l : List (ByteArray × ByteArray)) (v : Value) (hv : SlAt w v l) (hl : l.length ≤ 1000) :
    Calls Tryz.prog 41 #[.int .i64 id, v] w fun e w' => e = .returned (.bool (wholeB id l)) ∧ New w w' := by
  have HC := Lib.hid (Contains_calls w l v hv hl)
  have hsh : ∃ a c, v = .slice a l.length c := by
    rcases hv with ⟨rfl, a, c, rfl⟩ | ⟨b, off, cap, _, e, _⟩
    · exact ⟨a, c, rfl⟩
    · exact ⟨_, _, e⟩
  obtain ⟨a, c, rfl⟩ := hsh
  have Hw : Hid (wholeB id l = (decide (1 ≤ id) && decide (id ≤ 1000) && decide (1 ≤ l.length) && decide (l.length ≤ 6) && !anyLong l)) := rfl
  clear hv
  by_cases h1 : 1 ≤ id
  · by_cases h2 : id ≤ 1000
    · by_cases h3 : (1 : Int) ≤ l.length
      · have h3' : 1 ≤ l.length := by omega
        by_cases h4 : (l.length : Int) ≤ 6
        · have h4' : l.length ≤ 6 := by omega
          go_enter Tryz.func41, Tryz.ntmps41
          go_wp2_with (first
            | (go_at_call 63; refine Calls.mono HC.out ?_; rintro e w1 ⟨rfl, hf1⟩)
            | fail)
          go_ret
          exact ⟨by rw [Hw.out]; simp [h1, h2, h3', h4'], hf1⟩
        · have h4' : ¬ l.length ≤ 6 := by omega
          go_enter Tryz.func41, Tryz.ntmps41
          go_wp2_with fail
          go_ret
          exact ⟨by rw [Hw.out]; simp [h4'], Fr.refl _ _⟩
      · have h3' : ¬ 1 ≤ l.length := by omega
        go_enter Tryz.func41, Tryz.ntmps41
        go_wp2_with fail
        go_ret
        exact ⟨by rw [Hw.out]; simp [h3'], Fr.refl _ _⟩
    · go_enter Tryz.func41, Tryz.ntmps41
      go_wp2_with fail
      go_ret
      exact ⟨by rw [Hw.out]; simp; intros; omega, Fr.refl _ _⟩
  · go_enter Tryz.func41, Tryz.ntmps41
    go_wp2_with fail
    go_ret
    exact ⟨by rw [Hw.out]; simp; intros; omega, Fr.refl _ _⟩
end Go.Proofs.YtkafmfdipmhleaaGreatDoor

namespace Go.Proofs.YtkafmfdipmhleaaGreatDoor
open Go.RowKit Go.Maps
theorem SagaAt.keepK {w w' : World} {K : List Nat} {sb : Nat} {g : SagaM} (h : SagaAt w sb g) (hf : FrK K w w') (h1 : 89 ∉ K) (h2 : 55 ∉ K) : SagaAt w' sb g := by
  obtain ⟨sv, e1, b, off, cap, c, e2, e3, e4⟩ := h
  exact ⟨sv, hf.block sb _ e1 h1, b, off, cap, c, e2, hf.block b _ e3 h2, e4⟩
theorem JnAt.keepK {w w' : World} {K : List Nat} {jb db : Nat} {j : JnM} (h : JnAt w jb db j) (hf : FrK K w w') (h1 : 133 ∉ K) : JnAt w' jb db j := hf.block jb _ h h1
theorem DiskAt.keepK {w w' : World} {K : List Nat} {db bb : Nat} {d : DiskM} (h : DiskAt w db bb d) (hf : FrK K w w') (h1 : 103 ∉ K) (h2 : 104 ∉ K) (h3 : 108 ∉ K) : DiskAt w' db bb d := by
  obtain ⟨hwf, cap, rest, cv, e1, e2, e3⟩ := h
  refine ⟨hwf, cap, rest, cv, hf.block db _ e1 h1, hf.block bb _ e2 h2, ?_⟩
  cases hp : d.pend with
  | none => rw [hp] at e3; exact e3
  | some p =>
    rw [hp] at e3
    obtain ⟨cb, cc, rest', e4, e5⟩ := e3
    exact ⟨cb, cc, rest', e4, hf.block cb _ e5 h3⟩
theorem PAt.keepK {w w' : World} {K : List Nat} {pb : Nat} {p : PartM} (h : PAt w pb p) (hf : FrK K w w') (h1 : 45 ∉ K) (h2 : 47 ∉ K) (h3 : 49 ∉ K) (h4 : 4 ∉ K) : PAt w' pb p :=
  h.keep hf.size (fun k o ho hk => hf.block k o ho (by rcases hk with e | e | e | ⟨e, _⟩ <;> rw [e] <;> assumption))
theorem map_keepK {w w' : World} {K : List Nat} {mb n : Nat} {D : DataW Unit} (h : w.ownsMap Tryz.prog 3 ptrR mb n D) (hf : FrK K w w') (h1 : 0 ∉ K) : w'.ownsMap Tryz.prog 3 ptrR mb n D := by
  obtain ⟨es, clock, hb, r⟩ := h
  exact ⟨es, clock, hf.block mb _ hb h1, r⟩
theorem sgs_keepK {w w' : World} {K : List Nat} {l : List SagaM} {bl : List Nat} (h : ∀ (i : Nat) (g : SagaM) (b : Nat), l[i]? = some g → bl[i]? = some b → SagaAt w b g) (hf : FrK K w w') (h1 : 89 ∉ K) (h2 : 55 ∉ K) :
    ∀ (i : Nat) (g : SagaM) (b : Nat), l[i]? = some g → bl[i]? = some b → SagaAt w' b g := fun i g b hg hb => (h i g b hg hb).keepK hf h1 h2
/-- One saga has turned. -/
theorem sgs_set {w w' : World} {l : List SagaM} {bl : List Nat} {k sb : Nat} {g' : SagaM} (h : ∀ (i : Nat) (g : SagaM) (b : Nat), l[i]? = some g → bl[i]? = some b → SagaAt w b g) (hnd : bl.Nodup) (hb : bl[k]? = some sb) (hk : k < l.length)
    (hf : Fr (· = sb) w w') (hs : SagaAt w' sb g') : ∀ (i : Nat) (g : SagaM) (b : Nat), (l.set k g')[i]? = some g → bl[i]? = some b → SagaAt w' b g := by
  intro i g b hg hbi
  by_cases e : i = k
  · subst e
    rw [List.getElem?_set_self hk] at hg
    cases hg
    rw [hb] at hbi
    cases hbi
    exact hs
  · rw [List.getElem?_set_ne (fun h => e h.symm)] at hg
    have hne : b ≠ sb := by
      rintro rfl
      have h1 := (List.getElem?_eq_some_iff.1 hbi)
      have h2 := (List.getElem?_eq_some_iff.1 hb)
      obtain ⟨p1, q1⟩ := h1
      obtain ⟨p2, q2⟩ := h2
      have hpw := List.pairwise_iff_getElem.1 hnd
      rcases Nat.lt_or_ge i k with h3 | h3
      · exact hpw i k p1 p2 h3 (q1.trans q2.symm)
      · exact hpw k i p2 p1 (by omega) (q2.trans q1.symm)
    have h0 := h i g b hg hbi
    refine h0.frame hf (fun x hx => ?_)
    subst hx
    obtain ⟨sv, e1, _⟩ := h i g b hg hbi
    refine ⟨fun e => hne e.symm, ?_⟩
    have hs0 : ∃ g0, l[k]? = some g0 := ⟨l[k], List.getElem?_eq_getElem hk⟩
    obtain ⟨g0, hg0⟩ := hs0
    obtain ⟨sv0, e0, _⟩ := h k g0 x hg0 hb
    exact ⟨_, e0, by simp [kindOf]⟩
theorem il_set (l : List SagaM) (bl : List Nat) (k : Nat) (g g' : SagaM) (hg : l[k]? = some g) (hid : g'.id = g.id) : ilOf (l.set k g') bl = ilOf l bl := by
  unfold ilOf
  congr 1
  apply List.ext_getElem?
  intro i
  by_cases e : i = k
  · subst e
    have := (List.getElem?_eq_some_iff.1 hg).1
    simp [this, hid]
    rw [List.getElem?_eq_getElem this] at hg
    cases hg; rfl
  · simp [List.getElem?_set_ne (fun h => e h.symm)]
theorem moved_id (g : SagaM) (rp : Int) : (g.moved rp).id = g.id := by
  by_cases h1 : g.st = 1 <;> by_cases h2 : rp = 0 <;> by_cases h3 : (g.steps.length : Int) < g.step + 1 <;> simp [SagaM.moved, SagaM.forward, SagaM.backward, h1, h2, h3]
def SagaM.reply (g : SagaM) (p : PartM) : Int := replyM (p.knows g.call) g.call.back p.k
def StM.stepOne (s : StM) (k : Nat) : StM :=
  match s.sagas[k]? with
  | none => s
  | some g =>
    if g.waits s.clock = false then s
    else if g.moves (g.reply s.p) = false then { s with sagas := s.sagas.set k (g.paused s.clock s.pause), j := { s.j with fresh := false }, d := settleD s.j s.d, p := s.p.ask g.call }
    else { s with sagas := s.sagas.set k (g.moved (g.reply s.p)), j := ⟨s.j.epoch, s.j.en + 1, false⟩, d := (settleD s.j s.d).append s.j.epoch s.j.en [⟨4, 0, 0, g.id.toNat, (g.reply s.p).toNat, []⟩], p := s.p.ask g.call }
/-- The block of a number, out of a body. -/
def blockAt (n : Nat) : Code → Option Code
  | .block m c => if m = n then some (.block m c) else blockAt n c
  | .loop c => blockAt n c
  | .seq a b => match blockAt n a with
    | some c => some c
    | none => blockAt n b
  | .scope c => blockAt n c
  | .cond _ a b => match blockAt n a with
    | some c => some c
    | none => blockAt n b
  | _ => none
noncomputable def tickB1 : Code := ((Tryz.f20.body).bind (blockAt 1)).getD .skip
abbrev KT : List Nat := [103, 104, 108, 133, 80, 89, 45, 47, 49]
end Go.Proofs.YtkafmfdipmhleaaGreatDoor

namespace Go.Proofs.YtkafmfdipmhleaaGreatDoor
open Go.RowKit Go.Maps
theorem SagaM.ok.left_nonneg {g : SagaM} (h : g.ok) : 0 ≤ g.left := by
  obtain ⟨_, _, _, _, h⟩ := h
  unfold SagaM.left
  split
  · rcases h with h | h <;> omega
  · split
    · rcases h with h | h <;> omega
    · omega
theorem SagaM.ok.left_pos {g : SagaM} (h : g.ok) (hs : g.st = 1 ∨ g.st = 2) : 1 ≤ g.left := by
  obtain ⟨_, _, hsm, _, h⟩ := h
  have := hsm.1
  unfold SagaM.left
  rcases hs with e | e
  · rw [if_pos e]
    rcases h with h | h <;> omega
  · rw [if_neg (by omega), if_pos e]
    rcases h with h | h <;> omega
theorem SagaM.ok.moved {g : SagaM} (h : g.ok) (hs : g.st = 1 ∨ g.st = 2) (rp : Int) : (g.moved rp).ok ∧ (g.moved rp).left + 1 ≤ g.left := by
  obtain ⟨h1, h2, hsm, h4, h⟩ := h
  have hn := hsm.1
  obtain ⟨id, st, step, tries, due, steps⟩ := g
  simp only at *
  have hstep : 1 ≤ step ∧ step ≤ steps.length := by
    rcases h with h | h
    · exact h.2
    · omega
  rcases hs with rfl | rfl
  · by_cases hr : rp = 0
    · by_cases hl : (steps.length : Int) < step + 1
      · have e : SagaM.moved ⟨id, 1, step, tries, due, steps⟩ rp = ⟨id, 3, 0, 0, 0, steps⟩ := by simp [SagaM.moved, SagaM.forward, hr, hl]
        rw [e]
        exact ⟨⟨h1, h2, hsm, by simp, .inr ⟨.inl rfl, rfl⟩⟩, by simp [SagaM.left] <;> omega⟩
      · have e : SagaM.moved ⟨id, 1, step, tries, due, steps⟩ rp = ⟨id, 1, step + 1, 0, 0, steps⟩ := by simp [SagaM.moved, SagaM.forward, hr, hl]
        rw [e]
        exact ⟨⟨h1, h2, hsm, by simp, .inl ⟨.inl rfl, by simp only; omega, by simp only; omega⟩⟩, by simp [SagaM.left] <;> omega⟩
    · by_cases hz : step - 1 = 0
      · have e : SagaM.moved ⟨id, 1, step, tries, due, steps⟩ rp = ⟨id, 4, step - 1, 0, 0, steps⟩ := by simp [SagaM.moved, SagaM.forward, SagaM.backward, hr, hz]
        rw [e]
        exact ⟨⟨h1, h2, hsm, by simp, .inr ⟨.inr rfl, hz⟩⟩, by simp [SagaM.left] <;> omega⟩
      · have e : SagaM.moved ⟨id, 1, step, tries, due, steps⟩ rp = ⟨id, 2, step - 1, 0, 0, steps⟩ := by simp [SagaM.moved, SagaM.forward, SagaM.backward, hr, hz]
        rw [e]
        exact ⟨⟨h1, h2, hsm, by simp, .inl ⟨.inr rfl, by simp only; omega, by simp only; omega⟩⟩, by simp [SagaM.left] <;> omega⟩
  · by_cases hz : step - 1 = 0
    · have e : SagaM.moved ⟨id, 2, step, tries, due, steps⟩ rp = ⟨id, 4, step - 1, 0, 0, steps⟩ := by simp [SagaM.moved, SagaM.backward, hz]
      rw [e]
      exact ⟨⟨h1, h2, hsm, by simp, .inr ⟨.inr rfl, hz⟩⟩, by simp [SagaM.left] <;> omega⟩
    · have e : SagaM.moved ⟨id, 2, step, tries, due, steps⟩ rp = ⟨id, 2, step - 1, 0, 0, steps⟩ := by simp [SagaM.moved, SagaM.backward, hz]
      rw [e]
      exact ⟨⟨h1, h2, hsm, by simp, .inl ⟨.inr rfl, by simp only; omega, by simp only; omega⟩⟩, by simp [SagaM.left] <;> omega⟩
theorem leftSum_set (l : List SagaM) (k : Nat) (g g' : SagaM) (hg : l[k]? = some g) : leftSum (l.set k g') = leftSum l - g.left + g'.left := by
  induction l generalizing k with
  | nil => simp at hg
  | cons a l ih =>
    cases k with
    | zero =>
      simp at hg
      subst hg
      simp [leftSum]; omega
    | succ k =>
      have := ih k (by simpa using hg)
      simp [leftSum] at this ⊢
      omega
theorem leftSum_nonneg (l : List SagaM) (h : ∀ g ∈ l, g.ok) : 0 ≤ leftSum l := by
  induction l with
  | nil => simp [leftSum]
  | cons a l ih =>
    have h1 := (h a (by simp)).left_nonneg
    have h2 := ih (fun g hg => h g (by simp [hg]))
    simp [leftSum] at h2 ⊢
    omega
theorem leftSum_mem (l : List SagaM) (h : ∀ g ∈ l, g.ok) (g : SagaM) (hg : g ∈ l) : g.left ≤ leftSum l := by
  induction l with
  | nil => simp at hg
  | cons a l ih =>
    have h1 := (h a (by simp)).left_nonneg
    have h2 := leftSum_nonneg l (fun g hg => h g (by simp [hg]))
    simp only [List.mem_cons] at hg
    rcases hg with rfl | hg
    · simp [leftSum] at h2 ⊢; omega
    · have := ih (fun g hg => h g (by simp [hg])) hg
      simp [leftSum] at this ⊢; omega
/-- There is room in the numbers for m more questions. -/
def StM.fine (s : StM) (m : Nat) : Prop := s.p.log.length + m < 2 ^ 30 ∧ s.p.effs.length + m < 2 ^ 30 ∧ s.p.l.length < 2 ^ 30 ∧ 0 ≤ s.p.at_ ∧ s.p.at_ + m < 2 ^ 30 ∧ ∀ g ∈ s.sagas, g.tries ≤ s.p.log.length
theorem StM.fine.small {s : StM} {m : Nat} (h : s.fine m) : s.p.small := by
  obtain ⟨h1, h2, h3, h4, h5, _⟩ := h
  exact ⟨by omega, by omega, h3, h4, by omega⟩
theorem ask_fine {p : PartM} {c : CallM} {m : Nat} (h1 : p.log.length + (m + 1) < 2 ^ 30) (h2 : p.effs.length + (m + 1) < 2 ^ 30) (h4 : 0 ≤ p.at_) (h5 : p.at_ + (m + 1 : Nat) < 2 ^ 30) :
    (p.ask c).log.length + m < 2 ^ 30 ∧ (p.ask c).effs.length + m < 2 ^ 30 ∧ (p.ask c).l = p.l ∧ 0 ≤ (p.ask c).at_ ∧ (p.ask c).at_ + m < 2 ^ 30 ∧ (p.ask c).log.length = p.log.length + 1 := by
  refine ⟨by simp [PartM.ask]; omega, ?_, rfl, ?_, ?_, by simp [PartM.ask]⟩
  · simp only [PartM.ask]; split
    · omega
    · simp; omega
  · simp only [PartM.ask, PartM.next]; split <;> omega
  · simp only [PartM.ask, PartM.next]; split <;> omega
theorem mem_set_cases {l : List SagaM} {k : Nat} {g' g : SagaM} (h : g ∈ l.set k g') : g = g' ∨ g ∈ l := by
  rcases List.mem_or_eq_of_mem_set h with h | h
  · exact .inr h
  · exact .inl h
theorem ord_set {l : List SagaM} {k : Nat} {g g' : SagaM} (h : l.Pairwise (fun a b => a.id < b.id)) (hg : l[k]? = some g) (hid : g'.id = g.id) : (l.set k g').Pairwise (fun a b => a.id < b.id) := by
  have e : (l.set k g').map (·.id) = l.map (·.id) := by
    rw [List.map_set]
    apply List.ext_getElem?
    intro i
    by_cases e : i = k
    · subst e
      have hl := (List.getElem?_eq_some_iff.1 hg).1
      rw [List.getElem?_set_self (by simpa using hl)]
      simp [hg, hid]
    · rw [List.getElem?_set_ne (fun h => e h.symm)]
  have h1 : (l.map (·.id)).Pairwise (· < ·) := List.pairwise_map.2 h
  rw [← e] at h1
  exact List.pairwise_map.1 h1
/-- A saga whose turn it is has room for its record. -/
theorem inv_room {s : StM} (h : s.inv) {k : Nat} {g : SagaM} (hg : s.sagas[k]? = some g) (hw : g.waits s.clock = true) : s.j.en + 1 ≤ s.d.blocks.length ∧ (g.st = 1 ∨ g.st = 2) := by
  have hmem : g ∈ s.sagas := List.mem_of_getElem? hg
  have hok := h.ok g hmem
  have hst : g.st = 1 ∨ g.st = 2 := by
    simp [SagaM.waits] at hw
    obtain ⟨_, _, _, _, h | h⟩ := hok
    · exact h.1
    · omega
  have h1 := hok.left_pos hst
  have h2 := leftSum_mem s.sagas h.ok g hmem
  have := h.room
  exact ⟨by omega, hst⟩
end Go.Proofs.YtkafmfdipmhleaaGreatDoor

namespace Go.Proofs.YtkafmfdipmhleaaGreatDoor
open Go.RowKit Go.Maps
def StM.tick (s : StM) : StM := (List.range s.sagas.length).foldl StM.stepOne { s with clock := s.clock + 1 }
theorem inv_clock {s : StM} (h : s.inv) (c : Int) : ({ s with clock := c } : StM).inv := ⟨h.quiet, h.pend, h.epoch, h.ok, h.ord, h.room, h.size, h.pause⟩
theorem at_next {p : PartM} {c : CallM} (h : p.l ≠ []) : (p.ask c).at_ = p.at_ + 1 := by simp [PartM.ask, PartM.next, h]
end Go.Proofs.YtkafmfdipmhleaaGreatDoor

namespace Go.Proofs.YtkafmfdipmhleaaGreatDoor
open Go.RowKit Go.Maps
theorem below_toK {B : Nat} {w w' : World} (h : Below B w w') (hB : w.heap.size ≤ B) (K : List Nat) : FrK K w w' :=
  ⟨h.os, h.tape, h.output, h.size, fun k o ho _ => (h.block k (Nat.lt_of_lt_of_le (lt_of_hp ho) hB)).trans ho⟩
/-- The keys, in order, are the sagas' numbers. -/
theorem keys_sorted {l : List SagaM} {bl : List Nat} (hl : bl.length = l.length) (ho : l.Pairwise (fun a b => a.id < b.id)) {ss : List Int} (hp : ss.Perm (intKeys (dataOf (ilOf l bl)))) :
    ss.mergeSort (fun x y => decide (x ≤ y)) = l.map (·.id) := by
  have e : intKeys (dataOf (ilOf l bl)) = l.map (·.id) := by
    rw [intKeys_dataOf]
    unfold ilOf
    exact List.map_fst_zip (l₁ := l.map (·.id)) (l₂ := bl) (by simp; omega)
  rw [e] at hp
  have h1 : (l.map (·.id)).Pairwise (· ≤ ·) := (List.pairwise_map.2 (ho.imp (fun h => Int.le_of_lt h)))
  have h2 : (ss.mergeSort (fun x y => decide (x ≤ y))).Pairwise (fun a b => decide (a ≤ b) = true) := List.pairwise_mergeSort (by intro a b c; simp; omega) (by intro a b; simp; omega) ss
  exact List.Perm.eq_of_pairwise (le := (· ≤ ·)) (fun a b _ _ h1 h2 => Int.le_antisymm h1 h2) (h2.imp (fun h => by simpa using h)) h1 ((List.mergeSort_perm ss _).trans hp)
theorem ints_at {w : World} {B g n cap : Nat} {ids : List Int} (h : w.ownsRow B 3 1 (.slice (some ⟨g, 0, none⟩) n cap) n (ids.map encZ)) (k : Nat) (x : Int) (hx : ids[k]? = some x) : w.cell? ⟨g, k, none⟩ = some (.int .i64 x) := by
  have := h.cellAt k (by have := h.1; simp at this; have := (List.getElem?_eq_some_iff.1 hx).1; omega)
  rw [this, List.getElem?_map, hx]; rfl
theorem len_of_ord (l : List SagaM) (a N : Int) (ho : l.Pairwise (fun x y => x.id < y.id)) (h : ∀ g ∈ l, a < g.id ∧ g.id ≤ N) (hN : a ≤ N) : (l.length : Int) ≤ N - a := by
  induction l generalizing a with
  | nil => simp; omega
  | cons x l ih =>
    have hx := h x (by simp)
    have hp := List.pairwise_cons.1 ho
    have := ih x.id hp.2 (fun g hg => ⟨hp.1 g hg, (h g (by simp [hg])).2⟩) hx.2
    simp only [List.length_cons]
    omega
theorem inv_len {s : StM} (h : s.inv) : s.sagas.length ≤ 1000 := by
  have := len_of_ord s.sagas 0 1000 h.ord (fun g hg => by have := h.ok g hg; exact ⟨by have := this.1; omega, this.2.1⟩) (by omega)
  omega
theorem blk_of (l : List SagaM) (bl : List Nat) (hl : bl.length = l.length) (ho : l.Pairwise (fun a b => a.id < b.id)) (k : Nat) (g : SagaM) (hg : l[k]? = some g) : ∃ b, bl[k]? = some b ∧ blkOfId (ilOf l bl) g.id = some b := by
  induction l generalizing bl k with
  | nil => simp at hg
  | cons x l ih =>
    cases bl with
    | nil => simp at hl
    | cons y bl =>
      have hp := List.pairwise_cons.1 ho
      cases k with
      | zero =>
        simp at hg
        subst hg
        exact ⟨y, rfl, by simp [blkOfId, ilOf]⟩
      | succ k =>
        have hg' : l[k]? = some g := by simpa using hg
        obtain ⟨b, h1, h2⟩ := ih bl (by simpa using hl) hp.2 k hg'
        refine ⟨b, by simpa using h1, ?_⟩
        have hne : x.id ≠ g.id := by have := hp.1 g (List.mem_of_getElem? hg'); omega
        simp only [blkOfId, ilOf, List.map_cons, List.zip_cons_cons, List.find?_cons, decide_eq_false hne] at h2 ⊢
        exact h2
theorem own_keepK {w w' : World} {K : List Nat} {B e size n : Nat} {v : Value} {xs : List Value} (h : w.ownsRow B e size v n xs) (hf : FrK K w w') (he : e + 1 ∉ K) : w'.ownsRow B e size v n xs := by
  obtain ⟨h1, h2⟩ := h
  refine ⟨h1, ?_⟩
  rcases h2 with h2 | ⟨g, cap, cur, hv, hg, hh, r⟩
  · exact .inl h2
  · exact .inr ⟨g, cap, cur, hv, hg, hf.block g _ hh he, r⟩
theorem ids_shape {w : World} {B n : Nat} {v : Value} {xs : List Value} (h : w.ownsRow B 3 1 v n xs) : ∃ va vc, v = .slice va n vc ∧ (n = 0 ∨ ∃ g, va = some ⟨g, 0, none⟩) := by
  rcases h.2 with ⟨h1, h2⟩ | ⟨g, cap, cur, h1, _⟩
  · exact ⟨none, 0, by rw [h1, h2], .inl h2⟩
  · exact ⟨some ⟨g, 0, none⟩, cap, h1, .inr ⟨g, rfl⟩⟩
end Go.Proofs.YtkafmfdipmhleaaGreatDoor

namespace Go.Proofs.YtkafmfdipmhleaaGreatDoor
open Go.RowKit Go.Maps
def insSaga (g : SagaM) : List SagaM → List SagaM
  | [] => [g]
  | x :: r => if g.id < x.id then g :: x :: r else x :: insSaga g r
def insBl (id : Int) (sb : Nat) : List SagaM → List Nat → List Nat
  | x :: r, y :: bl => if id < x.id then sb :: y :: bl else y :: insBl id sb r bl
  | _, _ => [sb]
theorem insSaga_len (g : SagaM) (l : List SagaM) : (insSaga g l).length = l.length + 1 := by
  induction l with
  | nil => rfl
  | cons x r ih => unfold insSaga; split <;> simp [ih]
theorem insBl_len (id : Int) (sb : Nat) (l : List SagaM) (bl : List Nat) (h : bl.length = l.length) : (insBl id sb l bl).length = l.length + 1 := by
  induction l generalizing bl with
  | nil => cases bl <;> simp [insBl]
  | cons x r ih =>
    cases bl with
    | nil => simp at h
    | cons y bl => unfold insBl; split <;> simp [ih bl (by simpa using h)] <;> simpa using h
theorem insIL_of (g : SagaM) (sb : Nat) (l : List SagaM) (bl : List Nat) (h : bl.length = l.length) : ilOf (insSaga g l) (insBl g.id sb l bl) = insIL (g.id, sb) (ilOf l bl) := by
  induction l generalizing bl with
  | nil => cases bl <;> simp [insBl, insSaga, ilOf, insIL]
  | cons x r ih =>
    cases bl with
    | nil => simp at h
    | cons y bl =>
      have := ih bl (by simpa using h)
      unfold insSaga insBl
      by_cases hx : g.id < x.id
      · simp [hx, ilOf, insIL]
      · simp only [hx, if_false, ilOf, List.map_cons, List.zip_cons_cons, insIL] at this ⊢
        rw [this]
theorem insSaga_mem {g x : SagaM} {l : List SagaM} : x ∈ insSaga g l ↔ x = g ∨ x ∈ l := by
  induction l with
  | nil => simp [insSaga]
  | cons y r ih =>
    unfold insSaga
    split
    · simp
    · simp only [List.mem_cons, ih]
      constructor
      · rintro (h | h | h) <;> simp [h]
      · rintro (h | h | h) <;> simp [h]
theorem insSaga_sum (g : SagaM) (l : List SagaM) : leftSum (insSaga g l) = g.left + leftSum l := by
  induction l with
  | nil => simp [insSaga, leftSum]
  | cons y r ih =>
    unfold insSaga
    split
    · simp [leftSum]
    · simp only [leftSum, List.map_cons, List.sum_cons] at ih ⊢
      rw [ih]; omega
theorem insSaga_ord (g : SagaM) (l : List SagaM) (h : l.Pairwise (fun a b => a.id < b.id)) (hn : ∀ x ∈ l, x.id ≠ g.id) : (insSaga g l).Pairwise (fun a b => a.id < b.id) := by
  induction l with
  | nil => simp [insSaga]
  | cons y r ih =>
    have hp := List.pairwise_cons.1 h
    unfold insSaga
    split
    · rename_i hx
      refine List.pairwise_cons.2 ⟨fun a ha => ?_, h⟩
      simp only [List.mem_cons] at ha
      rcases ha with rfl | ha
      · exact hx
      · have := hp.1 a ha; omega
    · rename_i hx
      refine List.pairwise_cons.2 ⟨fun a ha => ?_, ih hp.2 (fun x hx => hn x (by simp [hx]))⟩
      rcases insSaga_mem.1 ha with rfl | ha
      · have := hn y (by simp); omega
      · exact hp.1 a ha
theorem insSaga_at {g g' : SagaM} {sb b' : Nat} {l : List SagaM} {bl : List Nat} (h : bl.length = l.length) (i : Nat) (h1 : (insSaga g l)[i]? = some g') (h2 : (insBl g.id sb l bl)[i]? = some b') :
    (g' = g ∧ b' = sb) ∨ ∃ j : Nat, l[j]? = some g' ∧ bl[j]? = some b' := by
  induction l generalizing bl i with
  | nil =>
    cases bl with
    | cons y bl => simp at h
    | nil =>
      simp only [insSaga, insBl] at h1 h2
      cases i with
      | zero => simp at h1 h2; exact .inl ⟨h1.symm, h2.symm⟩
      | succ i => simp at h1
  | cons x r ih =>
    cases bl with
    | nil => simp at h
    | cons y bl =>
      unfold insSaga at h1
      unfold insBl at h2
      by_cases hx : g.id < x.id
      · rw [if_pos hx] at h1 h2
        cases i with
        | zero => simp at h1 h2; exact .inl ⟨h1.symm, h2.symm⟩
        | succ i => exact .inr ⟨i, by simpa using h1, by simpa using h2⟩
      · rw [if_neg hx] at h1 h2
        cases i with
        | zero => exact .inr ⟨0, by simpa using h1, by simpa using h2⟩
        | succ i =>
          rcases ih (by simpa using h) i (by simpa using h1) (by simpa using h2) with h | ⟨j, a, b⟩
          · exact .inl h
          · exact .inr ⟨j + 1, by simpa using a, by simpa using b⟩
theorem insBl_mem {id : Int} {sb x : Nat} {l : List SagaM} {bl : List Nat} (h : x ∈ insBl id sb l bl) : x = sb ∨ x ∈ bl := by
  induction l generalizing bl with
  | nil => simp [insBl] at h; exact .inl h
  | cons y r ih =>
    cases bl with
    | nil => simp [insBl] at h; exact .inl h
    | cons z bl =>
      unfold insBl at h
      split at h
      · simpa using h
      · simp only [List.mem_cons] at h ⊢
        rcases h with h | h
        · exact .inr (.inl h)
        · rcases ih h with h | h
          · exact .inl h
          · exact .inr (.inr h)
theorem insBl_nd {id : Int} {sb : Nat} {l : List SagaM} {bl : List Nat} (h : bl.Nodup) (hn : sb ∉ bl) : (insBl id sb l bl).Nodup := by
  induction l generalizing bl with
  | nil => simp [insBl]
  | cons y r ih =>
    cases bl with
    | nil => simp [insBl]
    | cons z bl =>
      unfold insBl
      split
      · exact List.nodup_cons.2 ⟨hn, h⟩
      · have hp := List.nodup_cons.1 h
        simp only [List.mem_cons, not_or] at hn
        refine List.nodup_cons.2 ⟨fun hm => ?_, ih hp.2 hn.2⟩
        rcases insBl_mem hm with h | h
        · exact hn.1 h.symm
        · exact hp.1 h
def bodyRec (id : Int) (l : List (ByteArray × ByteArray)) : RecM := ⟨2, 0, 0, id.toNat, 0, l⟩
def takenRec (id : Int) : RecM := ⟨3, 0, 0, id.toNat, 0, []⟩
def StM.submit (s : StM) (id : Int) (l : List (ByteArray × ByteArray)) : StM :=
  { s with sagas := insSaga (SagaM.new id l) s.sagas, j := ⟨s.j.epoch, s.j.en + 2, false⟩, d := (settleD s.j s.d).append s.j.epoch s.j.en [bodyRec id l, takenRec id] }
theorem whole_small {id : Int} {l : List (ByteArray × ByteArray)} (h : wholeB id l = true) : 1 ≤ id ∧ id ≤ 1000 ∧ smallSteps l := by
  simp only [wholeB, Bool.and_eq_true, decide_eq_true_eq, Bool.not_eq_true', anyLong] at h
  obtain ⟨⟨⟨⟨h1, h2⟩, h3⟩, h4⟩, h5⟩ := h
  refine ⟨h1, h2, h3, h4, fun s hs => ?_⟩
  have := List.any_eq_false.1 h5 s hs
  simp [longB] at this
  omega
theorem new_ok {id : Int} {l : List (ByteArray × ByteArray)} (h : wholeB id l = true) : (SagaM.new id l).ok := by
  obtain ⟨h1, h2, h3⟩ := whole_small h
  exact ⟨h1, h2, h3, by simp [SagaM.new], .inl ⟨.inl rfl, by simp [SagaM.new], by have := h3.1; simp only [SagaM.new]; omega⟩⟩
theorem new_left (id : Int) (l : List (ByteArray × ByteArray)) : (SagaM.new id l).left = 2 * l.length - 1 := by simp [SagaM.left, SagaM.new]
/-- What is still to be summed. -/
def restSum (l : List SagaM) (left : Lit → Bool) : Int := (l.map fun g => cond (left (.int .i64 g.id)) g.left 0).sum
theorem rest_all (l : List SagaM) (left : Lit → Bool) (h : ∀ g ∈ l, left (.int .i64 g.id) = true) : restSum l left = leftSum l := by
  unfold restSum leftSum
  congr 1
  exact List.map_congr_left (fun g hg => by rw [h g hg]; rfl)
theorem rest_none (l : List SagaM) (left : Lit → Bool) (h : ∀ kl, left kl = false) : restSum l left = 0 := by
  unfold restSum
  induction l with
  | nil => rfl
  | cons a l ih => simp [h] at ih ⊢; exact ih
theorem rest_step (l : List SagaM) (left : Lit → Bool) (ho : l.Pairwise (fun a b => a.id < b.id)) (g : SagaM) (hg : g ∈ l) (hl : left (.int .i64 g.id) = true) :
    restSum l left = restSum l (fun z => left z && !z.sameKey (.int .i64 g.id)) + g.left := by
  induction l with
  | nil => simp at hg
  | cons a l ih =>
    have hp := List.pairwise_cons.1 ho
    simp only [List.mem_cons] at hg
    rcases hg with rfl | hg
    · have h2 : restSum l left = restSum l (fun z => left z && !z.sameKey (.int .i64 g.id)) := by
        unfold restSum
        congr 1
        refine List.map_congr_left (fun x hx => ?_)
        have : (Lit.int .i64 x.id).sameKey (.int .i64 g.id) = false := by
          have := hp.1 x hx
          simp [Lit.sameKey]; omega
        simp [this]
      have h3 : (Lit.int .i64 g.id).sameKey (.int .i64 g.id) = true := by simp [Lit.sameKey]
      simp only [restSum, List.map_cons, List.sum_cons] at h2 ⊢
      rw [h2, hl, h3]
      simp; omega
    · have h1 := ih hp.2 hg
      have hne : (Lit.int .i64 a.id).sameKey (.int .i64 g.id) = false := by
        have := hp.1 g hg
        simp [Lit.sameKey]; omega
      simp only [restSum, List.map_cons, List.sum_cons] at h1 ⊢
      rw [h1, hne]
      simp; omega
theorem rest_nonneg (l : List SagaM) (left : Lit → Bool) (h : ∀ g ∈ l, g.ok) : 0 ≤ restSum l left := by
  unfold restSum
  induction l with
  | nil => simp
  | cons a l ih =>
    have h1 := (h a (by simp)).left_nonneg
    have h2 := ih (fun g hg => h g (by simp [hg]))
    simp only [List.map_cons, List.sum_cons]
    cases left (.int .i64 a.id) <;> simp only [cond_true, cond_false] <;> omega
theorem leftSum_le (l : List SagaM) (h : ∀ g ∈ l, g.ok) : leftSum l ≤ 12 * l.length := by
  induction l with
  | nil => simp [leftSum]
  | cons a l ih =>
    have h1 := (h a (by simp))
    have h2 := ih (fun g hg => h g (by simp [hg]))
    have h3 : a.left ≤ 12 := by
      obtain ⟨_, _, hsm, _, h⟩ := h1
      have := hsm.1
      have := hsm.2.1
      unfold SagaM.left
      split
      · rcases h with h | h <;> omega
      · split
        · rcases h with h | h <;> omega
        · omega
    simp only [leftSum, List.map_cons, List.sum_cons, List.length_cons] at h2 ⊢
    omega
/-- A key of the map is a saga's. -/
theorem il_find (l : List SagaM) (bl : List Nat) (hl : bl.length = l.length) (id : Int) (b : Nat) (h : blkOfId (ilOf l bl) id = some b) : ∃ (i : Nat) (g : SagaM), l[i]? = some g ∧ bl[i]? = some b ∧ g.id = id := by
  induction l generalizing bl with
  | nil => simp [blkOfId, ilOf] at h
  | cons x r ih =>
    cases bl with
    | nil => simp at hl
    | cons y bl =>
      by_cases hx : x.id = id
      · simp [blkOfId, ilOf, hx] at h
        exact ⟨0, x, rfl, by simp [h], hx⟩
      · have : blkOfId (ilOf r bl) id = some b := by simpa [blkOfId, ilOf, hx] using h
        obtain ⟨i, g, h1, h2, h3⟩ := ih bl (by simpa using hl) this
        exact ⟨i + 1, g, by simpa using h1, by simpa using h2, h3⟩
theorem il_none (l : List SagaM) (bl : List Nat) (id : Int) (h : ∀ x ∈ l, x.id ≠ id) : blkOfId (ilOf l bl) id = none := by
  simp only [blkOfId, Option.map_eq_none_iff, List.find?_eq_none, ilOf]
  intro p hp
  have := List.of_mem_zip hp
  simp only [List.mem_map] at this
  obtain ⟨⟨x, hx, e⟩, _⟩ := this
  simp only [decide_eq_true_eq]
  rw [← e]; exact h x hx
end Go.Proofs.YtkafmfdipmhleaaGreatDoor

namespace Go.Proofs.YtkafmfdipmhleaaGreatDoor
open Go.RowKit Go.Maps
theorem Tryz.keyed : Keyed Tryz.prog 3 := int_keyed Tryz.underlying3
def ptrV : Option Nat → Value
  | some b => .pointer (some ⟨b, 0, none⟩)
  | none => .pointer none
theorem ptrR_shape (v : Value) (y : DataW Unit × List MemPlace) (h : ptrR v = some y) : ∃ c, v = ptrV c := by
  unfold ptrR at h
  split at h
  · exact ⟨some _, rfl⟩
  · exact ⟨none, rfl⟩
  · cases h
theorem key_shape (key : Value) (kl : Lit) (h : keyOf Tryz.prog 3 key = some kl) : ∃ x : Int, key = .int .i64 x := by
  obtain ⟨x, rfl, _⟩ := Maps.keyOf_int_inv Tryz.underlying3 h
  exact ⟨x, rfl⟩
theorem has_of_mem {l : List SagaM} {bl : List Nat} (hl : bl.length = l.length) {g : SagaM} (hg : g ∈ l) : Maps.has (dataOf (ilOf l bl)) (.int .i64 g.id) = true := by
  have hm : g.id ∈ (ilOf l bl).map (·.1) := by
    unfold ilOf
    rw [List.map_fst_zip (by simp; omega)]
    exact List.mem_map_of_mem hg
  obtain ⟨p, hp, e⟩ := List.mem_map.1 hm
  simp only [Maps.has, dataOf]
  rw [List.any_map, List.any_eq_true]
  exact ⟨p, hp, by simp [Lit.sameKey, e]⟩
theorem dataOf_at' (L : List (Int × Nat)) (id : Int) (zd : DataW Unit) : (dataOf L).atKey (.int .i64 id) zd = match blkOfId L id with | some b => .lit (.int .i64 b) | none => zd := by
  induction L with
  | nil => rfl
  | cons a L ih =>
    simp only [dataOf, DataW.atKey, blkOfId, List.map_cons, List.find?_cons] at ih ⊢
    by_cases h : a.1 = id
    · simp [Lit.sameKey, h]
    · have h1 : Lit.sameKey (.int .i64 a.1) (.int .i64 id) = false := by simp [Lit.sameKey, h]
      rw [h1, decide_eq_false h]
      exact ih
theorem entry_of {l : List SagaM} {bl : List Nat} (hl : bl.length = l.length) {x : Int} {c : Option Nat} {y : DataW Unit} {ps : List MemPlace} (hy : ptrR (ptrV c) = some (y, ps)) (hat : ∀ zd, (dataOf (ilOf l bl)).atKey (.int .i64 x) zd = y) :
    ∃ (i : Nat) (g : SagaM) (b : Nat), l[i]? = some g ∧ bl[i]? = some b ∧ g.id = x ∧ c = some b := by
  cases hb : blkOfId (ilOf l bl) x with
  | none =>
    have h1 := hat .nil
    have h2 := hat (.lit (.int .i64 0))
    rw [dataOf_at', hb] at h1 h2
    simp only at h1 h2
    rw [← h1] at h2
    cases h2
  | some b =>
    have h1 := hat .nil
    rw [dataOf_at', hb] at h1
    simp only at h1
    subst h1
    have h3 := ptrR_inv hy
    obtain ⟨i, g, e1, e2, e3⟩ := il_find l bl hl x b hb
    refine ⟨i, g, b, e1, e2, e3, ?_⟩
    cases c with
    | none => simp [ptrV] at h3
    | some c => simp [ptrV] at h3; rw [h3]
theorem rest_le (l : List SagaM) (left : Lit → Bool) (h : ∀ g ∈ l, g.ok) : restSum l left ≤ leftSum l := by
  unfold restSum leftSum
  induction l with
  | nil => simp
  | cons a l ih =>
    have h1 := (h a (by simp)).left_nonneg
    have h2 := ih (fun g hg => h g (by simp [hg]))
    simp only [List.map_cons, List.sum_cons]
    cases left (.int .i64 a.id) <;> simp only [cond_true, cond_false] <;> omega
theorem sub_recs {w : World} {lb : Nat} {id : Int} {l : List (ByteArray × ByteArray)} {sv : Value} (hw : 1 ≤ id ∧ id ≤ 1000 ∧ smallSteps l) (hsv : ∃ a m c, sv = .slice a m c)
    (hlb : w.heap[lb]? = some (.cells #[.int .u8 2, .int .u32 0, .int .i64 0, .int .i64 id, .int .i64 0, sv, .int .u8 3, .int .u32 0, .int .i64 0, .int .i64 id, .int .i64 0, .slice none 0 0] 91 (0, 0))) (hst : StepsAt w sv l) :
    RecsAt w lb [bodyRec id l, takenRec id] := by
  refine ⟨?_, _, hlb, ?_⟩
  · intro r hr ep ix hep hix
    simp only [List.mem_cons, List.not_mem_nil, or_false] at hr
    rcases hr with rfl | rfl
    · exact ⟨by show 2 < 256; omega, hep, hix, by show id.toNat < 65536; omega, by show 0 < 256; omega, fun h => absurd rfl h, fun _ => hw.2.2⟩
    · exact ⟨by show 3 < 256; omega, hep, hix, by show id.toNat < 65536; omega, by show 0 < 256; omega, fun _ => rfl, fun h => by simp [placed, takenRec] at h⟩
  · intro k r hr
    have e1 : ((id.toNat : Nat) : Int) = id := by omega
    match k, hr with
    | 0, hr =>
      simp at hr
      subst hr
      refine ⟨sv, hsv, fun _ => hst, fun i hi => ?_⟩
      simp only [rcells, bodyRec, Nat.zero_mul, Nat.zero_add, e1]
      match i, hi with
      | 0, _ | 1, _ | 2, _ | 3, _ | 4, _ | 5, _ => rfl
    | 1, hr =>
      simp at hr
      subst hr
      refine ⟨.slice none 0 0, ⟨_, _, _, rfl⟩, fun h => by simp [takenRec] at h, fun i hi => ?_⟩
      simp only [rcells, takenRec, Nat.one_mul, e1]
      match i, hi with
      | 0, _ | 1, _ | 2, _ | 3, _ | 4, _ | 5, _ => rfl
    | k + 2, hr => simp at hr
/-- How far the sum is. -/
def SumAt (w w' : World) (mb r : Nat) (l : List SagaM) (bl : List Nat) (tot : Int) (v : Value) : Prop :=
  ∃ (left : Lit → Bool) (cnt : Nat), w'.ranges Tryz.prog 3 ptrR mb r l.length (dataOf (ilOf l bl)) left cnt ∧ v = .int .i64 (tot - restSum l left) ∧ New w w'
end Go.Proofs.YtkafmfdipmhleaaGreatDoor
