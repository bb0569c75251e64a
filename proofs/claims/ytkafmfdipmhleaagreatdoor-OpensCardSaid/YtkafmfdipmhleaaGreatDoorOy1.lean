/-
  What is proved: the contract of the iterator All, at every loop body that leaves the engine as it is. the contract of plain.All, on an engine of at most a hundred sagas. the contract of plain.All, on an engine of at most a hundred sagas, whatever the most. the contract of the statements' helper straight, where what was done has the right form. the contract of the statements' helper begun. contracts of the script's small calls: pick, near, blocks, num; a new disk and a new partner of any number. errors.As of a fault, at a target of the errors' numbers; plain.Told. (After the kit's worked text on errors.As.) errors.As of a fault that wraps a number. what a recovered fault is told as: failed, and the deferred closures where a device's error was thrown.
-/
import Derived.Test.YtkafmfdipmhleaaGreatDoorRa9
import Derived.RangeFuncNested
import Derived.RangeFuncBound
import Derived.RangeFuncCalls
import Derived.RangeFuncLeaves
import Derived.RangeFuncBox
import Derived.Shelf.Abstract
import Derived.Shelf.RegionOpen
import Derived.OwnWalkIn
import Derived.TacticsInMore
import Derived.LoopNIn
import Derived.LoopIn
import Derived.Maps.AppendAt
import Derived.WalkKit
import Derived.LaidEql
import Derived.Stop.Asserts
import Derived.RowKitTokens

namespace Go.Proofs.YtkafmfdipmhleaaGreatDoor
open Go.RowKit Go.Maps Go.Shelf

attribute [local go_sem] Oper.semAt_some

/-- What a round of a loop over All keeps. -/
def KpA (n₀ : Nat) (W W' : World) : Prop := Below n₀ W W' ∧ FrK [0, 66, 39] W W'
theorem KpA.refl (n₀ : Nat) (W : World) : KpA n₀ W W := ⟨Below.refl _ _, FrK.refl _ _⟩
theorem KpA.trans {n₀ : Nat} {A B C : World} (h : KpA n₀ A B) (k : KpA n₀ B C) : KpA n₀ A C := ⟨h.1.trans k.1, h.2.trans k.2⟩
theorem grown_below {w w' : World} (h : Below w.heap.size w w') : w.grownBy w' none := ⟨h.os, h.tape, h.output, h.size, fun k hk _ => h.block k hk⟩
theorem abides_below {β : Type} {B : Nat} {J : β → World → Prop} (hJ : AbidesFrom B J) {x : β} {w w' : World} (h : J x w) (hb : Below w.heap.size w w') : J x w' :=
  hJ x w w' none h (grown_below hb) (fun r e => by cases e)
set_option maxHeartbeats 1000000 in
/-- x.All(): the receiver is boxed. -/
theorem all59 (n : Nat) (xb : Nat) (w : World) :
    CallsIn Fence.wide n Tryz.prog 59 #[.pointer (some ⟨xb, 0, none⟩)] w fun e w' => e = .returned (.func (.func 84) #[] #[.pointer (some ⟨w.heap.size, 0, none⟩)]) ∧ w' = w.alloc (.cells #[.pointer (some ⟨xb, 0, none⟩)] 28) := by
  refine callsIn_of_wp Tryz.func59 rfl trivial ?_ rfl
  simp only [Tryz.ntmps59, List.size_toArray, List.length_cons, List.length_nil, Nat.reduceAdd, Nat.reduceSub, Array.replicate_succ, Array.replicate_zero, List.push_toArray, List.append_toArray, List.nil_append, List.cons_append]
  gi_wp2
  go_ret
  exact ⟨rfl, rfl⟩
set_option maxRecDepth 100000 in
set_option maxHeartbeats 4000000 in
/-- The iterator: it goes through the sagas in the order of their numbers. -/
theorem all84 (n : Nat) (hn : 1 ≤ n) {w0 : World} {q : Pl} {bl : List Nat} {s : StM} (hs : StAt w0 q bl s) (ho : s.sagas.Pairwise (fun a b => a.id < b.id)) (hok : ∀ g ∈ s.sagas, 1 ≤ g.id ∧ g.id ≤ 1000) (hl : s.sagas.length ≤ 1000)
    (l Bn : Nat) (J Jx : List SagaM → World → Prop) (W : World) (hJ : AbidesFrom W.heap.size J)
    (hY : ∀ pre x W1, J pre W1 → pre.length < s.sagas.length → YieldAt Fence.wide (n - 1) Tryz.prog l #[.agg x.status] W1 fun e W' =>
      (e = .returned (.bool true) ∧ J (pre ++ [x]) W' ∧ KpA w0.heap.size W1 W') ∨ (e = .returned (.bool false) ∧ Jx (pre ++ [x]) W'))
    (hBn : W.heap[Bn]? = some (.cells #[.pointer (some ⟨q.xb, 0, none⟩)] 28 (0, 0))) (hB : Below w0.heap.size w0 W) (h0 : J [] W) :
    CallsIn Fence.wide n Tryz.prog 84 #[.func (.yield l) #[] #[], .pointer (some ⟨Bn, 0, none⟩)] W fun e W' => (∃ v, e = .returned v) ∧
      ((∃ ys, ys = s.sagas ∧ J ys W') ∨ (∃ pre, pre <+: s.sagas ∧ Jx pre W')) := by
  have Hs := Lib.hid hs
  have Ho := Lib.hid ho
  have Hok := Lib.hid hok
  have hs1 := hs.keepK (below_toK hB (Nat.le_refl _) []) (by simp)
  have hx := hs1.eng
  simp only [egCells] at hx
  have hz : Maps.size (dataOf (ilOf s.sagas bl)) = s.sagas.length := by
    rw [size_dataOf, ilOf, List.length_zip, List.length_map, hs.len]; omega
  have HK := Lib.hid (fun m => (callsIn_wide (n := m)).2 (Keys_calls (some q.mb) W))
  have HS := Lib.hid (fun m => (callsIn_wide (n := m)).2 (Sorted_calls q.mb s.sagas.length (dataOf (ilOf s.sagas bl)) ptrR W hs1.mp (by rw [hz]; unfold maxLen; omega) (by rw [hz]; omega)))
  have Hl := Lib.hid hl
  have HB := Lib.hid hB
  have HY := Lib.hid hY
  have HJ := Lib.hid hJ
  have H0 := Lib.hid h0
  have a1 : W.cell? ⟨Bn, 0, none⟩ = some (.pointer (some ⟨q.xb, 0, none⟩)) := by rw [cellv, hBn]; rfl
  have Hbn : Hid (W.heap[Bn]? = some (.cells #[.pointer (some ⟨q.xb, 0, none⟩)] 28 (0, 0))) := hBn
  clear hs ho hok hl hs1 hz hJ hY hB h0 hBn
  have hcv := cellv W
  refine callsIn_of_wp Tryz.func84 rfl trivial ?_ rfl
  simp only [Tryz.ntmps84, List.size_toArray, List.length_cons, List.length_nil, Nat.reduceAdd, Nat.reduceSub, Array.replicate_succ, Array.replicate_zero, List.push_toArray, List.append_toArray, List.nil_append, List.cons_append]
  gi_wp2_with (first
    | (gi_at_call 48; refine (HK.out _).mono ?_; rintro e w2 ⟨rfl, rfl⟩)
    | (refine ⟨trivial, ?_⟩; gi_at_call 48; refine (HK.out _).mono ?_; rintro e w2 ⟨rfl, rfl⟩)
    | (refine ⟨trivial, ?_⟩; refine (HK.out _).mono ?_; rintro e w2 ⟨rfl, rfl⟩)
    | (refine ⟨trivial, ?_⟩; refine (HS.out _).mono ?_; rintro e w3 ⟨v, ss, rfl, hperm, hown, hnil, hbel⟩; obtain ⟨va, vc, rfl, hva⟩ := ids_shape hown)
    | fail)
  have hb1 : Below W.heap.size W w3 := ((Below.refl _ W).alloc (Nat.le_refl _) (.cells #[.map (some q.mb)] 76)).trans (hbel.mono (by simp))
  have hb3 : Below w0.heap.size w0 w3 := HB.out.trans (hb1.mono HB.out.size)
  have hids := keys_sorted Hs.out.len Ho.out hperm
  rw [hids] at hown
  have hlen : ss.length = s.sagas.length := by
    have := congrArg List.length hids
    simpa using this
  rw [hlen] at hown hva ⊢
  have hbn3 := (hb1.block Bn (lt_of_hp Hbn.out)).trans Hbn.out
  have HJ3 := Lib.hid (abides_below HJ.out H0.out hb1)
  have HB3 := Lib.hid hb3
  have Hbn3 := Lib.hid hbn3
  have Hva := Lib.hid hva
  have Hown := Lib.hid hown
  clear hcv hx a1 hnil hbel hb1 hb3 hids hperm hva hlen hown hbn3 Hbn HJ H0 HK HS
  gi_loopw [12] (fun i wr => ∃ k : Nat, k ≤ s.sagas.length ∧ i = .int .i64 (k : Nat) ∧ J (s.sagas.take k) wr ∧ Below w0.heap.size w0 wr ∧ FrK [0, 66, 39] w3 wr) (fun i _ => s.sagas.length - (intOf i).toNat)
  case atStart => exact ⟨0, Nat.zero_le _, rfl, HJ3.out, HB3.out, FrK.refl _ _⟩
  case round =>
    obtain ⟨k, hk, rfl, hJk, hbl, hfk⟩ := hrel
    have Hbl := Lib.hid hbl
    have Hfk := Lib.hid hfk
    have HJk := Lib.hid hJk
    have hbn := hfk.block _ _ Hbn3.out (by simp [kindOf])
    clear hbl hfk hJk
    by_cases hkn : k < s.sagas.length
    · obtain ⟨g, hg⟩ : ∃ g, s.sagas[k]? = some g := ⟨s.sagas[k], List.getElem?_eq_getElem hkn⟩
      obtain ⟨b, hb, hbo⟩ := blk_of s.sagas bl Hs.out.len Ho.out k g hg
      have hokg := Hok.out g (List.mem_of_getElem? hg)
      have hsr := Hs.out.keepK (below_toK Hbl.out (Nat.le_refl _) []) (by simp)
      have hlk := look_some hsr.mp g.id (by omega) hbo
      have hsg := hsr.sg k g b hg hb
      have hx := hsr.eng
      obtain ⟨sv, hsb, _⟩ := hsg
      simp only [egCells] at hx
      simp only [sgCells] at hsb
      obtain ⟨ib, rfl⟩ : ∃ ib, va = some ⟨ib, 0, none⟩ := by
        rcases Hva.out with h | h
        · omega
        · exact h
      have hgid : (s.sagas.map (·.id))[k]? = some g.id := by rw [List.getElem?_map, hg]; rfl
      have hcell := ints_at (own_keepK Hown.out Hfk.out (by decide)) k g.id hgid
      have htk : s.sagas.take k ++ [g] = s.sagas.take (k + 1) := by
        rw [List.take_succ_eq_append_getElem hkn]
        congr 2
        rw [List.getElem?_eq_getElem hkn] at hg; exact (Option.some.inj hg).symm
      obtain ⟨fn, tmps, assign, body, hy, hR⟩ := HY.out (s.sagas.take k) g wr HJk.out (by rw [List.length_take]; omega)
      rw [htk] at hR
      have HR := Lib.hid hR
      have hkI : (k : Int) < s.sagas.length := by omega
      have Hkn := Lib.hid hkn
      simp only [SagaM.status] at hy
      have hl30 := Hl.out
      clear hb hbo hsr hgid htk hR hg hkn hokg
      have hcv := cellv wr
      have a1 : wr.cell? ⟨Bn, 0, none⟩ = some (.pointer (some ⟨q.xb, 0, none⟩)) := by rw [cellv, hbn]; rfl
      gi_wp2
      refine HR.out.mono ?_
      rintro e W3 (⟨rfl, hJ3, hk3⟩ | ⟨rfl, hJx3⟩)
      · gi_wp2
        go_roundw
        case rel => exact ⟨k + 1, Hkn.out, by go_num, hJ3, Hbl.out.trans hk3.1, Hfk.out.trans hk3.2⟩
        case measure => have := Hkn.out; simp [intOf]; omega
      · gi_wp2
        refine bodyPost_ret (results_none rfl _ _ _) rfl ?_
        exact ⟨⟨_, rfl⟩, .inr ⟨s.sagas.take (k + 1), List.take_prefix _ _, hJx3⟩⟩
    · obtain rfl : k = s.sagas.length := by omega
      have hnk : ¬ ((s.sagas.length : Int) < s.sagas.length) := by omega
      gi_wp2
      go_end0
      exact ⟨⟨_, rfl⟩, .inl (by have := HJk.out; rw [List.take_length] at this; exact this)⟩
end Go.Proofs.YtkafmfdipmhleaaGreatDoor

namespace Go.Proofs.YtkafmfdipmhleaaGreatDoor
open Go.RowKit Go.Maps Go.Shelf

attribute [local go_sem] Oper.semAt_some

theorem FrK.keepsFrom {K : List Nat} {W W' : World} (h : FrK K W W') (hK : 0 ∉ K) (B : Nat) : KeepsFrom B W W' :=
  ⟨h.size, fun k o _ hk ho => h.block k o hk (by cases o <;> first | exact hK | cases ho)⟩
theorem KpA.of {n₀ : Nat} {K : List Nat} {W W' : World} (h : FrK K W W') (hK : ∀ k ∈ K, k ∈ [0, 66, 39]) (hb : Below n₀ W W') : KpA n₀ W W' := ⟨hb, h.mono hK⟩
theorem KpA.put {n₀ : Nat} {w : World} (hn : n₀ ≤ w.heap.size) (W : World) (l : Nat) (o o' : Obj) (hl : w.heap.size ≤ l) (h : W.heap[l]? = some o) (hc : o.isCells = false) (hw : o.isWalk = false) : KpA n₀ W (W.putObj l o') :=
  ⟨belowK_b hn W l o o' hl h hc hw, rfl, rfl, rfl, by simp, fun k x hx hk => by
    have hg := grownBy_putObj' W l o'
    refine (hg.block k (lt_of_hp hx) (fun e => ?_)).trans hx
    cases e
    rw [h] at hx; cases hx
    exact hk (by cases o <;> simp_all [kindOf, Obj.isCells])⟩
theorem Tryz.info38z : (Tryz.prog.info? 38).map (fun i => (i.zero, i.size, i.bytes)) = some (some (.agg #[.int .i64 0, .int .i64 0, .int .i64 0, .int .i64 0, .int .i64 0, .int .i64 0]), 6, 48) := by kernel_rfl
def stCells (l : List SagaM) : List Value := l.flatMap (fun g => g.status.toList)
theorem stCells_len (l : List SagaM) : (stCells l).length = l.length * 6 := by
  induction l with
  | nil => rfl
  | cons a l ih => simp [stCells, SagaM.status] at ih ⊢; omega
theorem stCells_snoc (l : List SagaM) (g : SagaM) : stCells (l ++ [g]) = stCells l ++ g.status.toList := by simp [stCells]
theorem all_stops (n : Nat) (hn : 1 ≤ n) {w0 w : World} {q : Pl} {bl : List Nat} {s : StM} (hs : StAt w0 q bl s) (ho : s.sagas.Pairwise (fun a b => a.id < b.id)) (hok : ∀ g ∈ s.sagas, 1 ≤ g.id ∧ g.id ≤ 1000) (hl : s.sagas.length ≤ 1000)
    (Bn : Nat) (hBn : w.heap[Bn]? = some (.cells #[.pointer (some ⟨q.xb, 0, none⟩)] 28 (0, 0))) (hB : Below w0.heap.size w0 w) :
    SeqStopsK Fence.wide n Tryz.prog 84 #[.pointer (some ⟨Bn, 0, none⟩)] (fun g : SagaM => #[Value.agg g.status]) (KpA w0.heap.size) (fun ys => ys = s.sagas) (fun pre => pre <+: s.sagas) s.sagas.length w :=
  fun l J Jx W hW hJ _ hY h0 => all84 n hn hs ho hok hl l Bn J Jx W hJ hY ((hW.block Bn (lt_of_hp hBn)).trans hBn) (hB.trans (hW.mono hB.size)) h0
set_option maxRecDepth 100000 in
set_option maxHeartbeats 4000000 in
theorem All_calls {w : World} {q : Pl} {bl : List Nat} {s : StM} (hs : StAt w q bl s) (ho : s.sagas.Pairwise (fun a b => a.id < b.id)) (hok : ∀ g ∈ s.sagas, 1 ≤ g.id ∧ g.id ≤ 1000) (hl : s.sagas.length ≤ 100) :
    Calls Tryz.prog 32 #[.pointer (some ⟨q.xb, 0, none⟩), .int .i64 100] w fun e w' => ∃ v, e = .returned v ∧ w'.ownsRow w.heap.size 38 6 v s.sagas.length (stCells s.sagas) ∧ Below w.heap.size w w' := by
  refine (callsIn_wide (n := 10)).1 ?_
  obtain ⟨i0, hi, hz0, hz1, hz2⟩ := info_parts Tryz.info38z
  refine callsIn_of_wp_marks Tryz.func32 rfl trivial ?_ rfl
  simp only [Tryz.ntmps32, List.size_toArray, List.length_cons, List.length_nil, Nat.reduceAdd, Nat.reduceSub, Array.replicate_succ, Array.replicate_zero, List.push_toArray, List.append_toArray, List.nil_append, List.cons_append]
  have Hs := Lib.hid hs
  have Ho := Lib.hid ho
  have Hok := Lib.hid hok
  have Hl := Lib.hid hl
  clear hs ho hok hl
  gi_wp2_with (first
    | (refine ⟨trivial, ?_⟩; refine (all59 9 q.xb _).mono ?_; rintro e w' ⟨rfl, rfl⟩)
    | fail)
  have bM := ((Boxed.new w 3 (.int .i64 100)).alloc (.cells #[.slice none 0 0] 65)).alloc (.cells #[.pointer (some ⟨q.xb, 0, none⟩)] 28)
  have bO := (Boxed.new (w.alloc (.cells #[.int .i64 100] 3)) 65 (.slice none 0 0)).alloc (.cells #[.pointer (some ⟨q.xb, 0, none⟩)] 28)
  have bA := Boxed.new ((w.alloc (.cells #[.int .i64 100] 3)).alloc (.cells #[.slice none 0 0] 65)) 28 (.pointer (some ⟨q.xb, 0, none⟩))
  simp only [World.size_alloc] at bO bA
  have hB0 : Below w.heap.size w (((w.alloc (.cells #[.int .i64 100] 3)).alloc (.cells #[.slice none 0 0] 65)).alloc (.cells #[.pointer (some ⟨q.xb, 0, none⟩)] 28)) := (((Below.refl _ w).alloc (Nat.le_refl _) _).alloc (by simp) _).alloc (by simp; omega) _
  have hsz : (((w.alloc (.cells #[.int .i64 100] 3)).alloc (.cells #[.slice none 0 0] 65)).alloc (.cells #[.pointer (some ⟨q.xb, 0, none⟩)] 28)).heap.size = w.heap.size + 3 := by simp
  obtain ⟨W0, hW0⟩ : ∃ W0, ((w.alloc (.cells #[.int .i64 100] 3)).alloc (.cells #[.slice none 0 0] 65)).alloc (.cells #[.pointer (some ⟨q.xb, 0, none⟩)] 28) = W0 := ⟨_, rfl⟩
  rw [hW0] at bM bO bA hB0 hsz
  simp only [World.size_alloc, hW0]
  refine wpIn_rangeFunc_ownH rfl (by omega) (gf := 84) (lb := #[.pointer (some ⟨w.heap.size + 1 + 1, 0, none⟩)]) rfl trivial (enters_of Tryz.func84 (by kernel_rfl) rfl)
    (all_stops 9 (by omega) Hs.out Ho.out Hok.out (by have := Hl.out; omega) (w.heap.size + 1 + 1) bA hB0) KpA.trans (KpA.put (by omega)) (Below.refl _ _) (fun _ => rfl)
    (fun pre W => ((∃ v, Boxed W (w.heap.size + 1) 65 v ∧ W.ownsRow w.heap.size 38 6 v pre.length (stCells pre) ∧ (v = .slice none 0 0 ↔ pre = [])) ∧ Boxed W w.heap.size 3 (.int .i64 100)) ∧ Below w.heap.size w W)
    (fun _ _ _ => False)
    (OwnFrom.and (OwnFrom.and (Own.from (holdsRow_own w.heap.size (w.heap.size + 1) 65 38 6 (fun pre => pre.length) (fun pre => stCells pre) (fun pre v => v = .slice none 0 0 ↔ pre = [])) _) (Own.from (boxed_own _ _ _) _)) (ownFrom_below (Nat.le_refl _) (by omega)))
    (fun _ _ _ _ _ hs _ _ => hs)
    ⟨⟨⟨_, bO, World.ownsRow_nil _ _ _ _, by simp⟩, bM⟩, hB0⟩
    (fun x a' W => ∃ Bx, w.heap.size + 1 < Bx ∧ W.heap[Bx]? = some (.cells x.status 38 (0, 0)) ∧ a' = { tmps := #[.pointer (some ⟨q.xb, 0, none⟩), .int .i64 100, undef, .pointer (some ⟨w.heap.size, 0, none⟩), .slice none 0 0, .pointer (some ⟨w.heap.size + 1, 0, none⟩), .pointer (some ⟨Bx, 0, none⟩), .int .i64 100, .bool false, .pointer (some ⟨q.xb, 0, none⟩), .func (.func 84) #[] #[.pointer (some ⟨w.heap.size + 1 + 1, 0, none⟩)], .agg x.status, undef, undef, undef, undef, undef, undef, undef, undef, undef], defers := [] })
    (fun x a' _ X Y row hs hg hr => by
      obtain ⟨Bx, h1, h2, h3⟩ := hs
      refine ⟨Bx, h1, (hg.block Bx (lt_of_hp h2) (fun e => ?_)).trans h2, h3⟩
      obtain ⟨_, o, ho, hc⟩ := hr Bx e.symm
      rw [h2] at ho; cases ho; cases hc)
    ?assign ?body ?done ?stop
  case assign =>
    rintro l pre x W K ⟨⟨⟨v, hv, hrow, hnil⟩, bM1⟩, hB1⟩ hK
    have hst : Hid (#[Value.int .i64 x.id, Value.int .i64 x.st, Value.int .i64 x.step, Value.int .i64 x.steps.length, Value.int .i64 x.tries, Value.int .i64 x.due] = x.status) := rfl
    simp only [SagaM.status]
    gi_wp2
    rw [hst.out]
    exact hK _ _ (FrK.keepsFrom (K := []) (((Fr.refl (fun _ => False) W).alloc _).toK (fun _ _ f _ => f.elim)) (by simp) _)
      ⟨(Below.refl _ W).alloc hB1.size _, ((Fr.refl (fun _ => False) W).alloc _).toK (fun _ _ f _ => f.elim)⟩
      ⟨⟨⟨v, hv.alloc _, hrow.alloc _, hnil⟩, bM1.alloc _⟩, hB1.alloc hB1.size _⟩ ⟨W.heap.size, hv.lt, World.alloc_heap_new W _, rfl⟩
  case body =>
    rintro l pre x a' W hl ⟨r, hr⟩ ⟨⟨⟨v, hv, hrow, hnil⟩, bM1⟩, hB1⟩ ⟨Bx, hBx, bX, rfl⟩ hlt
    have hc := hv.cell
    have hm := bM1.cell
    have hne : ¬ ((pre.length : Int) = 100) := by have := Hl.out; omega
    obtain ⟨va, vc, rfl⟩ : ∃ va vc, v = .slice va pre.length vc := by
      rcases hrow.2 with ⟨h1, h2⟩ | ⟨g, cap, cur, h1, _⟩
      · exact ⟨none, 0, by rw [h1, h2]⟩
      · exact ⟨_, _, h1⟩
    have hst : Hid (#[Value.int .i64 x.id, Value.int .i64 x.st, Value.int .i64 x.step, Value.int .i64 x.steps.length, Value.int .i64 x.tries, Value.int .i64 x.due] = x.status) := rfl
    have Hrow := Lib.hid hrow
    have Hv := Lib.hid hv
    have HM1 := Lib.hid bM1
    have HB1 := Lib.hid hB1
    have Hnil := Lib.hid hnil
    simp only [SagaM.status] at bX ⊢
    have hoA := Lib.hid (hrow.alloc (.cells #[Value.int .i64 x.id, Value.int .i64 x.st, Value.int .i64 x.step, Value.int .i64 x.steps.length, Value.int .i64 x.tries, Value.int .i64 x.due] 38))
    have hnews : ∀ (j : Nat) (u : Value), [Value.int .i64 x.id, Value.int .i64 x.st, Value.int .i64 x.step, Value.int .i64 x.steps.length, Value.int .i64 x.tries, Value.int .i64 x.due][j]? = some u → (W.alloc (.cells #[Value.int .i64 x.id, Value.int .i64 x.st, Value.int .i64 x.step, Value.int .i64 x.steps.length, Value.int .i64 x.tries, Value.int .i64 x.due] 38)).cell? ((⟨W.heap.size, 0, none⟩ : Addr).add j) = some u := World.news_of_block (heap_alloc_new W _)
    have Hnews := Lib.hid hnews
    have hlt' := Lib.hid hlt
    clear hrow hv bM1 hB1 hnil hnews hlt hr
    have hcv := cellv W
    gi_wp2_with (first
      | (gi_at_builtin; refine wpListIn_append_own _ rfl _ _ 65 rfl w.heap.size 38 i0 (.agg #[.int .i64 0, .int .i64 0, .int .i64 0, .int .i64 0, .int .i64 0, .int .i64 0]) 6 48 Tryz.underlying65 hi hz0 hz1 hz2 rfl (by decide) _ _ _ rfl hoA.out ⟨W.heap.size, 0, none⟩ 1 1 [Value.int .i64 x.id, Value.int .i64 x.st, Value.int .i64 x.step, Value.int .i64 x.steps.length, Value.int .i64 x.tries, Value.int .i64 x.due] rfl rfl Hnews.out (by intro u hu; simp at hu; rcases hu with rfl | rfl | rfl | rfl | rfl | rfl <;> rfl) (by unfold maxLen; have := hlt'.out; have := Hl.out; omega) (by have := hlt'.out; have := Hl.out; omega) (by have := HB1.out.size; simp; omega) ?_; intro v' w1 hown' hgrow _; obtain ⟨g', cap', rfl⟩ := ownsRow_succ hown'; obtain ⟨hv1, hv2, hr2, hk2, hb2⟩ := Hv.out.appended (by decide) Hrow.out HB1.out.size (by omega) hown' hgrow; have hc1 := hv1.cell; have hf1 := hv1.frozen)
      | fail)
    have hg1 : (W.alloc (.cells #[Value.int .i64 x.id, Value.int .i64 x.st, Value.int .i64 x.step, Value.int .i64 x.steps.length, Value.int .i64 x.tries, Value.int .i64 x.due] 38)).grownBy w1 (Value.slice va pre.length vc).ownBlock := hgrow
    have hF : FrK [66, 39] W (w1.setCell ⟨w.heap.size + 1, 0, none⟩ (.slice (some ⟨g', 0, none⟩) (pre.length + 1) cap')) := by
      refine FrK.trans (b := W.alloc (.cells #[Value.int .i64 x.id, Value.int .i64 x.st, Value.int .i64 x.step, Value.int .i64 x.steps.length, Value.int .i64 x.tries, Value.int .i64 x.due] 38)) (((Fr.refl (fun _ => False) W).alloc _).toK (fun _ _ f _ => f.elim)) (FrK.trans (b := w1) ((Fr.ofGrown hg1).toK ?_) ((Fr.one (w.heap.size + 1) w1 0 _).toK ?_))
      · intro k o hk ho
        obtain ⟨o', ho', hk'⟩ := own_kind hoA.out hk
        rw [ho] at ho'; cases ho'
        simp [hk']
      · rintro k o rfl ho
        rw [show w1.heap[w.heap.size + 1]? = _ from hv1] at ho; cases ho
        simp [kindOf]
    refine ⟨hF.keepsFrom (by simp) _, KpA.of hF (by simp) hb2, ⟨⟨_, hv2, ?_, by simp⟩, hF.block _ _ HM1.out (by simp [kindOf])⟩, HB1.out.trans hb2⟩
    rw [stCells_snoc, List.length_append, List.length_singleton]
    exact hr2
  case done =>
    rintro D ys W hD rfl ⟨⟨⟨v, hv, hrow, hnil⟩, bM1⟩, hB1⟩ hK
    have hc := hv.cell
    obtain ⟨va, vc, rfl⟩ : ∃ va vc, v = .slice va s.sagas.length vc := by
      rcases hrow.2 with ⟨h1, h2⟩ | ⟨g, cap, cur, h1, _⟩
      · exact ⟨none, 0, by rw [h1, h2]⟩
      · exact ⟨_, _, h1⟩
    gi_wp2
    refine ⟨by simp, .inl ⟨_, _, rfl, run_takeDeferred hK, ?_⟩⟩
    exact ⟨_, results_tmp rfl _ _ _, _, rfl, ownsRow_putObj hrow _ hK rfl, hB1.trans (belowK_b (w := w) (Nat.le_refl _) W D _ _ (by omega) hK rfl rfl)⟩
  case stop =>
    rintro D c pre W _ _ h _
    exact h.elim
end Go.Proofs.YtkafmfdipmhleaaGreatDoor

namespace Go.Proofs.YtkafmfdipmhleaaGreatDoor
open Go.RowKit Go.Maps Go.Shelf

attribute [local go_sem] Oper.semAt_some

set_option maxRecDepth 100000 in
set_option maxHeartbeats 4000000 in
theorem All_gen {w : World} {M : Nat} {q : Pl} {bl : List Nat} {s : StM} (hs : StAt w q bl s) (ho : s.sagas.Pairwise (fun a b => a.id < b.id)) (hok : ∀ g ∈ s.sagas, 1 ≤ g.id ∧ g.id ≤ 1000) (hl : s.sagas.length ≤ M ∧ s.sagas.length ≤ 100) (hM : 1 ≤ M) :
    Calls Tryz.prog 32 #[.pointer (some ⟨q.xb, 0, none⟩), .int .i64 (M : Nat)] w fun e w' => ∃ v, e = .returned v ∧ w'.ownsRow w.heap.size 38 6 v s.sagas.length (stCells s.sagas) ∧ Below w.heap.size w w' := by
  refine (callsIn_wide (n := 10)).1 ?_
  obtain ⟨i0, hi, hz0, hz1, hz2⟩ := info_parts Tryz.info38z
  refine callsIn_of_wp_marks Tryz.func32 rfl trivial ?_ rfl
  simp only [Tryz.ntmps32, List.size_toArray, List.length_cons, List.length_nil, Nat.reduceAdd, Nat.reduceSub, Array.replicate_succ, Array.replicate_zero, List.push_toArray, List.append_toArray, List.nil_append, List.cons_append]
  have Hs := Lib.hid hs
  have Ho := Lib.hid ho
  have Hok := Lib.hid hok
  have Hl := Lib.hid hl
  have hM1 : ¬ ((M : Int) < 1) := by omega
  clear hs ho hok hl
  gi_wp2_with (first
    | (refine ⟨trivial, ?_⟩; refine (all59 9 q.xb _).mono ?_; rintro e w' ⟨rfl, rfl⟩)
    | fail)
  have bM := ((Boxed.new w 3 (.int .i64 (M : Nat))).alloc (.cells #[.slice none 0 0] 65)).alloc (.cells #[.pointer (some ⟨q.xb, 0, none⟩)] 28)
  have bO := (Boxed.new (w.alloc (.cells #[.int .i64 (M : Nat)] 3)) 65 (.slice none 0 0)).alloc (.cells #[.pointer (some ⟨q.xb, 0, none⟩)] 28)
  have bA := Boxed.new ((w.alloc (.cells #[.int .i64 (M : Nat)] 3)).alloc (.cells #[.slice none 0 0] 65)) 28 (.pointer (some ⟨q.xb, 0, none⟩))
  simp only [World.size_alloc] at bO bA
  have hB0 : Below w.heap.size w (((w.alloc (.cells #[.int .i64 (M : Nat)] 3)).alloc (.cells #[.slice none 0 0] 65)).alloc (.cells #[.pointer (some ⟨q.xb, 0, none⟩)] 28)) := (((Below.refl _ w).alloc (Nat.le_refl _) _).alloc (by simp) _).alloc (by simp; omega) _
  have hsz : (((w.alloc (.cells #[.int .i64 (M : Nat)] 3)).alloc (.cells #[.slice none 0 0] 65)).alloc (.cells #[.pointer (some ⟨q.xb, 0, none⟩)] 28)).heap.size = w.heap.size + 3 := by simp
  obtain ⟨W0, hW0⟩ : ∃ W0, ((w.alloc (.cells #[.int .i64 (M : Nat)] 3)).alloc (.cells #[.slice none 0 0] 65)).alloc (.cells #[.pointer (some ⟨q.xb, 0, none⟩)] 28) = W0 := ⟨_, rfl⟩
  rw [hW0] at bM bO bA hB0 hsz
  simp only [World.size_alloc, hW0]
  refine wpIn_rangeFunc_ownH rfl (by omega) (gf := 84) (lb := #[.pointer (some ⟨w.heap.size + 1 + 1, 0, none⟩)]) rfl trivial (enters_of Tryz.func84 (by kernel_rfl) rfl)
    (all_stops 9 (by omega) Hs.out Ho.out Hok.out (by have := Hl.out.2; omega) (w.heap.size + 1 + 1) bA hB0) KpA.trans (KpA.put (by omega)) (Below.refl _ _) (fun _ => rfl)
    (fun pre W => ((∃ v, Boxed W (w.heap.size + 1) 65 v ∧ W.ownsRow w.heap.size 38 6 v pre.length (stCells pre) ∧ (v = .slice none 0 0 ↔ pre = [])) ∧ Boxed W w.heap.size 3 (.int .i64 (M : Nat))) ∧ Below w.heap.size w W)
    (fun _ _ _ => False)
    (OwnFrom.and (OwnFrom.and (Own.from (holdsRow_own w.heap.size (w.heap.size + 1) 65 38 6 (fun pre => pre.length) (fun pre => stCells pre) (fun pre v => v = .slice none 0 0 ↔ pre = [])) _) (Own.from (boxed_own _ _ _) _)) (ownFrom_below (Nat.le_refl _) (by omega)))
    (fun _ _ _ _ _ hs _ _ => hs)
    ⟨⟨⟨_, bO, World.ownsRow_nil _ _ _ _, by simp⟩, bM⟩, hB0⟩
    (fun x a' W => ∃ Bx, w.heap.size + 1 < Bx ∧ W.heap[Bx]? = some (.cells x.status 38 (0, 0)) ∧ a' = { tmps := #[.pointer (some ⟨q.xb, 0, none⟩), .int .i64 (M : Nat), undef, .pointer (some ⟨w.heap.size, 0, none⟩), .slice none 0 0, .pointer (some ⟨w.heap.size + 1, 0, none⟩), .pointer (some ⟨Bx, 0, none⟩), .int .i64 (M : Nat), .bool false, .pointer (some ⟨q.xb, 0, none⟩), .func (.func 84) #[] #[.pointer (some ⟨w.heap.size + 1 + 1, 0, none⟩)], .agg x.status, undef, undef, undef, undef, undef, undef, undef, undef, undef], defers := [] })
    (fun x a' _ X Y row hs hg hr => by
      obtain ⟨Bx, h1, h2, h3⟩ := hs
      refine ⟨Bx, h1, (hg.block Bx (lt_of_hp h2) (fun e => ?_)).trans h2, h3⟩
      obtain ⟨_, o, ho, hc⟩ := hr Bx e.symm
      rw [h2] at ho; cases ho; cases hc)
    ?assign ?body ?done ?stop
  case assign =>
    rintro l pre x W K ⟨⟨⟨v, hv, hrow, hnil⟩, bM1⟩, hB1⟩ hK
    have hst : Hid (#[Value.int .i64 x.id, Value.int .i64 x.st, Value.int .i64 x.step, Value.int .i64 x.steps.length, Value.int .i64 x.tries, Value.int .i64 x.due] = x.status) := rfl
    simp only [SagaM.status]
    gi_wp2
    rw [hst.out]
    exact hK _ _ (FrK.keepsFrom (K := []) (((Fr.refl (fun _ => False) W).alloc _).toK (fun _ _ f _ => f.elim)) (by simp) _)
      ⟨(Below.refl _ W).alloc hB1.size _, ((Fr.refl (fun _ => False) W).alloc _).toK (fun _ _ f _ => f.elim)⟩
      ⟨⟨⟨v, hv.alloc _, hrow.alloc _, hnil⟩, bM1.alloc _⟩, hB1.alloc hB1.size _⟩ ⟨W.heap.size, hv.lt, World.alloc_heap_new W _, rfl⟩
  case body =>
    rintro l pre x a' W hl ⟨r, hr⟩ ⟨⟨⟨v, hv, hrow, hnil⟩, bM1⟩, hB1⟩ ⟨Bx, hBx, bX, rfl⟩ hlt
    have hc := hv.cell
    have hm := bM1.cell
    have hne : ¬ ((pre.length : Int) = (M : Int)) := by have := Hl.out.1; omega
    obtain ⟨va, vc, rfl⟩ : ∃ va vc, v = .slice va pre.length vc := by
      rcases hrow.2 with ⟨h1, h2⟩ | ⟨g, cap, cur, h1, _⟩
      · exact ⟨none, 0, by rw [h1, h2]⟩
      · exact ⟨_, _, h1⟩
    have hst : Hid (#[Value.int .i64 x.id, Value.int .i64 x.st, Value.int .i64 x.step, Value.int .i64 x.steps.length, Value.int .i64 x.tries, Value.int .i64 x.due] = x.status) := rfl
    have Hrow := Lib.hid hrow
    have Hv := Lib.hid hv
    have HM1 := Lib.hid bM1
    have HB1 := Lib.hid hB1
    have Hnil := Lib.hid hnil
    simp only [SagaM.status] at bX ⊢
    have hoA := Lib.hid (hrow.alloc (.cells #[Value.int .i64 x.id, Value.int .i64 x.st, Value.int .i64 x.step, Value.int .i64 x.steps.length, Value.int .i64 x.tries, Value.int .i64 x.due] 38))
    have hnews : ∀ (j : Nat) (u : Value), [Value.int .i64 x.id, Value.int .i64 x.st, Value.int .i64 x.step, Value.int .i64 x.steps.length, Value.int .i64 x.tries, Value.int .i64 x.due][j]? = some u → (W.alloc (.cells #[Value.int .i64 x.id, Value.int .i64 x.st, Value.int .i64 x.step, Value.int .i64 x.steps.length, Value.int .i64 x.tries, Value.int .i64 x.due] 38)).cell? ((⟨W.heap.size, 0, none⟩ : Addr).add j) = some u := World.news_of_block (heap_alloc_new W _)
    have Hnews := Lib.hid hnews
    have hlt' := Lib.hid hlt
    clear hrow hv bM1 hB1 hnil hnews hlt hr
    have hcv := cellv W
    gi_wp2_with (first
      | (gi_at_builtin; refine wpListIn_append_own _ rfl _ _ 65 rfl w.heap.size 38 i0 (.agg #[.int .i64 0, .int .i64 0, .int .i64 0, .int .i64 0, .int .i64 0, .int .i64 0]) 6 48 Tryz.underlying65 hi hz0 hz1 hz2 rfl (by decide) _ _ _ rfl hoA.out ⟨W.heap.size, 0, none⟩ 1 1 [Value.int .i64 x.id, Value.int .i64 x.st, Value.int .i64 x.step, Value.int .i64 x.steps.length, Value.int .i64 x.tries, Value.int .i64 x.due] rfl rfl Hnews.out (by intro u hu; simp at hu; rcases hu with rfl | rfl | rfl | rfl | rfl | rfl <;> rfl) (by unfold maxLen; have := hlt'.out; have := Hl.out.2; omega) (by have := hlt'.out; have := Hl.out.2; omega) (by have := HB1.out.size; simp; omega) ?_; intro v' w1 hown' hgrow _; obtain ⟨g', cap', rfl⟩ := ownsRow_succ hown'; obtain ⟨hv1, hv2, hr2, hk2, hb2⟩ := Hv.out.appended (by decide) Hrow.out HB1.out.size (by omega) hown' hgrow; have hc1 := hv1.cell; have hf1 := hv1.frozen)
      | fail)
    have hg1 : (W.alloc (.cells #[Value.int .i64 x.id, Value.int .i64 x.st, Value.int .i64 x.step, Value.int .i64 x.steps.length, Value.int .i64 x.tries, Value.int .i64 x.due] 38)).grownBy w1 (Value.slice va pre.length vc).ownBlock := hgrow
    have hF : FrK [66, 39] W (w1.setCell ⟨w.heap.size + 1, 0, none⟩ (.slice (some ⟨g', 0, none⟩) (pre.length + 1) cap')) := by
      refine FrK.trans (b := W.alloc (.cells #[Value.int .i64 x.id, Value.int .i64 x.st, Value.int .i64 x.step, Value.int .i64 x.steps.length, Value.int .i64 x.tries, Value.int .i64 x.due] 38)) (((Fr.refl (fun _ => False) W).alloc _).toK (fun _ _ f _ => f.elim)) (FrK.trans (b := w1) ((Fr.ofGrown hg1).toK ?_) ((Fr.one (w.heap.size + 1) w1 0 _).toK ?_))
      · intro k o hk ho
        obtain ⟨o', ho', hk'⟩ := own_kind hoA.out hk
        rw [ho] at ho'; cases ho'
        simp [hk']
      · rintro k o rfl ho
        rw [show w1.heap[w.heap.size + 1]? = _ from hv1] at ho; cases ho
        simp [kindOf]
    refine ⟨hF.keepsFrom (by simp) _, KpA.of hF (by simp) hb2, ⟨⟨_, hv2, ?_, by simp⟩, hF.block _ _ HM1.out (by simp [kindOf])⟩, HB1.out.trans hb2⟩
    rw [stCells_snoc, List.length_append, List.length_singleton]
    exact hr2
  case done =>
    rintro D ys W hD rfl ⟨⟨⟨v, hv, hrow, hnil⟩, bM1⟩, hB1⟩ hK
    have hc := hv.cell
    obtain ⟨va, vc, rfl⟩ : ∃ va vc, v = .slice va s.sagas.length vc := by
      rcases hrow.2 with ⟨h1, h2⟩ | ⟨g, cap, cur, h1, _⟩
      · exact ⟨none, 0, by rw [h1, h2]⟩
      · exact ⟨_, _, h1⟩
    gi_wp2
    refine ⟨by simp, .inl ⟨_, _, rfl, run_takeDeferred hK, ?_⟩⟩
    exact ⟨_, results_tmp rfl _ _ _, _, rfl, ownsRow_putObj hrow _ hK rfl, hB1.trans (belowK_b (w := w) (Nat.le_refl _) W D _ _ (by omega) hK rfl rfl)⟩
  case stop =>
    rintro D c pre W _ _ h _
    exact h.elim
end Go.Proofs.YtkafmfdipmhleaaGreatDoor

namespace Go.Proofs.YtkafmfdipmhleaaGreatDoor
open Go.RowKit Go.Maps

/-- What the list of a saga's effects reads as. -/
theorem shape_at {F : List CallM} {K M : Nat} (h : F.map (fun c => (c.step, c.back)) = fw K ++ bw K M) : F.length = K + M ∧ (∀ k (hk : k < F.length), k < K → F[k].step = (k : Int) + 1 ∧ F[k].back = false) ∧ (∀ k (hk : k < F.length), K ≤ k → F[k].step = (K : Int) - ((k : Int) - K) ∧ F[k].back = true) := by
  have hlen : F.length = K + M := by
    have := congrArg List.length h
    simpa [fw, bw] using this
  have key : ∀ k (hk : k < F.length), (fw K ++ bw K M)[k]? = some (F[k].step, F[k].back) := by
    intro k hk
    rw [← h, List.getElem?_map, List.getElem?_eq_getElem hk]; rfl
  refine ⟨hlen, fun k hk hK => ?_, fun k hk hK => ?_⟩
  · have := key k hk
    rw [List.getElem?_append_left (by simp [fw]; exact hK)] at this
    simp only [fw, List.getElem?_map, List.getElem?_range hK, Option.map_some, Option.some.injEq, Prod.mk.injEq] at this
    exact ⟨this.1.symm, this.2.symm⟩
  · have := key k hk
    rw [List.getElem?_append_right (by simp [fw]; exact hK)] at this
    have hl : (fw K).length = K := by simp [fw]
    rw [hl] at this
    simp only [bw, List.getElem?_map, List.getElem?_range (show k - K < M by omega), Option.map_some, Option.some.injEq, Prod.mk.injEq] at this
    exact ⟨by rw [← this.1]; omega, this.2.symm⟩
/-- How an own slice of calls reads. -/
theorem calls_read {w : World} {B : Nat} {v : Value} {F : List CallM} (h : w.ownsRow B 46 4 v F.length (effCells F)) : ∃ va vc, v = .slice va F.length vc ∧
    ∀ k (hk : k < F.length), ∃ g, va = some ⟨g, 0, none⟩ ∧ (∃ o, w.heap[g]? = some o) ∧ ∀ w' : World, w'.heap[g]? = w.heap[g]? → cellOf w'.heap[g]? (k * 4) = some (.int .i64 F[k].saga) ∧ cellOf w'.heap[g]? (k * 4 + 1) = some (.int .i64 F[k].step) ∧
      cellOf w'.heap[g]? (k * 4 + 2) = some (.bool F[k].back) ∧ cellOf w'.heap[g]? (k * 4 + 3) = some (.string F[k].data) := by
  obtain ⟨o1, ⟨rfl, h0⟩ | ⟨g, cap, cur, rfl, hg, hh, _, _, _, htk⟩⟩ := h
  · exact ⟨none, 0, by rw [h0], fun k hk => by omega⟩
  · refine ⟨_, cap, rfl, fun k hk => ⟨g, rfl, ⟨_, hh⟩, fun w' hf => ?_⟩⟩
    have key : ∀ q, q < 4 → cellOf w'.heap[g]? (k * 4 + q) = F[k].cells[q]? := by
      intro q hq
      have := effCells_get F k hk q hq
      rw [hf, hh, cellOf_cells]
      rw [← htk, List.getElem?_take_of_lt (by omega)] at this
      simpa using this
    exact ⟨key 0 (by omega), key 1 (by omega), key 2 (by omega), key 3 (by omega)⟩
theorem Tryz.info46s' : (Tryz.prog.info? 46).map (·.size) = some 4 := by kernel_rfl
set_option maxRecDepth 100000 in
set_option maxHeartbeats 4000000 in
theorem straight_calls {w : World} {pb : Nat} {p : PartM} (h : PAt w pb p) (hl : p.effs.length < 2 ^ 30) (id : Int) (n K M : Nat) (hm : mineOf p.effs id = fw K ++ bw K M) (hK : K ≤ n) (hM : M ≤ K) (hKM : M = 0 ∨ K < n) (hn : n < 2 ^ 30) :
    Calls Tryz.prog 22 #[.pointer (some ⟨pb, 0, none⟩), .int .i64 id, .int .i64 n] w fun e w' => e = .returned (.bool true) ∧ New w w' := by
  obtain ⟨lv, va, vc, iv, h1, hrow⟩ := effs_read h
  generalize p.effs = effs at *
  obtain ⟨i0, hi, hz0, hz1, hz2⟩ := info_parts Tryz.info46
  have Hsh := Lib.hid (shape_at (F := effs.filter fun c => c.saga == id) hm)
  have Hrow := Lib.hid hrow
  have Hl := Lib.hid hl
  have H1 := Lib.hid h1
  have HK := Lib.hid hK
  have HM := Lib.hid hM
  have HKM := Lib.hid hKM
  have Hn := Lib.hid hn
  clear h h1 hrow hl hm hK hM hKM hn
  go_enter Tryz.func22, Tryz.ntmps22
  go_wp2_with fail
  go_loopw [7, 8] (fun sv i wr => ∃ k : Nat, k ≤ effs.length ∧ i = .int .i64 k ∧ wr.ownsRow w.heap.size 46 4 sv ((effs.take k).filter fun c => c.saga == id).length (effCells ((effs.take k).filter fun c => c.saga == id)) ∧ New w wr) (fun _ i _ => effs.length - (intOf i).toNat)
  case atStart => exact ⟨0, Nat.zero_le _, rfl, World.ownsRow_nil w w.heap.size 46 4, Fr.refl _ _⟩
  case round =>
    obtain ⟨k, hk, rfl, hown, hf⟩ := hrel
    have Hown := Lib.hid hown
    have Hf := Lib.hid hf
    have hcP := hf.get H1.out (fun f => f)
    have hl30 : effs.length < 1073741824 := Hl.out
    clear hown hf
    by_cases hlt : k < effs.length
    · obtain ⟨g, rfl, ⟨o, ho⟩, hcc⟩ := Hrow.out k hlt
      have hgr : wr.heap[g]? = w.heap[g]? := by rw [ho]; exact Hf.out.get ho (fun f => f)
      obtain ⟨x0, x1, x2, x3⟩ := hcc wr hgr
      have htk : effs.take (k + 1) = effs.take k ++ [effs[k]] := List.take_succ_eq_append_getElem hlt
      have Htk := Lib.hid htk
      generalize effs[k] = e at x0 x1 x2 x3 Htk
      obtain ⟨es, et, eb, ed⟩ := e
      rw [cellv] at x0 x1 x2 x3
      have hkI : (k : Int) < effs.length := by omega
      have hk0 : (0 : Int) ≤ k := by omega
      have hkl := Lib.hid hlt
      have hfl : Hid (((effs.take k).filter fun c => c.saga == id).length ≤ k) := Nat.le_trans (List.length_filter_le _ _) (by rw [List.length_take]; omega)
      clear hcc ho hgr htk hlt
      have hcv := cellv wr
      by_cases q1 : es = id
      · subst q1
        have q1' : (es == es) = true := by simp
        have hfe : Hid ((effs.take (k + 1)).filter (fun c => c.saga == es) = (effs.take k).filter (fun c => c.saga == es) ++ [⟨es, et, eb, ed⟩]) := by
          show _ = _
          rw [Htk.out, List.filter_append]; simp
        have hoA := Lib.hid (Hown.out.alloc (.cells #[.int .i64 es, .int .i64 et, .bool eb, .string ed] 46))
        have hnews : ∀ (j : Nat) (u : Value), (CallM.cells ⟨es, et, eb, ed⟩)[j]? = some u → (wr.alloc (.cells #[.int .i64 es, .int .i64 et, .bool eb, .string ed] 46)).cell? ((⟨wr.heap.size, 0, none⟩ : Addr).add j) = some u := World.news_of_block (heap_alloc_new wr _)
        have Hnews := Lib.hid hnews
        clear hnews
        go_wp2_with (first
          | (at_builtin; refine wpList_append_own _ rfl _ _ 42 rfl w.heap.size 46 i0 (.agg #[.int .i64 0, .int .i64 0, .bool false, .string ⟨#[]⟩]) 4 40 Tryz.underlying42 hi hz0 hz1 hz2 rfl (by decide) _ _ _ rfl hoA.out ⟨wr.heap.size, 0, none⟩ 1 1 (CallM.cells ⟨es, et, eb, ed⟩) rfl rfl Hnews.out (call_one ⟨es, et, eb, ed⟩) (by have := hfl.out; unfold maxLen; omega) (by have := hfl.out; omega) (by have := Hf.out.size; simp; omega) ?_; intro sv' w1 hown1 hg1 _; go_frame)
          | fail)
        go_roundw
        case rel =>
          refine ⟨k + 1, hkl.out, by go_num, ?_, ?_⟩
          · rw [hfe.out, List.length_append, show effCells ((effs.take k).filter (fun c => c.saga == es) ++ [⟨es, et, eb, ed⟩]) = effCells ((effs.take k).filter (fun c => c.saga == es)) ++ CallM.cells ⟨es, et, eb, ed⟩ by simp [effCells]]
            exact hown1
          · refine (Hf.out.alloc _).trans' (Fr.ofGrown hg1) (fun i hi e => ?_)
            have := (Hown.out.lt i e).1
            omega
        case measure => have := hkl.out; simp [intOf]; omega
      · have q1' : (es == id) = false := by simpa using q1
        have hfe : Hid ((effs.take (k + 1)).filter (fun c => c.saga == id) = (effs.take k).filter (fun c => c.saga == id)) := by
          show _ = _
          rw [Htk.out, List.filter_append]; simp [q1']
        go_wp2_with fail
        go_roundw
        case rel => exact ⟨k + 1, hkl.out, by go_num, by rw [hfe.out]; exact Hown.out, Hf.out⟩
        case measure => have := hkl.out; simp [intOf]; omega
    · obtain rfl : k = effs.length := by omega
      have hnk : ¬ ((effs.length : Int) < effs.length) := by omega
      have Hown := Hown
      rw [List.take_length] at Hown
      obtain ⟨ma, mc, rfl, hmr⟩ := calls_read Hown.out
      have Hmr := Lib.hid hmr
      have hFl : Hid ((effs.filter fun c => c.saga == id).length < 1073741824) := Nat.lt_of_le_of_lt (List.length_filter_le _ _) hl30
      clear hk hlt hmr
      generalize (effs.filter fun c => c.saga == id) = F at Hsh Hown Hmr hFl ⊢
      have hcv := cellv wr
      go_upto_region 8 with fail
      obtain ⟨wO, rfl⟩ : ∃ x, x = wr := ⟨wr, rfl⟩
      go_loopw [9] (fun i w2 => ∃ k : Nat, k ≤ K ∧ i = .int .i64 k ∧ New wO w2) (fun i _ => K - (intOf i).toNat)
      case atStart => exact ⟨0, Nat.zero_le _, rfl, Fr.refl _ _⟩
      case round =>
        obtain ⟨k, hk, rfl, hf2⟩ := hrel
        have Hf2 := Lib.hid hf2
        clear hf2
        have hlenF := Hsh.out.1
        have hl31 : F.length < 1073741824 := hFl.out
        have hn30 : n < 1073741824 := Hn.out
        have hKn := HK.out
        by_cases hkK : k < K
        · have hkF : k < F.length := by omega
          obtain ⟨g, rfl, ⟨o, ho⟩, hcc⟩ := Hmr.out k hkF
          have hgr : wr.heap[g]? = wO.heap[g]? := by rw [ho]; exact Hf2.out.get ho (fun f => f)
          obtain ⟨x0, x1, x2, x3⟩ := hcc wr hgr
          obtain ⟨s1, s2⟩ := Hsh.out.2.1 k hkF hkK
          rw [s1] at x1
          rw [s2] at x2
          have hkI : (k : Int) < F.length := by omega
          have hk0 : (0 : Int) ≤ k := by omega
          have hnI : ¬ ((n : Int) ≤ k) := by omega
          have hkl := Lib.hid hkK
          have hw1 : wrap64 ((k : Int) + 1) = (k : Int) + 1 := wrap_in _ (by omega)
          clear hcc ho hgr x0 x3 s1 s2 hlenF hkK
          have hcv := cellv wr
          go_wp2_with fail
          go_roundw
          case rel => exact ⟨k + 1, hkl.out, by go_num, Hf2.out⟩
          case measure => have := hkl.out; simp [intOf]; omega
        · obtain rfl : k = K := by omega
          by_cases hM0 : M = 0
          · have hFe : F.length = k := by omega
            have hnk2 : ¬ ((k : Int) < F.length) := by omega
            clear hFe hM0 hk hkK hlenF
            have hcv := cellv wr
            go_upto_region 15 with fail
            obtain ⟨wP, rfl⟩ : ∃ x, x = wr := ⟨wr, rfl⟩
            go_loopw [10] (fun i w3 => ∃ m : Nat, k ≤ m ∧ m ≤ F.length ∧ i = .int .i64 m ∧ New wP w3) (fun i _ => F.length - (intOf i).toNat)
            case atStart => exact ⟨k, Nat.le_refl _, by have := Hsh.out.1; omega, rfl, Fr.refl _ _⟩
            case round =>
              obtain ⟨m, hm1, hm2, rfl, hf3⟩ := hrel
              have Hf3 := Lib.hid hf3
              clear hf3 hcv
              by_cases hmF : m < F.length
              · obtain ⟨g', hg', ⟨o', ho'⟩, hcc'⟩ := Hmr.out m hmF
                have hgr' : wr.heap[g']? = wO.heap[g']? := by rw [ho']; exact (Hf2.out.trans Hf3.out).get ho' (fun f => f)
                obtain ⟨x0', x1', x2', x3'⟩ := hcc' wr hgr'
                obtain ⟨s1', s2'⟩ := Hsh.out.2.2 m hmF hm1
                rw [s1'] at x1'
                rw [s2'] at x2'
                first | subst hg' | (obtain rfl : g = g' := by simpa using hg')
                have hmI : (m : Int) < F.length := by omega
                have hm0 : (0 : Int) ≤ m := by omega
                have hml := Lib.hid hmF
                have hw3 : wrap64 ((m : Int) - k) = (m : Int) - k := wrap_in _ (by omega)
                have hw4 : wrap64 ((k : Int) - ((m : Int) - k)) = (k : Int) - ((m : Int) - k) := wrap_in _ (by omega)
                have hm1' := Lib.hid hm1
                clear hcc' ho' hgr' x0' x3' s1' s2' hm1 hm2 hmF
                have hcv := cellv wr
                go_wp2_with fail
                go_roundw
                case rel => exact ⟨m + 1, by have := hm1'.out; omega, hml.out, by go_num, Hf3.out⟩
                case measure => have := hml.out; simp [intOf]; omega
              · have hmI : ¬ ((m : Int) < F.length) := by omega
                have hw2 : wrap64 (2 * (k : Int)) = 2 * (k : Int) := wrap_in _ (by omega)
                have hle : (F.length : Int) ≤ 2 * (k : Int) := by have := Hsh.out.1; have := HM.out; omega
                have HFin := Lib.hid ((Hf.out.trans Hf2.out).trans Hf3.out)
                clear hmF hm1 hm2
                go_wp2_with fail
                go_ret
                exact ⟨rfl, by first | exact HFin.out | exact HFin.out.drewN _⟩
          · have hkF : k < F.length := by omega
            obtain ⟨g, rfl, ⟨o, ho⟩, hcc⟩ := Hmr.out k hkF
            have hgr : wr.heap[g]? = wO.heap[g]? := by rw [ho]; exact Hf2.out.get ho (fun f => f)
            obtain ⟨x0, x1, x2, x3⟩ := hcc wr hgr
            obtain ⟨s1, s2⟩ := Hsh.out.2.2 k hkF (Nat.le_refl _)
            rw [s2] at x2
            have hkI : (k : Int) < F.length := by omega
            have hk0 : (0 : Int) ≤ k := by omega
            have hnI : ((k : Int) == n) = false := by have := HKM.out; simp; omega
            clear hcc ho hgr x0 x1 x3 s1 s2 hM0 hkF
            have hcv := cellv wr
            go_upto_region 15 with fail
            obtain ⟨wP, rfl⟩ : ∃ x, x = wr := ⟨wr, rfl⟩
            go_loopw [10] (fun i w3 => ∃ m : Nat, k ≤ m ∧ m ≤ F.length ∧ i = .int .i64 m ∧ New wP w3) (fun i _ => F.length - (intOf i).toNat)
            case atStart => exact ⟨k, Nat.le_refl _, by have := Hsh.out.1; omega, rfl, Fr.refl _ _⟩
            case round =>
              obtain ⟨m, hm1, hm2, rfl, hf3⟩ := hrel
              have Hf3 := Lib.hid hf3
              clear hf3 hcv
              by_cases hmF : m < F.length
              · obtain ⟨g', hg', ⟨o', ho'⟩, hcc'⟩ := Hmr.out m hmF
                have hgr' : wr.heap[g']? = wO.heap[g']? := by rw [ho']; exact (Hf2.out.trans Hf3.out).get ho' (fun f => f)
                obtain ⟨x0', x1', x2', x3'⟩ := hcc' wr hgr'
                obtain ⟨s1', s2'⟩ := Hsh.out.2.2 m hmF hm1
                rw [s1'] at x1'
                rw [s2'] at x2'
                first | subst hg' | (obtain rfl : g = g' := by simpa using hg')
                have hmI : (m : Int) < F.length := by omega
                have hm0 : (0 : Int) ≤ m := by omega
                have hml := Lib.hid hmF
                have hw3 : wrap64 ((m : Int) - k) = (m : Int) - k := wrap_in _ (by omega)
                have hw4 : wrap64 ((k : Int) - ((m : Int) - k)) = (k : Int) - ((m : Int) - k) := wrap_in _ (by omega)
                have hm1' := Lib.hid hm1
                clear hcc' ho' hgr' x0' x3' s1' s2' hm1 hm2 hmF
                have hcv := cellv wr
                go_wp2_with fail
                go_roundw
                case rel => exact ⟨m + 1, by have := hm1'.out; omega, hml.out, by go_num, Hf3.out⟩
                case measure => have := hml.out; simp [intOf]; omega
              · have hmI : ¬ ((m : Int) < F.length) := by omega
                have hw2 : wrap64 (2 * (k : Int)) = 2 * (k : Int) := wrap_in _ (by omega)
                have hle : (F.length : Int) ≤ 2 * (k : Int) := by have := Hsh.out.1; have := HM.out; omega
                have HFin := Lib.hid ((Hf.out.trans Hf2.out).trans Hf3.out)
                clear hmF hm1 hm2
                go_wp2_with fail
                go_ret
                exact ⟨rfl, by first | exact HFin.out | exact HFin.out.drewN _⟩
end Go.Proofs.YtkafmfdipmhleaaGreatDoor

namespace Go.Proofs.YtkafmfdipmhleaaGreatDoor
open Go.RowKit Go.Maps

theorem PAt.low {w w' : World} {pb : Nat} {p : PartM} (h : PAt w pb p) (hl : Low w.heap.size w w') (hs : w.heap.size ≤ w'.heap.size) : PAt w' pb p :=
  h.keep hs (fun k _ ho _ => (hl.block k (lt_of_hp ho)).trans ho)
theorem fits_of (d : DiskM) (h : 8 ≤ d.blocks.length ∧ d.blocks.length ≤ 400) : d.fits = true := by simp [DiskM.fits]; omega
/-- Format of a new disk. -/
theorem fmt_new {w : World} {db bb n : Nat} (h : DiskAt w db bb (DiskM.new n)) (hn : 8 ≤ n ∧ n ≤ 400) :
    Calls Tryz.prog 39 #[.pointer (some ⟨db, 0, none⟩)] w fun e w' => e = .returned .nilIface ∧ Fr (fun k => k = db ∨ k = bb) w w' ∧ DiskAt w' db bb (DiskM.fresh n) := by
  obtain ⟨r, hr⟩ := parse_zer
  have hl : (DiskM.new n).blocks.length = n := by simp [DiskM.new]
  refine Calls.mono (pFormat_calls h (new_quiet n) rfl r false (by rw [new_look0 n (by omega)]; exact hr)) ?_
  intro e w' he
  unfold sFmtPost at he
  rw [fits_of _ (by rw [hl]; exact hn)] at he
  have he : FmtPost w db bb (DiskM.new n) (nextEpoch r false) e w' := by simpa using he
  have : nextEpoch r false = 1 := by simp [nextEpoch]
  rw [this] at he
  exact he
/-- Open of a fresh disk. -/
theorem open_fresh {w : World} {db bb pb n : Nat} {p : PartM} (h : DiskAt w db bb (DiskM.fresh n)) (hp : PAt w pb p) (hlo : p.lo ≤ db ∧ p.lo ≤ bb) (hn : 8 ≤ n ∧ n ≤ 400) (pause : Int) (hpz : 1 ≤ pause ∧ pause ≤ 64) :
    Calls Tryz.prog 30 #[.pointer (some ⟨db, 0, none⟩), .int .i64 pause, .pointer (some ⟨pb, 0, none⟩)] w fun e w' => ∃ xb jb mb, e = .returned (.tuple #[.pointer (some ⟨xb, 0, none⟩), .nilIface]) ∧
      StAt w' ⟨xb, jb, mb, db, bb, pb⟩ [] (StM.fresh n pause p) ∧ Fr (· = db) w w' := by
  obtain ⟨r0, hr0, hk, he⟩ := parse_hdr
  obtain ⟨r1, hr1⟩ := parse_zer
  refine Calls.mono (pOpen0_calls h hp hlo (fresh_quiet n) r0 r1 false (by rw [fresh_look0 n (by omega)]; exact hr0) hk (by rw [fresh_look1 n (by omega)]; exact hr1) (by simp [atOk]) (fits_of _ (by rw [fresh_len]; exact hn)) pause hpz) ?_
  rintro e w' ⟨xb, jb, mb, rfl, _, hs, hf⟩
  rw [he] at hs
  exact ⟨xb, jb, mb, rfl, hs, hf⟩
theorem begun1_inv (lo : Nat) : (begun1 lo).inv ∧ (begun1 lo).fine (0 + (begun1 lo).sagas.length) := by
  have h0 := fresh_inv 20 1 ⟨[], [], [], 0, lo⟩ (by omega) (by omega)
  have hf : (StM.fresh 20 1 ⟨[], [], [], 0, lo⟩).fine 1 := ⟨by simp [StM.fresh], by simp [StM.fresh], by simp [StM.fresh], by simp [StM.fresh], by simp [StM.fresh], fun g hg => by simp [StM.fresh] at hg⟩
  have := submit_inv (id := 5) (l := kSteps 5 1) h0 hf (kSteps_whole 5 1 (by omega) (by omega)) (fun x hx => by simp [StM.fresh] at hx) (by
    have : (StM.fresh 20 1 ⟨[], [], [], 0, lo⟩).d.blocks.length = 20 := fresh_len 20
    rw [this]
    simp [StM.fresh, leftSum, kSteps_len])
  exact ⟨this.1, this.2⟩
theorem begun_sub {w : World} {q : Pl} {lo : Nat} {v : Value} (hs : StAt w q [] (StM.fresh 20 1 ⟨[], [], [], 0, lo⟩)) (hv : StepsAt w v (kSteps 5 1)) :
    Calls Tryz.prog 18 #[.pointer (some ⟨q.xb, 0, none⟩), .int .i64 5, v] w fun e w' => e = .returned .nilIface ∧ (∃ bl', StAt w' q bl' (begun1 lo)) ∧ FrK [0, 103, 104, 133, 80] w w' ∧ Low lo w w' :=
  Submit_calls (id := 5) (l := kSteps 5 1) hs (fresh_inv 20 1 ⟨[], [], [], 0, lo⟩ (by omega) (by omega)) hv (kSteps_whole 5 1 (by omega) (by omega)) (fun x hx => by simp [StM.fresh] at hx) (by
    have : (StM.fresh 20 1 ⟨[], [], [], 0, lo⟩).d.blocks.length = 20 := fresh_len 20
    rw [this]
    simp [StM.fresh, leftSum, kSteps_len])
theorem begun_tick {w : World} {q : Pl} {lo : Nat} {bl : List Nat} (hs : StAt w q bl (begun1 lo)) :
    Calls Tryz.prog 20 #[.pointer (some ⟨q.xb, 0, none⟩)] w fun e w' => e = .returned .nilIface ∧ StAt w' q bl (begun1 lo).tick ∧ FrK KT w w' ∧ Low lo w w' :=
  Tick_calls hs (begun1_inv lo).1 (begun1_inv lo).2 (show -9223372036854775808 ≤ (0 : Int) + 1 ∧ (0 : Int) + 1 ≤ 9223372036854775807 by omega)
theorem begun_status {w : World} {q : Pl} {lo : Nat} {bl : List Nat} (hs : StAt w q bl (begun1 lo).tick) :
    ∃ g : SagaM, g.st = 3 ∧ Calls Tryz.prog 21 #[.pointer (some ⟨q.xb, 0, none⟩), .int .i64 5] w fun e w' => e = .returned (.tuple #[.agg g.status, .nilIface]) ∧ New w w' := by
  obtain ⟨g, h1, h2, h3, _⟩ := begun1_tick lo
  refine ⟨g, h2, ?_⟩
  have ho := (tick_inv (m := 0) (begun1_inv lo).1 (begun1_inv lo).2).1.ord
  have := Status_calls (i := 0) (g := g) hs ho (by rw [h1]; rfl) (by omega)
  rw [h3] at this
  exact this
theorem begun_effs {w : World} {q : Pl} {lo : Nat} {bl : List Nat} (hs : StAt w q bl (begun1 lo).tick) : ∃ lv va vc iv at_, w.heap[q.pb]? = some (.cells #[lv, .slice va 1 vc, iv, at_] 44 (0, 0)) := by
  obtain ⟨lv, va, vc, iv, h, _⟩ := effs_read hs.pt
  obtain ⟨_, _, _, _, h4⟩ := begun1_tick lo
  rw [h4] at h
  exact ⟨lv, va, vc, iv, _, h⟩
set_option maxRecDepth 100000 in
set_option maxHeartbeats 4000000 in
theorem begun_calls {w : World} {pb n : Nat} {l : List Int} {lo : Nat} {pause : Int} (hp : PAt w pb ⟨[], [], l, 0, lo⟩) (hn : 8 ≤ n ∧ n ≤ 400) (hpz : 1 ≤ pause ∧ pause ≤ 64) :
    Calls Tryz.prog 17 #[.int .i64 n, .pointer (some ⟨pb, 0, none⟩), .int .i64 pause] w fun e w' => ∃ q : Pl, q.pb = pb ∧ e = .returned (.tuple #[.pointer (some ⟨q.db, 0, none⟩), .pointer (some ⟨q.xb, 0, none⟩)]) ∧
      StAt w' q [] (StM.fresh n pause ⟨[], [], l, 0, lo⟩) ∧ Low lo w w' ∧ w.heap.size ≤ w'.heap.size := by
  have Hp := Lib.hid hp
  have Hn := Lib.hid hn
  have Hpz := Lib.hid hpz
  clear hp hn hpz
  go_enter Tryz.func17, Tryz.ntmps17
  go_upto_region 3 with (first
    | (go_at_call 38; refine Calls.mono (NewDisk_calls w 20 (by omega)) ?_; rintro e w1 ⟨hf1, db, bb, hdb, hbb, rfl, hd1⟩)
    | (go_at_call 15; refine Calls.mono (NewPartner_calls (l := []) (.inl ⟨rfl, none, 0, rfl⟩) (by simp) w.heap.size hf1.size) ?_; rintro e w2 ⟨pq, rfl, hpq, hq2, hf2⟩)
    | fail)
  have HF3 := Lib.hid (fmt_new (hd1.new hf2) (by omega))
  have Hq2 := Lib.hid hq2
  have Hd1 := Lib.hid hd1
  have HL2 : Hid (Low w.heap.size w w2 ∧ w.heap.size ≤ w2.heap.size) := ⟨(hf1.low (Nat.le_refl _) (fun _ f => f.elim)).trans (hf2.low hf1.size (fun _ f => f.elim)), Nat.le_trans hf1.size hf2.size⟩
  have Hdb : Hid (w.heap.size ≤ db ∧ w.heap.size ≤ bb) := ⟨hdb, hbb⟩
  have Hf2 := Lib.hid hf2
  clear hdb hbb hf1 hd1 hpq hq2 hf2
  go_upto_region 4 with (first
    | (go_at_call 39; refine Calls.mono HF3.out ?_; rintro e w3 ⟨rfl, hf3, hd3⟩)
    | fail)
  have hdk : ∀ k, (k = db ∨ k = bb) → ∃ o, w2.heap[k]? = some o ∧ (kindOf o = 103 ∨ kindOf o = 104) := by
    obtain ⟨_, _, _, _, e1, e2, _⟩ := Hd1.out.new Hf2.out
    rintro k (rfl | rfl)
    · exact ⟨_, e1, .inl rfl⟩
    · exact ⟨_, e2, .inr rfl⟩
  have hk3 : FrK [103, 104] w2 w3 := hf3.toK (by
    intro k o hk ho
    obtain ⟨o', ho', h⟩ := hdk k hk
    rw [ho'] at ho; cases ho
    rcases h with h | h <;> simp [h])
  have HO4 := Lib.hid (open_fresh hd3 (Hq2.out.keepK hk3 (by decide) (by decide) (by decide) (by decide)) Hdb.out (by omega) 1 (by omega))
  have HL3 : Hid (Low w.heap.size w w3 ∧ w.heap.size ≤ w3.heap.size) := ⟨HL2.out.1.trans (hf3.low HL2.out.2 (by rintro k (rfl | rfl); exact Hdb.out.1; exact Hdb.out.2)), Nat.le_trans HL2.out.2 hf3.size⟩
  clear hf3 hd3 hdk hk3
  go_upto_region 7 with (first
    | (go_at_call 30; refine Calls.mono HO4.out ?_; rintro e w4 ⟨xb, jb, mb, rfl, hs4, hf4⟩)
    | fail)
  have Hs4 := Lib.hid hs4
  have HL4 : Hid (Low w.heap.size w w4 ∧ w.heap.size ≤ w4.heap.size) := ⟨HL3.out.1.trans (hf4.low HL3.out.2 (by rintro k rfl; exact Hdb.out.1)), Nat.le_trans HL3.out.2 hf4.size⟩
  have HSt := Lib.hid (steps_calls w4 5 1 (by omega) (by omega))
  have hi4 := fresh_inv 20 1 ⟨[], [], [], 0, w.heap.size⟩ (by omega) (by omega)
  have Hi4 := Lib.hid hi4
  clear hs4 hf4 hi4
  have HSub := Lib.hid (fun (w5 : World) (v : Value) (hf5 : New w4 w5) (hv : StepsAt w5 v (kSteps 5 1)) => begun_sub (Hs4.out.keepK (hf5.toK (K := []) (fun _ _ f _ => f.elim)) (by simp)) hv)
  go_upto_region 8 with (first
    | (go_at_call 19; refine Calls.mono HSt.out ?_; rintro e w5 ⟨sv, rfl, hsv, hf5⟩; obtain ⟨sa, sn, sc, rfl⟩ := own_slice hsv)
    | (go_at_call 18; refine Calls.mono (HSub.out _ _ hf5 (hsv.at (by rw [kSteps_len]; omega))) ?_; rintro e w6 ⟨rfl, ⟨bl, hs6⟩, hk6, hl6⟩)
    | fail)
  have HL6 : Hid (Low w.heap.size w w6 ∧ w.heap.size ≤ w6.heap.size) := ⟨(HL4.out.1.trans (hf5.low HL4.out.2 (fun _ f => f.elim))).trans hl6, Nat.le_trans HL4.out.2 (Nat.le_trans hf5.size hk6.size)⟩
  have HT := Lib.hid (begun_tick hs6)
  clear hsv hf5 hs6 hk6 hl6
  go_upto_region 9 with (first
    | (go_at_call 20; refine Calls.mono HT.out ?_; rintro e w7 ⟨rfl, hs7, hk7, hl7⟩)
    | fail)
  have HL7 : Hid (Low w.heap.size w w7 ∧ w.heap.size ≤ w7.heap.size) := ⟨HL6.out.1.trans hl7, Nat.le_trans HL6.out.2 hk7.size⟩
  obtain ⟨g, hg3, hst⟩ := begun_status hs7
  obtain ⟨lv, va, vc, iv, at_, hpb⟩ := begun_effs hs7
  have Hpb := Lib.hid hpb
  have HST := Lib.hid hst
  have Hg3 := Lib.hid hg3
  clear hs7 hk7 hl7 hpb hst hg3
  go_upto_region 10 with (first
    | (go_at_call 21; refine Calls.mono HST.out ?_; rintro e w8 ⟨rfl, hf8⟩; simp only [SagaM.status])
    | fail)
  have hc9 := heap_alloc_new w8 (.cells #[.int .i64 g.id, .int .i64 g.st, .int .i64 g.step, .int .i64 g.steps.length, .int .i64 g.tries, .int .i64 g.due] 38)
  have hq9 := heap_alloc_keep (.cells #[.int .i64 g.id, .int .i64 g.st, .int .i64 g.step, .int .i64 g.steps.length, .int .i64 g.tries, .int .i64 g.due] 38) (hf8.get Hpb.out (fun f => f))
  have hlt9 := lt_of_hp (hf8.get Hpb.out (fun f => f))
  have HL9 : Hid (Low w.heap.size w (w8.alloc (.cells #[.int .i64 g.id, .int .i64 g.st, .int .i64 g.step, .int .i64 g.steps.length, .int .i64 g.tries, .int .i64 g.due] 38)) ∧ w.heap.size ≤ (w8.alloc (.cells #[.int .i64 g.id, .int .i64 g.st, .int .i64 g.step, .int .i64 g.steps.length, .int .i64 g.tries, .int .i64 g.due] 38)).heap.size) := ⟨HL7.out.1.trans ((hf8.alloc (.cells #[.int .i64 g.id, .int .i64 g.st, .int .i64 g.step, .int .i64 g.steps.length, .int .i64 g.tries, .int .i64 g.due] 38)).low HL7.out.2 (fun _ f => f.elim)), Nat.le_trans HL7.out.2 (hf8.alloc (.cells #[.int .i64 g.id, .int .i64 g.st, .int .i64 g.step, .int .i64 g.steps.length, .int .i64 g.tries, .int .i64 g.due] 38)).size⟩
  clear hf8
  generalize w8.alloc (.cells #[.int .i64 g.id, .int .i64 g.st, .int .i64 g.step, .int .i64 g.steps.length, .int .i64 g.tries, .int .i64 g.due] 38) = W9 at hc9 hq9 HL9 ⊢
  generalize w8.heap.size = N9 at hc9 hlt9 ⊢
  rw [Hg3.out] at hc9
  have hq9' : W9.heap[pq]? = some (.cells #[lv, .slice va 1 vc, iv, at_] 44 (0, 0)) := hq9
  have a1 : W9.cell? ⟨N9, 1, none⟩ = some (.int .i64 3) := by rw [cellv, hc9]; rfl
  have a2 : W9.cell? ⟨pq, 1, none⟩ = some (.slice va 1 vc) := by rw [cellv, hq9']; rfl
  clear hc9 hq9 hq9'
  go_upto_region 13 with (first
    | (go_at_call 38; refine Calls.mono (NewDisk_calls W9 n (by have := Hn.out; omega)) ?_; rintro e w10 ⟨hf10, db', bb', hdb', hbb', rfl, hd10⟩)
    | fail)
  have HF10 := Lib.hid (fmt_new hd10 Hn.out)
  have HL10 : Hid (Low w.heap.size w w10 ∧ w.heap.size ≤ w10.heap.size) := ⟨HL9.out.1.trans (hf10.low HL9.out.2 (fun _ f => f.elim)), Nat.le_trans HL9.out.2 hf10.size⟩
  have Hdb' : Hid (w.heap.size ≤ db' ∧ w.heap.size ≤ bb') := ⟨Nat.le_trans HL9.out.2 hdb', Nat.le_trans HL9.out.2 hbb'⟩
  clear a1 a2 hlt9 hf10 hdb' hbb' hd10
  go_upto_region 14 with (first
    | (go_at_call 39; refine Calls.mono HF10.out ?_; rintro e w11 ⟨rfl, hf11, hd11⟩)
    | fail)
  have HL11 : Hid (Low w.heap.size w w11 ∧ w.heap.size ≤ w11.heap.size) := ⟨HL10.out.1.trans (hf11.low HL10.out.2 (by rintro k (rfl | rfl); exact Hdb'.out.1; exact Hdb'.out.2)), Nat.le_trans HL10.out.2 hf11.size⟩
  have hlo : lo ≤ w.heap.size := by
    obtain ⟨⟨_, _, _, _, _, _, _, _, hb, _⟩⟩ := Hp.out
    have := hb.1; have := hb.2.1; simp only at this; omega
  have Hlo := Lib.hid hlo
  have HO12 := Lib.hid (open_fresh hd11 (Hp.out.low HL11.out.1 HL11.out.2) ⟨Nat.le_trans hlo Hdb'.out.1, Nat.le_trans hlo Hdb'.out.2⟩ Hn.out pause Hpz.out)
  clear hf11 hd11 hlo
  go_wp2_with (first
    | (go_at_call 30; refine Calls.mono HO12.out ?_; rintro e w12 ⟨xb', jb', mb', rfl, hs12, hf12⟩)
    | fail)
  go_ret2
  refine ⟨⟨xb', jb', mb', db', bb', pb⟩, rfl, rfl, hs12, (HL11.out.1.trans (hf12.low HL11.out.2 (by rintro k rfl; exact Hdb'.out.1))).le Hlo.out, Nat.le_trans HL11.out.2 hf12.size⟩
end Go.Proofs.YtkafmfdipmhleaaGreatDoor

namespace Go.Proofs.YtkafmfdipmhleaaGreatDoor
open Go.RowKit Go.Maps

theorem lpick_calls (w : World) (c n : Int) (hc : i64 c) (hn : 0 < n ∧ n ≤ 9223372036854775807) :
    Calls Tryz.prog 86 #[.int .i64 c, .int .i64 n] w fun e w' => e = .returned (.int .i64 (pickM c n)) ∧ w = w' := by
  unfold i64 at hc
  have hn0 : (n == 0) = false := by simp; omega
  by_cases h : c < 0
  · have h1 : wrap64 (c + 1) = c + 1 := wrap_in _ (by omega)
    have h2 : wrap64 (-(c + 1)) = -(c + 1) := wrap_in _ (by omega)
    have hm : pickM c n = (-(c + 1)) % n := by unfold pickM; rw [if_pos h]
    have h3 : (-(c + 1)).tmod n = (-(c + 1)) % n := Int.tmod_eq_emod_of_nonneg (by omega)
    have h4 := Int.emod_nonneg (-(c + 1)) (show n ≠ 0 by omega)
    have h5 := Int.emod_lt_of_pos (-(c + 1)) hn.1
    have h6 : wrap64 ((-(c + 1)) % n) = (-(c + 1)) % n := wrap_in _ (by omega)
    rw [hm]
    clear hm h4 h5
    go_enter Tryz.func86, Tryz.ntmps86
    go_wp2_with fail
    go_ret
    first
      | exact ⟨rfl, rfl⟩
      | (refine ⟨?_, rfl⟩; simp only [h1, h2, h3, h6])
  · have hm : pickM c n = c % n := by unfold pickM; rw [if_neg h]
    have h3 : c.tmod n = c % n := Int.tmod_eq_emod_of_nonneg (by omega)
    have h4 := Int.emod_nonneg c (show n ≠ 0 by omega)
    have h5 := Int.emod_lt_of_pos c hn.1
    have h6 : wrap64 (c % n) = c % n := wrap_in _ (by omega)
    rw [hm]
    clear hm h4 h5
    go_enter Tryz.func86, Tryz.ntmps86
    go_wp2_with fail
    go_ret
    first
      | exact ⟨rfl, rfl⟩
      | (refine ⟨?_, rfl⟩; simp only [h3, h6])
theorem near_calls (w : World) (c : Int) (hc : i64 c) : Calls Tryz.prog 87 #[.int .i64 c] w fun e w' => (∃ x, e = .returned (.int .i64 x)) ∧ w = w' := by
  have HP := Lib.hid (lpick_calls w c 600 hc (by omega))
  go_enter Tryz.func87, Tryz.ntmps87
  go_wp2_with (first
    | (go_at_call 86; refine Calls.mono HP.out ?_; rintro e w2 ⟨rfl, rfl⟩)
    | fail)
  go_ret
  exact ⟨⟨_, rfl⟩, rfl⟩
/-- How many blocks a disk has that is made of a number. -/
def blkM (x : Int) : Nat := if x < 0 then 0 else (x % 1000).toNat
theorem blkM_lt (x : Int) : blkM x < 1000 := by
  unfold blkM
  split
  · omega
  · have := Int.emod_lt_of_pos x (show (0 : Int) < 1000 by decide)
    have := Int.emod_nonneg x (show (1000 : Int) ≠ 0 by decide)
    omega
theorem blkM_neg {x : Int} (h : x < 0) : blkM x = 0 := by unfold blkM; rw [if_pos h]
theorem blkM_pos {x : Int} (h : ¬ x < 0) : x.tmod 1000 = (blkM x : Int) := by
  unfold blkM; rw [if_neg h, Int.tmod_eq_emod_of_nonneg (by omega)]
  have := Int.emod_nonneg x (show (1000 : Int) ≠ 0 by decide)
  omega
theorem blocks_calls (w : World) (x : Int) : Calls Tryz.prog 107 #[.int .i64 x] w fun e w' => e = .returned (.int .i64 (blkM x)) ∧ w = w' := by
  by_cases h : x < 0
  · rw [blkM_neg h]
    go_enter Tryz.func107, Tryz.ntmps107
    go_wp2_with fail
    go_ret
    exact ⟨rfl, rfl⟩
  · have hm := blkM_pos h
    have hl := blkM_lt x
    generalize blkM x = n at hm hl ⊢
    have hw : wrap64 (n : Int) = n := wrap_in _ (by omega)
    go_enter Tryz.func107, Tryz.ntmps107
    go_wp2_with fail
    go_ret
    exact ⟨rfl, rfl⟩
theorem num_calls (w : World) (x : Int) : Calls Tryz.prog 108 #[.int .i64 x] w fun e w' => e = .returned (.int .i64 x) ∧ w = w' := by
  go_enter Tryz.func108, Tryz.ntmps108
  go_wp2_with fail
  go_ret
  exact ⟨rfl, rfl⟩
set_option maxRecDepth 100000 in
set_option maxHeartbeats 1000000 in
theorem NewDisk_all (w : World) (x : Int) : Calls Tryz.prog 38 #[.int .i64 x] w fun e w' => New w w' ∧ ∃ db bb, w.heap.size ≤ db ∧ w.heap.size ≤ bb ∧ e = .returned (.pointer (some ⟨db, 0, none⟩)) ∧ DiskAt w' db bb (DiskM.new (blkM x)) := by
  obtain ⟨i, z, hi, hz, hs, hb, hzc⟩ : ∃ i z, Tryz.prog.info? 103 = some i ∧ i.zero = some z ∧ i.size = 128 ∧ i.bytes = 128 ∧ z.cells = Array.replicate 128 (.int .u8 0) := by
    have hx : (Tryz.prog.info? 103).map (fun i => (i.zero.map (·.cells), i.size, i.bytes)) = some (some (Array.replicate 128 (.int .u8 0)), 128, 128) := by kernel_rfl
    cases hi : Tryz.prog.info? 103 with
    | none => rw [hi] at hx; cases hx
    | some i =>
      rw [hi] at hx
      simp only [Option.map_some, Option.some.injEq, Prod.mk.injEq] at hx
      obtain ⟨h1, h2, h3⟩ := hx
      cases hz : i.zero with
      | none => rw [hz] at h1; cases h1
      | some z => rw [hz] at h1; exact ⟨i, z, rfl, hz, h2, h3, Option.some.inj h1⟩
  have hn := blkM_lt x
  have hrem : ∀ h : ¬ x < 0, x.tmod 1000 = (blkM x : Int) := blkM_pos
  have hneg : ∀ h : x < 0, blkM x = 0 := blkM_neg
  generalize blkM x = n at hn hrem hneg ⊢
  have hmk : ∀ w, (Instr.makeSlice 99 (.int .i64 n) (.int .i64 n)).run Tryz.prog w = .ok (.slice (some ⟨w.heap.size, 0, none⟩) n n) (w.alloc (.cells (blkCells (List.replicate n (List.replicate 128 0)) []) 103)) := by
    intro w
    have := run_make (P := Tryz.prog) w 99 103 i z Tryz.underlying99 hi hz .i64 .i64 n n (by omega) (Int.le_refl _) (by rw [hb]; omega) (by omega)
    rw [this, hs, Int.toNat_natCast, made_zero n z hzc]
  clear hi hz hs hb hzc
  generalize hBC : (blkCells (List.replicate n (List.replicate 128 0)) []) = BC at hmk
  have HBC := Lib.hid hBC
  clear hBC
  by_cases h : x < 0
  · obtain rfl := hneg h
    have hmk0 : ∀ w, (Instr.makeSlice 99 (.int .i64 0) (.int .i64 0)).run Tryz.prog w = .ok (.slice (some ⟨w.heap.size, 0, none⟩) 0 0) (w.alloc (.cells BC 103)) := hmk
    clear hrem hneg hmk
    go_enter Tryz.func38, Tryz.ntmps38
    go_wp2_with fail
    go_ret
    have h1 := heap_alloc_keep (.cells #[.slice (some ⟨w.heap.size, 0, none⟩) 0 0, .slice none 0 0, .int .i64 0, .int .i64 0, .int .i64 0, .int .i64 (-1), .int .i64 0, .int .i64 0] 102) (heap_alloc_new w (.cells BC 103))
    refine ⟨((Fr.refl _ w).alloc _).alloc _, w.heap.size + 1, w.heap.size, by omega, Nat.le_refl _, rfl, ⟨fun b hb => by obtain rfl := List.eq_of_mem_replicate hb; simp, fun p hp => by cases hp⟩, 0, [], .slice none 0 0, ?_, ?_, rfl⟩
    · have := heap_alloc_new (w.alloc (.cells BC 103)) (.cells #[.slice (some ⟨w.heap.size, 0, none⟩) 0 0, .slice none 0 0, .int .i64 0, .int .i64 0, .int .i64 0, .int .i64 (-1), .int .i64 0, .int .i64 0] 102)
      rw [sz_alloc] at this
      simpa [dkCells, DiskM.new] using this
    · rw [h1, ← HBC.out]; rfl
  · have hr := hrem h
    have hwr : wrap64 (n : Int) = n := wrap_in _ (by omega)
    clear hrem hneg
    go_enter Tryz.func38, Tryz.ntmps38
    go_wp2_with fail
    go_ret
    have h1 := heap_alloc_keep (.cells #[.slice (some ⟨w.heap.size, 0, none⟩) n n, .slice none 0 0, .int .i64 0, .int .i64 0, .int .i64 0, .int .i64 (-1), .int .i64 0, .int .i64 0] 102) (heap_alloc_new w (.cells BC 103))
    refine ⟨((Fr.refl _ w).alloc _).alloc _, w.heap.size + 1, by omega, w.heap.size, Nat.le_refl _, rfl, ⟨fun b hb => by obtain rfl := List.eq_of_mem_replicate hb; simp, fun p hp => by cases hp⟩, n, [], .slice none 0 0, ?_, ?_, rfl⟩
    · have := heap_alloc_new (w.alloc (.cells BC 103)) (.cells #[.slice (some ⟨w.heap.size, 0, none⟩) n n, .slice none 0 0, .int .i64 0, .int .i64 0, .int .i64 0, .int .i64 (-1), .int .i64 0, .int .i64 0] 102)
      rw [sz_alloc] at this
      simpa [dkCells, DiskM.new] using this
    · rw [h1, ← HBC.out]; rfl
/-- A partner that was not asked yet. -/
def FreshP (w : World) (pb : Nat) : Prop := ∃ la lc ev iv at_, w.heap[pb]? = some (.cells #[.slice la 0 lc, ev, iv, at_] 44 (0, 0))
set_option maxRecDepth 100000 in
set_option maxHeartbeats 2000000 in
theorem NewPartner_all {w : World} {v : Value} {l : List Int} (h : IntsAt w v l) (hl : l.length ≤ 100000) :
    Calls Tryz.prog 15 #[v] w fun e w' => ∃ pb, e = .returned (.pointer (some ⟨pb, 0, none⟩)) ∧ w.heap.size ≤ pb ∧ FreshP w' pb ∧ New w w' := by
  obtain ⟨i0, hi, hz0, hz1, hz2⟩ := info_parts Tryz.info3z
  by_cases h0 : l = []
  · subst h0
    obtain ⟨a, c, rfl⟩ := h.shape
    have hr : ∀ ty, (Builtin.append_ #[22, 22] ty #[.slice none 0 0, .slice a 0 c]).run Tryz.prog w = .ok (.slice none 0 0) w := by
      intro ty
      simp [Builtin.append_, run_underlying Tryz.underlying22, sizeOf, typeInfo, hi, Builtin.lenOf, Builtin.firstCells]
      cases a <;> simp [Builtin.firstCells, loadCells, loadCellsFrom]
    go_enter Tryz.func15, Tryz.ntmps15
    go_wp2_with (first
      | (at_builtin; refine Lib.wpList_append_run _ rfl _ _ _ _ rfl _ _ rfl rfl _ _ (hr _) ?_; go_frame)
      | fail)
    go_ret
    exact ⟨_, rfl, Nat.le_refl _, ⟨none, 0, _, _, _, heap_alloc_new w _⟩, (Fr.refl _ w).alloc _⟩
  · rcases h with ⟨h, _⟩ | ⟨b, off, cap, cc, rfl, hb, hc⟩
    · exact absurd h h0
    have hnews : ∀ (j : Nat) (u : Value), (l.map encZ)[j]? = some u → w.cell? ((⟨b, off, none⟩ : Addr).add j) = some u := by
      intro j u hj
      rw [Addr.add_lit, cellv, hb, cellOf_cells]
      rw [List.getElem?_map] at hj
      cases hx : l[j]? with
      | none => rw [hx] at hj; simp at hj
      | some x => rw [hx] at hj; cases hj; exact hc j x hx
    have Hn := Lib.hid hnews
    have Hl0 := Lib.hid h0
    clear hb hc hnews h0
    go_enter Tryz.func15, Tryz.ntmps15
    go_wp2_with (first
      | (at_builtin; refine wpList_append_own _ rfl _ _ 22 rfl w.heap.size 3 i0 (.int .i64 0) 1 8 Tryz.underlying22 hi hz0 hz1 hz2 rfl (by decide) _ _ _ rfl (World.ownsRow_nil w w.heap.size 3 1) ⟨b, off, none⟩ l.length cap (l.map encZ) rfl (by simp) Hn.out (by intro u hu; rw [List.mem_map] at hu; obtain ⟨x, _, rfl⟩ := hu; rfl) (by unfold maxLen; omega) (by omega) (Nat.le_refl _) ?_; intro sv' w1 hown1 hg1 _; obtain ⟨va, vm, vc, rfl⟩ := own_slice hown1; go_frame)
      | fail)
    go_ret
    have hf1 : New w w1 := (Fr.ofGrown hg1).mono (fun _ _ e => by cases e)
    exact ⟨_, rfl, hf1.size, ⟨none, 0, _, _, _, heap_alloc_new w1 _⟩, hf1.alloc _⟩
end Go.Proofs.YtkafmfdipmhleaaGreatDoor

namespace Go.Proofs.YtkafmfdipmhleaaGreatDoor
open Go.RowKit Go.Extern.Stop Go.Stop Go.Extern

theorem Tryz.valueOf105 (t : Addr) (w : World) : (ReflectliteValue.unpack (.iface 105 (.pointer (some t)))).run Tryz.prog w
    = .ok (.agg #[.pointer (some ⟨1, 105, none⟩), .pointer (some ⟨w.heap.size, 0, none⟩), .int .u64 150]) (w.alloc (.cells #[.pointer (some t)] 105)) := by kernel_rfl
theorem Tryz.type105 (a : Addr) (w : World) : (ReflectliteValue.methodAny (ReflectliteValue.valueError "reflectlite.Value.Type" 0) (fun t _ _ _ => ReflectliteType.toType t) #[.agg #[.pointer (some ⟨1, 105, none⟩), .pointer (some a), .int .u64 150]]).run Tryz.prog w
    = .ok (.iface 176 (.agg #[.pointer (some ⟨1, 105, none⟩)])) w := by kernel_rfl
theorem Tryz.kind105 (w : World) : ((ReflectliteType.abiMethod fun t => (fun a : Nat => Value.int IntKind.u8 (a : Int)) <$> Rtype.kind t) #[.pointer (some ⟨1, 105, none⟩)]).run Tryz.prog w = .ok (.int .u8 22) w := by kernel_rfl
theorem Tryz.kind55 (w : World) : ((ReflectliteType.abiMethod fun t => (fun a : Nat => Value.int IntKind.u8 (a : Int)) <$> Rtype.kind t) #[.pointer (some ⟨1, 55, none⟩)]).run Tryz.prog w = .ok (.int .u8 2) w := by kernel_rfl
theorem rlm (z : Sem Value) (f : TypeId → Addr → Nat → Nat → Sem Value) (v : Value) :
    ReflectliteValue.method z f #[v] = (do match ← ReflectliteValue.parts v with | none => z | some (t, a, fl) => f t a fl (fl % 32)) := rfl
theorem Tryz.parts105 (a : Addr) (w : World) : (ReflectliteValue.parts (.agg #[.pointer (some ⟨1, 105, none⟩), .pointer (some a), .int .u64 150])).run Tryz.prog w = .ok (some (105, a, 150)) w := by kernel_rfl
theorem Tryz.isNil105 (a p : Addr) (W : World) (ha : W.cell? a = some (.pointer (some p))) :
    (ReflectliteValue.method (ReflectliteValue.valueError "reflectlite.Value.IsNil" 0) ReflectliteValue.isNil #[.agg #[.pointer (some ⟨1, 105, none⟩), .pointer (some a), .int .u64 150]]).run Tryz.prog W = .ok (.bool false) W := by
  rw [rlm]
  simp only [Sem.run_bind, Tryz.parts105, Result.andThen]
  simp [ReflectliteValue.isNil, loadVar, isAgg, underlying, Tryz.underlying105, ha, Result.andThen]
theorem Tryz.elem105 (w : World) : (ReflectliteType.method ReflectliteType.elem #[.agg #[.pointer (some ⟨1, 105, none⟩)]]).run Tryz.prog w = .ok (.iface 176 (.agg #[.pointer (some ⟨1, 55, none⟩)])) w := by kernel_rfl
theorem Tryz.implements55 (w : World) : (ReflectliteType.relation "Implements" ReflectliteType.implements_ #[.agg #[.pointer (some ⟨1, 55, none⟩)], .iface 176 (.agg #[.pointer (some ⟨1, 32, none⟩)])]).run Tryz.prog w = .ok (.bool true) w := by kernel_rfl
theorem Tryz.typeOf121 (v : Value) (w : World) : (ReflectliteType.typeOf #[.iface 121 v]).run Tryz.prog w = .ok (.iface 176 (.agg #[.pointer (some ⟨1, 121, none⟩)])) w := by kernel_rfl
theorem Tryz.typeOf55 (v : Value) (w : World) : (ReflectliteType.typeOf #[.iface 55 v]).run Tryz.prog w = .ok (.iface 176 (.agg #[.pointer (some ⟨1, 55, none⟩)])) w := by kernel_rfl
theorem Tryz.assignable121 (w : World) : (ReflectliteType.relation "AssignableTo" ReflectliteType.assignableTo #[.agg #[.pointer (some ⟨1, 121, none⟩)], .iface 176 (.agg #[.pointer (some ⟨1, 55, none⟩)])]).run Tryz.prog w = .ok (.bool false) w := by kernel_rfl
theorem Tryz.assignable55 (w : World) : (ReflectliteType.relation "AssignableTo" ReflectliteType.assignableTo #[.agg #[.pointer (some ⟨1, 55, none⟩)], .iface 176 (.agg #[.pointer (some ⟨1, 55, none⟩)])]).run Tryz.prog w = .ok (.bool true) w := by kernel_rfl
theorem Tryz.valueOf55 (n : Int) (w : World) : (ReflectliteValue.unpack (.iface 55 (.int .i64 n))).run Tryz.prog w
    = .ok (.agg #[.pointer (some ⟨1, 55, none⟩), .pointer (some ⟨w.heap.size, 0, none⟩), .int .u64 130]) (w.alloc (.cells #[.int .i64 n] 55)) := by kernel_rfl
theorem Tryz.elemOf105 (w : World) : (Rtype.elem? 105).run Tryz.prog w = .ok (some 55) w := by kernel_rfl
theorem Tryz.mk55 (p : Addr) (w : World) : (ReflectliteValue.mk 55 p ReflectliteValue.flagAddr).run Tryz.prog w = .ok (.agg #[.pointer (some ⟨1, 55, none⟩), .pointer (some p), .int .u64 386]) w := by kernel_rfl
theorem Tryz.elemV105 (a p : Addr) (W : World) (ha : W.cell? a = some (.pointer (some p))) :
    (ReflectliteValue.method (ReflectliteValue.valueError "reflectlite.Value.Elem" 0) ReflectliteValue.elem #[.agg #[.pointer (some ⟨1, 105, none⟩), .pointer (some a), .int .u64 150]]).run Tryz.prog W
      = .ok (.agg #[.pointer (some ⟨1, 55, none⟩), .pointer (some p), .int .u64 386]) W := by
  rw [rlm]
  simp only [Sem.run_bind, Tryz.parts105, Result.andThen]
  simp [ReflectliteValue.elem, loadVar, isAgg, underlying, Tryz.underlying105, ha, Result.andThen, Tryz.elemOf105, Tryz.mk55]
theorem rls (v x : Value) : ReflectliteValue.set #[v, x] = (do
    let (some (dst, a, fl), some (src, b, _)) := (← ReflectliteValue.parts v, ← ReflectliteValue.parts x)
      | unsupported (.noEntry "extern/(internal/reflectlite.Value).Set.zeroValue")
    if fl / ReflectliteValue.flagAddr % 2 == 0 then unsupported (.noEntry "extern/(internal/reflectlite.Value).Set.unaddressable")
    let val ← loadVar src b
    if ← Rtype.directlyAssignable dst src then storeVar dst a val
    else if ← Rtype.implements dst src then
      if (← Rtype.kind src) == 20 then
        match val with
        | .nilIface => unsupported (.noEntry "extern/reflectlite: a nil value of one interface type handed on as a value of another")
        | _ => storeVar dst a val
      else storeVar dst a (.iface src val)
    else panicString ("reflectlite.Set: value of type " ++ (← Rtype.spelt src) ++ " is not assignable to type " ++ (← Rtype.spelt dst))
    pure (.tuple #[])) := rfl
theorem Tryz.parts55a (a : Addr) (w : World) : (ReflectliteValue.parts (.agg #[.pointer (some ⟨1, 55, none⟩), .pointer (some a), .int .u64 386])).run Tryz.prog w = .ok (some (55, a, 386)) w := by kernel_rfl
theorem Tryz.parts55 (a : Addr) (w : World) : (ReflectliteValue.parts (.agg #[.pointer (some ⟨1, 55, none⟩), .pointer (some a), .int .u64 130])).run Tryz.prog w = .ok (some (55, a, 130)) w := by kernel_rfl
theorem Tryz.direct55 (w : World) : (Rtype.directlyAssignable 55 55).run Tryz.prog w = .ok true w := by kernel_rfl
theorem Tryz.set55 (ta b : Addr) (n : Int) (old : Value) (W : World) (hb : W.cell? b = some (.int .i64 n)) (ht : W.cell? ta = some old) (hf : W.frozen? ta = false) :
    (ReflectliteValue.set #[.agg #[.pointer (some ⟨1, 55, none⟩), .pointer (some ta), .int .u64 386], .agg #[.pointer (some ⟨1, 55, none⟩), .pointer (some b), .int .u64 130]]).run Tryz.prog W
      = .ok (.tuple #[]) (W.setCell ta (.int .i64 n)) := by
  rw [rls]
  simp only [Sem.run_bind, Tryz.parts55a, Tryz.parts55, Result.andThen]
  simp [ReflectliteValue.flagAddr, loadVar, isAgg, underlying, Tryz.underlying55, hb, Result.andThen, Tryz.direct55, storeVar, Value.cells, storeCells, Addr.add]
  rw [run_store Tryz.prog W ta _ _ (by rfl)]
  simp [ht, hf]
end Go.Proofs.YtkafmfdipmhleaaGreatDoor

namespace Go.Proofs.YtkafmfdipmhleaaGreatDoor
open Go.RowKit Go.Extern.Stop Go.Stop Go.Extern

theorem Tryz.noAs (v : Value) (xT : TypeId) (w : World) : (Instr.typeAssert (.iface 121 v) xT 181 true).run Tryz.prog w = .ok (.tuple #[.nilIface, .bool false]) w := run_typeAssert_lacksB Tryz.underlying181 (by kernel_rfl) (by kernel_rfl) v xT w
theorem Tryz.isUnwrap (v : Value) (xT : TypeId) (w : World) : (Instr.typeAssert (.iface 121 v) xT 184 true).run Tryz.prog w = .ok (.tuple #[.iface 121 v, .bool true]) w := run_typeAssert_hasB Tryz.underlying184 (by kernel_rfl) v xT w
set_option maxHeartbeats 4000000 in
set_option maxRecDepth 100000 in
/-- errors.As of a fault that wraps a number. -/
theorem as_fault (fb t : Nat) (op : ByteArray) (n : Int) (old : Value) (w : World) (hg : w.cell? ⟨0, 0, none⟩ = some (.iface 176 (.agg #[.pointer (some ⟨1, 32, none⟩)]))) (hfb : w.heap[fb]? = some (.cells (faultCells op n) 123 (0, 0))) (ht : w.heap[t]? = some (.cells #[old] 55 (0, 0))) :
    Calls Tryz.prog 56 #[.iface 121 (.pointer (some ⟨fb, 0, none⟩)), .iface 105 (.pointer (some ⟨t, 0, none⟩))] w fun ev w' => ev = .returned (.bool true) ∧ Fr (· = t) w w' ∧ w'.heap[t]? = some (.cells #[.int .i64 n] 55 (0, 0)) := by
  have h75 := @run_callFunc_extern Tryz.prog 75 _ (fun args => ReflectliteValue.unpack (args.getD 0 (.tuple #[]))) Tryz.func75 (by kernel_rfl) (by kernel_rfl) (by kernel_rfl) (by kernel_rfl)
  have h76 := @run_callFunc_extern Tryz.prog 76 _ (ReflectliteValue.methodAny (ReflectliteValue.valueError "reflectlite.Value.Type" 0) (fun t _ _ _ => ReflectliteType.toType t)) Tryz.func76 (by kernel_rfl) (by kernel_rfl) (by kernel_rfl) (by kernel_rfl)
  have h77 := @run_callFunc_extern Tryz.prog 77 _ (ReflectliteValue.method (ReflectliteValue.valueError "reflectlite.Value.IsNil" 0) ReflectliteValue.isNil) Tryz.func77 (by kernel_rfl) (by kernel_rfl) (by kernel_rfl) (by kernel_rfl)
  have h174 := @run_callFunc_extern Tryz.prog 174 _ (ReflectliteType.abiMethod fun t => do pure (.int .u8 (← Rtype.kind t))) Tryz.func174 (by kernel_rfl) (by kernel_rfl) (by kernel_rfl) (by kernel_rfl)
  have h192 := @run_callFunc_extern Tryz.prog 192 _ (ReflectliteType.method ReflectliteType.elem) Tryz.func192 (by kernel_rfl) (by kernel_rfl) (by kernel_rfl) (by kernel_rfl)
  have h193 := @run_callFunc_extern Tryz.prog 193 _ (ReflectliteType.relation "Implements" ReflectliteType.implements_) Tryz.func193 (by kernel_rfl) (by kernel_rfl) (by kernel_rfl) (by kernel_rfl)
  have h100 := @run_callFunc_extern Tryz.prog 100 _ ReflectliteType.typeOf Tryz.func100 (by kernel_rfl) (by kernel_rfl) (by kernel_rfl) (by kernel_rfl)
  have h190 := @run_callFunc_extern Tryz.prog 190 _ (ReflectliteType.relation "AssignableTo" ReflectliteType.assignableTo) Tryz.func190 (by kernel_rfl) (by kernel_rfl) (by kernel_rfl) (by kernel_rfl)
  have h101 := @run_callFunc_extern Tryz.prog 101 _ (ReflectliteValue.method (ReflectliteValue.valueError "reflectlite.Value.Elem" 0) ReflectliteValue.elem) Tryz.func101 (by kernel_rfl) (by kernel_rfl) (by kernel_rfl) (by kernel_rfl)
  have h102 := @run_callFunc_extern Tryz.prog 102 _ ReflectliteValue.set Tryz.func102 (by kernel_rfl) (by kernel_rfl) (by kernel_rfl) (by kernel_rfl)
  have f75 := Tryz.valueOf105
  have f76 := Tryz.type105
  have htl := lt_of_hp ht
  have hfl := lt_of_hp hfb
  have h0l : 0 < w.heap.size := by omega
  have k105 := Tryz.kind105
  have k55 := Tryz.kind55
  have e105 := Tryz.elem105
  have i55 := Tryz.implements55
  have t121 := Tryz.typeOf121
  have t55 := Tryz.typeOf55
  have a121 := Tryz.assignable121
  have a55 := Tryz.assignable55
  have v55 := Tryz.valueOf55
  have hs1 : (w.alloc (.cells #[.pointer (some ⟨t, 0, none⟩)] 105)).heap.size = w.heap.size + 1 := sz_alloc _ _
  have hs2 : ((w.alloc (.cells #[.pointer (some ⟨t, 0, none⟩)] 105)).alloc (.cells #[.pointer (some ⟨1, 105, none⟩), .pointer (some ⟨w.heap.size, 0, none⟩), .int .u64 150] 143)).heap.size = w.heap.size + 1 + 1 := by rw [sz_alloc, sz_alloc]
  have hs3 : (((w.alloc (.cells #[.pointer (some ⟨t, 0, none⟩)] 105)).alloc (.cells #[.pointer (some ⟨1, 105, none⟩), .pointer (some ⟨w.heap.size, 0, none⟩), .int .u64 150] 143)).alloc (.cells #[.pointer (some ⟨1, 105, none⟩), .pointer (some ⟨w.heap.size, 0, none⟩), .int .u64 150] 143)).heap.size = w.heap.size + 1 + 1 + 1 := by rw [sz_alloc, sz_alloc, sz_alloc]
  have p2 : ((w.alloc (.cells #[.pointer (some ⟨t, 0, none⟩)] 105)).alloc (.cells #[.pointer (some ⟨1, 105, none⟩), .pointer (some ⟨w.heap.size, 0, none⟩), .int .u64 150] 143)).heap[w.heap.size]? = some (.cells #[.pointer (some ⟨t, 0, none⟩)] 105 (0, 0)) := heap_alloc_keep _ (heap_alloc_new w _)
  have p3 : (((w.alloc (.cells #[.pointer (some ⟨t, 0, none⟩)] 105)).alloc (.cells #[.pointer (some ⟨1, 105, none⟩), .pointer (some ⟨w.heap.size, 0, none⟩), .int .u64 150] 143)).alloc (.cells #[.pointer (some ⟨1, 105, none⟩), .pointer (some ⟨w.heap.size, 0, none⟩), .int .u64 150] 143)).heap[w.heap.size]? = some (.cells #[.pointer (some ⟨t, 0, none⟩)] 105 (0, 0)) := heap_alloc_keep _ p2
  have n77 := Tryz.isNil105 ⟨w.heap.size, 0, none⟩ ⟨t, 0, none⟩ ((w.alloc (.cells #[.pointer (some ⟨t, 0, none⟩)] 105)).alloc (.cells #[.pointer (some ⟨1, 105, none⟩), .pointer (some ⟨w.heap.size, 0, none⟩), .int .u64 150] 143)) (by rw [cellv, p2]; rfl)
  have el := Tryz.elemV105 ⟨w.heap.size, 0, none⟩ ⟨t, 0, none⟩ (((w.alloc (.cells #[.pointer (some ⟨t, 0, none⟩)] 105)).alloc (.cells #[.pointer (some ⟨1, 105, none⟩), .pointer (some ⟨w.heap.size, 0, none⟩), .int .u64 150] 143)).alloc (.cells #[.pointer (some ⟨1, 105, none⟩), .pointer (some ⟨w.heap.size, 0, none⟩), .int .u64 150] 143)) (by rw [cellv, p3]; rfl)
  have b4 : ((((w.alloc (.cells #[.pointer (some ⟨t, 0, none⟩)] 105)).alloc (.cells #[.pointer (some ⟨1, 105, none⟩), .pointer (some ⟨w.heap.size, 0, none⟩), .int .u64 150] 143)).alloc (.cells #[.pointer (some ⟨1, 105, none⟩), .pointer (some ⟨w.heap.size, 0, none⟩), .int .u64 150] 143)).alloc (.cells #[.int .i64 n] 55)).heap[w.heap.size + 1 + 1 + 1]? = some (.cells #[.int .i64 n] 55 (0, 0)) := by rw [← hs3]; exact heap_alloc_new _ _
  have t4 : ((((w.alloc (.cells #[.pointer (some ⟨t, 0, none⟩)] 105)).alloc (.cells #[.pointer (some ⟨1, 105, none⟩), .pointer (some ⟨w.heap.size, 0, none⟩), .int .u64 150] 143)).alloc (.cells #[.pointer (some ⟨1, 105, none⟩), .pointer (some ⟨w.heap.size, 0, none⟩), .int .u64 150] 143)).alloc (.cells #[.int .i64 n] 55)).heap[t]? = some (.cells #[old] 55 (0, 0)) := heap_alloc_keep _ (heap_alloc_keep _ (heap_alloc_keep _ (heap_alloc_keep _ ht)))
  have st := Tryz.set55 ⟨t, 0, none⟩ ⟨w.heap.size + 1 + 1 + 1, 0, none⟩ n old ((((w.alloc (.cells #[.pointer (some ⟨t, 0, none⟩)] 105)).alloc (.cells #[.pointer (some ⟨1, 105, none⟩), .pointer (some ⟨w.heap.size, 0, none⟩), .int .u64 150] 143)).alloc (.cells #[.pointer (some ⟨1, 105, none⟩), .pointer (some ⟨w.heap.size, 0, none⟩), .int .u64 150] 143)).alloc (.cells #[.int .i64 n] 55)) (by rw [cellv, b4]; rfl) (by rw [cellv, t4]; rfl) (by rw [frozv, t4]; rfl)
  have hg2 : ((w.alloc (.cells #[.pointer (some ⟨t, 0, none⟩)] 105)).alloc (.cells #[.pointer (some ⟨1, 105, none⟩), .pointer (some ⟨w.heap.size, 0, none⟩), .int .u64 150] 143)).cell? ⟨0, 0, none⟩ = some (.iface 176 (.agg #[.pointer (some ⟨1, 32, none⟩)])) := by
    rw [World.cell?_alloc_lt _ _ ⟨0, 0, none⟩ (by simp), World.cell?_alloc_lt _ _ ⟨0, 0, none⟩ h0l]; exact hg
  have hf3 : (((w.alloc (.cells #[.pointer (some ⟨t, 0, none⟩)] 105)).alloc (.cells #[.pointer (some ⟨1, 105, none⟩), .pointer (some ⟨w.heap.size, 0, none⟩), .int .u64 150] 143)).alloc (.cells #[.pointer (some ⟨1, 105, none⟩), .pointer (some ⟨w.heap.size, 0, none⟩), .int .u64 150] 143)).cell? ⟨fb, 1, none⟩ = some (.iface 55 (.int .i64 n)) := by
    rw [cellv, heap_alloc_keep _ (heap_alloc_keep _ (heap_alloc_keep _ hfb))]; rfl
  have Ht := Lib.hid ht
  have Ht4 := Lib.hid t4
  have Htl := Lib.hid htl
  have HF : Hid (Fr (· = t) w ((((w.alloc (.cells #[.pointer (some ⟨t, 0, none⟩)] 105)).alloc (.cells #[.pointer (some ⟨1, 105, none⟩), .pointer (some ⟨w.heap.size, 0, none⟩), .int .u64 150] 143)).alloc (.cells #[.pointer (some ⟨1, 105, none⟩), .pointer (some ⟨w.heap.size, 0, none⟩), .int .u64 150] 143)).alloc (.cells #[.int .i64 n] 55))) := ((((Fr.refl _ w).alloc _).alloc _).alloc _).alloc _
  clear hfb ht htl hfl p2 p3 b4 t4 hg h0l hs1 hs2 hs3
  go_enter Tryz.func56, Tryz.ntmps56
  go_wp2
  refine wp_loop_rounds 2 ?_
  rw [rounds_succ]
  have ta1 := Tryz.noAs
  have ta2 := Tryz.isUnwrap
  go_wp2
  simp only [Array.getD_eq_getD_getElem?]
  rw [rounds_succ]
  go_wp2
  go_ret
  refine ⟨rfl, HF.out.trans (Fr.one t _ 0 _), ?_⟩
  rw [hp_setCell, if_pos rfl, Ht4.out]; rfl
end Go.Proofs.YtkafmfdipmhleaaGreatDoor

namespace Go.Proofs.YtkafmfdipmhleaaGreatDoor
open Go.RowKit

/-- The laid variable of package errors. -/
def Handle (w : World) : Prop := w.cell? ⟨0, 0, none⟩ = some (.iface 176 (.agg #[.pointer (some ⟨1, 32, none⟩)]))
def TellPost (w : World) (op : ByteArray) (eb : Nat) (w' : World) : Prop :=
  Fr (· = eb) w w' ∧ ∃ nb, w.heap.size ≤ nb ∧ w'.heap[nb]? = some (.cells (faultCells op 5) 123 (0, 0)) ∧ w'.heap[eb]? = some (.cells #[.iface 121 (.pointer (some ⟨nb, 0, none⟩))] 32 (0, 0))
theorem Tryz.isFault (v : Value) (xT : TypeId) (w : World) : (Instr.typeAssert (.iface 121 v) xT 121 true).run Tryz.prog w = .ok (.tuple #[v, .bool true]) w := by
  simp [go_sem, Instr.typeAssert, Tryz.underlying121]
set_option maxRecDepth 100000 in
set_option maxHeartbeats 4000000 in
theorem failed_fault {w : World} {fb eb : Nat} {op op2 : ByteArray} {old : Value} (hg : Handle w) (hf : w.heap[fb]? = some (.cells (faultCells op2 5) 123 (0, 0))) (he : w.heap[eb]? = some (.cells #[old] 32 (0, 0))) :
    Calls Tryz.prog 70 #[.iface 121 (.pointer (some ⟨fb, 0, none⟩)), .string op, .pointer (some ⟨eb, 0, none⟩)] w fun e w' => e = .returned (.tuple #[]) ∧ TellPost w op eb w' := by
  have hlt := lt_of_hp he
  have hltf := lt_of_hp hf
  have hne : ¬ eb = w.heap.size := by omega
  have HA := Lib.hid (as_fault fb w.heap.size op2 5 (.int .i64 5) (w.alloc (.cells #[.int .i64 5] 55)) (by
    have h0 : 0 < w.heap.size := by omega
    rw [World.cell?_alloc_lt _ _ ⟨0, 0, none⟩ h0]; exact hg) (heap_alloc_keep _ hf) (heap_alloc_new w _))
  have He := Lib.hid he
  have Hne := Lib.hid hne
  clear hg hf he hlt hltf hne
  have hta := Tryz.isFault
  go_enter Tryz.func70, Tryz.ntmps70
  go_wp2_with (first
    | (go_at_call 56; refine Calls.mono HA.out ?_; rintro e w2 ⟨rfl, hf2, ht2⟩; have hl8 : w2.cell? ⟨w.heap.size, 0, none⟩ = some (.int .i64 5) := (by rw [cellv, ht2]; rfl); have he2 := heap_alloc_keep (.cells (faultCells op 5) 123) (hf2.get (heap_alloc_keep _ He.out) Hne.out); have hce : (w2.alloc (.cells #[.string op, .iface 55 (.int .i64 5)] 123)).cell? ⟨eb, 0, none⟩ = some old := (by rw [cellv]; unfold faultCells at he2; rw [he2]; rfl); have hfe : (w2.alloc (.cells #[.string op, .iface 55 (.int .i64 5)] 123)).frozen? ⟨eb, 0, none⟩ = false := (by rw [frozv]; unfold faultCells at he2; rw [he2]; rfl); have He2 := Lib.hid he2; clear he2)
    | fail)
  go_end0
  have hlt := lt_of_hp He.out
  have hs2 : w.heap.size + 1 ≤ w2.heap.size := by have := hf2.size; simpa using this
  have hn2 : ¬ w2.heap.size = eb := by omega
  refine ⟨rfl, ?_, w2.heap.size, by omega, ?_, ?_⟩
  · exact ((((Fr.refl (· = eb) w).alloc _).trans' hf2 (fun i hi e => by omega)).alloc _).setCell (fun _ => rfl) 0 _
  · rw [hp_setCell, if_neg hn2, heap_alloc_new]; rfl
  · have := He2.out
    unfold faultCells at this
    rw [hp_setCell, if_pos rfl, this]; rfl
def setStr : ByteArray := ⟨#[115, 101, 116, 116, 108, 101]⟩
def appStr : ByteArray := ⟨#[97, 112, 112, 101, 110, 100]⟩
def thrownF (fb : Nat) (r : Bool) : FrameMode := .panicking [{ v := .iface 121 (.pointer (some ⟨fb, 0, none⟩)), recovered := r }]
set_option maxHeartbeats 1000000 in
theorem told69 {w : World} {fb eb : Nat} {op2 : ByteArray} {old : Value} (hg : Handle w) (hf : w.heap[fb]? = some (.cells (faultCells op2 5) 123 (0, 0))) (he : w.heap[eb]? = some (.cells #[old] 32 (0, 0))) :
    CallsD Tryz.prog 69 #[.pointer (some ⟨eb, 0, none⟩)] (thrownF fb false) w fun e u' w' => e = .returned (.tuple #[]) ∧ u' = thrownF fb true ∧ TellPost w setStr eb w' := by
  refine callsD_of_wpS Tryz.func69 rfl fun c₀ cs hu => ?_
  apply wpS_region
  unfold thrownF at hu
  simp [wpOpsS, go_sem, recoverD, hu, Tryz.ntmps69]
  refine Calls.mono (failed_fault (op := setStr) hg hf he) ?_
  rintro e w' ⟨rfl, h⟩
  cases c₀
  simp_all [bodyPostS, results, Tryz.results69]
  rfl
set_option maxHeartbeats 1000000 in
theorem told94 {w : World} {fb eb : Nat} {op2 : ByteArray} {old : Value} (hg : Handle w) (hf : w.heap[fb]? = some (.cells (faultCells op2 5) 123 (0, 0))) (he : w.heap[eb]? = some (.cells #[old] 32 (0, 0))) :
    CallsD Tryz.prog 94 #[.pointer (some ⟨eb, 0, none⟩)] (thrownF fb false) w fun e u' w' => e = .returned (.tuple #[]) ∧ u' = thrownF fb true ∧ TellPost w appStr eb w' := by
  refine callsD_of_wpS Tryz.func94 rfl fun c₀ cs hu => ?_
  apply wpS_region
  unfold thrownF at hu
  simp [wpOpsS, go_sem, recoverD, hu, Tryz.ntmps94]
  refine Calls.mono (failed_fault (op := appStr) hg hf he) ?_
  rintro e w' ⟨rfl, h⟩
  cases c₀
  simp_all [bodyPostS, results, Tryz.results94]
  rfl
end Go.Proofs.YtkafmfdipmhleaaGreatDoor
