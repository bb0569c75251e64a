/-
  What is proved: the contract of plain.All, whatever the most. the contract of plain.All, for a most below one. the script's listed: what All gives is the document's answer. a disk of a script that runs: what is found when it is opened. what a step on a disk makes of it, and of its engine's partner. a disk of a script that runs: what Open answers is the document's answer.
-/
import Derived.Test.YtkafmfdipmhleaaGreatDoorUx10

namespace Go.Proofs.YtkafmfdipmhleaaGreatDoor
open Go.RowKit Go.Maps Go.Shelf
attribute [local go_sem] Oper.semAt_some
/-- Where an engine lies, but for its journal, disk and partner. -/
structure EvV (cv : Value) (w : World) (q : Pl) (bl : List Nat) (s : StM) : Prop where
  eng : w.heap[q.xb]? = some (.cells (egCells q.jb q.mb s.pause cv s.clock false) 79 (0, 0))
  mp : w.ownsMap Tryz.prog 3 ptrR q.mb s.sagas.length (dataOf (ilOf s.sagas bl))
  len : bl.length = s.sagas.length
  sg : ∀ (i : Nat) (g : SagaM) (b : Nat), s.sagas[i]? = some g → bl[i]? = some b → SagaAt w b g
  nd : bl.Nodup
theorem EvV.keepK {cv : Value} {w w' : World} {K : List Nat} {q : Pl} {bl : List Nat} {s : StM} (h : EvV cv w q bl s) (hf : FrK K w w') (hK : ∀ k ∈ [80, 0, 89, 55], k ∉ K) : EvV cv w' q bl s :=
  ⟨hf.block _ _ h.eng (by simpa [kindOf] using hK 80 (by simp)), map_keepK h.mp hf (hK 0 (by simp)), h.len, sgs_keepK h.sg hf (hK 89 (by simp)) (hK 55 (by simp)), h.nd⟩
set_option maxRecDepth 100000 in
set_option maxHeartbeats 4000000 in
/-- The iterator: it goes through the sagas in the order of their numbers. -/
theorem all84v (n : Nat) (hn : 1 ≤ n) {cv : Value} {w0 : World} {q : Pl} {bl : List Nat} {s : StM} (hs : EvV cv w0 q bl s) (ho : s.sagas.Pairwise (fun a b => a.id < b.id)) (hok : ∀ g ∈ s.sagas, 1 ≤ g.id ∧ g.id ≤ 1000) (hl : s.sagas.length ≤ 1000)
    (l Bn : Nat) (J Jx : List SagaM → World → Prop) (W : World) (hJ : AbidesFrom W.heap.size J)
    (hY : ∀ pre x W1, J pre W1 → pre.length < s.sagas.length → YieldAt Fence.wide (n - 1) Tryz.prog l #[.agg x.status] W1 fun e W' =>
      (e = .returned (.bool true) ∧ J (pre ++ [x]) W' ∧ KpA w0.heap.size W1 W') ∨ (e = .returned (.bool false) ∧ Jx (pre ++ [x]) W'))
    (hBn : W.heap[Bn]? = some (.cells #[.pointer (some ⟨q.xb, 0, none⟩)] 28 (0, 0))) (hB : Below w0.heap.size w0 W) (h0 : J [] W) :
    CallsIn Fence.wide n Tryz.prog 84 #[.func (.yield l) #[] #[], .pointer (some ⟨Bn, 0, none⟩)] W fun e W' => (∃ v, e = .returned v) ∧
      ((∃ ys, ys = s.sagas ∧ J ys W') ∨ (∃ pre, pre <+: s.sagas ∧ Jx pre W')) := by
  have Hs := Lib.hid hs
  have Ho := Lib.hid ho
  have Hok := Lib.hid hok
  have hs1 := hs.keepK (below_toK hB (Nat.le_refl _) []) (by simp)
  have hx := hs1.eng
  simp only [egCells] at hx
  have hz : Maps.size (dataOf (ilOf s.sagas bl)) = s.sagas.length := by
    rw [size_dataOf, ilOf, List.length_zip, List.length_map, hs.len]; omega
  have HK := Lib.hid (fun m => (callsIn_wide (n := m)).2 (Keys_calls (some q.mb) W))
  have HS := Lib.hid (fun m => (callsIn_wide (n := m)).2 (Sorted_calls q.mb s.sagas.length (dataOf (ilOf s.sagas bl)) ptrR W hs1.mp (by rw [hz]; unfold maxLen; omega) (by rw [hz]; omega)))
  have Hl := Lib.hid hl
  have HB := Lib.hid hB
  have HY := Lib.hid hY
  have HJ := Lib.hid hJ
  have H0 := Lib.hid h0
  have a1 : W.cell? ⟨Bn, 0, none⟩ = some (.pointer (some ⟨q.xb, 0, none⟩)) := by rw [cellv, hBn]; rfl
  have Hbn : Hid (W.heap[Bn]? = some (.cells #[.pointer (some ⟨q.xb, 0, none⟩)] 28 (0, 0))) := hBn
  clear hs ho hok hl hs1 hz hJ hY hB h0 hBn
  have hcv := cellv W
  refine callsIn_of_wp Tryz.func84 rfl trivial ?_ rfl
  simp only [Tryz.ntmps84, List.size_toArray, List.length_cons, List.length_nil, Nat.reduceAdd, Nat.reduceSub, Array.replicate_succ, Array.replicate_zero, List.push_toArray, List.append_toArray, List.nil_append, List.cons_append]
  gi_wp2_with (first
    | (gi_at_call 48; refine (HK.out _).mono ?_; rintro e w2 ⟨rfl, rfl⟩)
    | (refine ⟨trivial, ?_⟩; gi_at_call 48; refine (HK.out _).mono ?_; rintro e w2 ⟨rfl, rfl⟩)
    | (refine ⟨trivial, ?_⟩; refine (HK.out _).mono ?_; rintro e w2 ⟨rfl, rfl⟩)
    | (refine ⟨trivial, ?_⟩; refine (HS.out _).mono ?_; rintro e w3 ⟨v, ss, rfl, hperm, hown, hnil, hbel⟩; obtain ⟨va, vc, rfl, hva⟩ := ids_shape hown)
    | fail)
  have hb1 : Below W.heap.size W w3 := ((Below.refl _ W).alloc (Nat.le_refl _) (.cells #[.map (some q.mb)] 76)).trans (hbel.mono (by simp))
  have hb3 : Below w0.heap.size w0 w3 := HB.out.trans (hb1.mono HB.out.size)
  have hids := keys_sorted Hs.out.len Ho.out hperm
  rw [hids] at hown
  have hlen : ss.length = s.sagas.length := by
    have := congrArg List.length hids
    simpa using this
  rw [hlen] at hown hva ⊢
  have hbn3 := (hb1.block Bn (lt_of_hp Hbn.out)).trans Hbn.out
  have HJ3 := Lib.hid (abides_below HJ.out H0.out hb1)
  have HB3 := Lib.hid hb3
  have Hbn3 := Lib.hid hbn3
  have Hva := Lib.hid hva
  have Hown := Lib.hid hown
  clear hcv hx a1 hnil hbel hb1 hb3 hids hperm hva hlen hown hbn3 Hbn HJ H0 HK HS
  gi_loopw [12] (fun i wr => ∃ k : Nat, k ≤ s.sagas.length ∧ i = .int .i64 (k : Nat) ∧ J (s.sagas.take k) wr ∧ Below w0.heap.size w0 wr ∧ FrK [0, 66, 39] w3 wr) (fun i _ => s.sagas.length - (intOf i).toNat)
  case atStart => exact ⟨0, Nat.zero_le _, rfl, HJ3.out, HB3.out, FrK.refl _ _⟩
  case round =>
    obtain ⟨k, hk, rfl, hJk, hbl, hfk⟩ := hrel
    have Hbl := Lib.hid hbl
    have Hfk := Lib.hid hfk
    have HJk := Lib.hid hJk
    have hbn := hfk.block _ _ Hbn3.out (by simp [kindOf])
    clear hbl hfk hJk
    by_cases hkn : k < s.sagas.length
    · obtain ⟨g, hg⟩ : ∃ g, s.sagas[k]? = some g := ⟨s.sagas[k], List.getElem?_eq_getElem hkn⟩
      obtain ⟨b, hb, hbo⟩ := blk_of s.sagas bl Hs.out.len Ho.out k g hg
      have hokg := Hok.out g (List.mem_of_getElem? hg)
      have hsr := Hs.out.keepK (below_toK Hbl.out (Nat.le_refl _) []) (by simp)
      have hlk := look_some hsr.mp g.id (by omega) hbo
      have hsg := hsr.sg k g b hg hb
      have hx := hsr.eng
      obtain ⟨sv, hsb, _⟩ := hsg
      simp only [egCells] at hx
      simp only [sgCells] at hsb
      obtain ⟨ib, rfl⟩ : ∃ ib, va = some ⟨ib, 0, none⟩ := by
        rcases Hva.out with h | h
        · omega
        · exact h
      have hgid : (s.sagas.map (·.id))[k]? = some g.id := by rw [List.getElem?_map, hg]; rfl
      have hcell := ints_at (own_keepK Hown.out Hfk.out (by decide)) k g.id hgid
      have htk : s.sagas.take k ++ [g] = s.sagas.take (k + 1) := by
        rw [List.take_succ_eq_append_getElem hkn]
        congr 2
        rw [List.getElem?_eq_getElem hkn] at hg; exact (Option.some.inj hg).symm
      obtain ⟨fn, tmps, assign, body, hy, hR⟩ := HY.out (s.sagas.take k) g wr HJk.out (by rw [List.length_take]; omega)
      rw [htk] at hR
      have HR := Lib.hid hR
      have hkI : (k : Int) < s.sagas.length := by omega
      have Hkn := Lib.hid hkn
      simp only [SagaM.status] at hy
      have hl30 := Hl.out
      clear hb hbo hsr hgid htk hR hg hkn hokg
      have hcv := cellv wr
      have a1 : wr.cell? ⟨Bn, 0, none⟩ = some (.pointer (some ⟨q.xb, 0, none⟩)) := by rw [cellv, hbn]; rfl
      gi_wp2
      refine HR.out.mono ?_
      rintro e W3 (⟨rfl, hJ3, hk3⟩ | ⟨rfl, hJx3⟩)
      · gi_wp2
        go_roundw
        case rel => exact ⟨k + 1, Hkn.out, by go_num, hJ3, Hbl.out.trans hk3.1, Hfk.out.trans hk3.2⟩
        case measure => have := Hkn.out; simp [intOf]; omega
      · gi_wp2
        refine bodyPost_ret (results_none rfl _ _ _) rfl ?_
        exact ⟨⟨_, rfl⟩, .inr ⟨s.sagas.take (k + 1), List.take_prefix _ _, hJx3⟩⟩
    · obtain rfl : k = s.sagas.length := by omega
      have hnk : ¬ ((s.sagas.length : Int) < s.sagas.length) := by omega
      gi_wp2
      go_end0
      exact ⟨⟨_, rfl⟩, .inl (by have := HJk.out; rw [List.take_length] at this; exact this)⟩
theorem all_stopsv (n : Nat) (hn : 1 ≤ n) {cv : Value} {w0 w : World} {q : Pl} {bl : List Nat} {s : StM} (hs : EvV cv w0 q bl s) (ho : s.sagas.Pairwise (fun a b => a.id < b.id)) (hok : ∀ g ∈ s.sagas, 1 ≤ g.id ∧ g.id ≤ 1000) (hl : s.sagas.length ≤ 1000)
    (Bn : Nat) (hBn : w.heap[Bn]? = some (.cells #[.pointer (some ⟨q.xb, 0, none⟩)] 28 (0, 0))) (hB : Below w0.heap.size w0 w) :
    SeqStopsK Fence.wide n Tryz.prog 84 #[.pointer (some ⟨Bn, 0, none⟩)] (fun g : SagaM => #[Value.agg g.status]) (KpA w0.heap.size) (fun ys => ys = s.sagas) (fun pre => pre <+: s.sagas) s.sagas.length w :=
  fun l J Jx W hW hJ _ hY h0 => all84v n hn hs ho hok hl l Bn J Jx W hJ hY ((hW.block Bn (lt_of_hp hBn)).trans hBn) (hB.trans (hW.mono hB.size)) h0
set_option maxRecDepth 100000 in
set_option maxHeartbeats 4000000 in
theorem All_pos {cv : Value} {w : World} {M : Nat} {q : Pl} {bl : List Nat} {s : StM} (hs : EvV cv w q bl s) (ho : s.sagas.Pairwise (fun a b => a.id < b.id)) (hok : ∀ g ∈ s.sagas, 1 ≤ g.id ∧ g.id ≤ 1000) (hl : s.sagas.length ≤ 1000) (hM : 1 ≤ M) :
    Calls Tryz.prog 32 #[.pointer (some ⟨q.xb, 0, none⟩), .int .i64 (M : Nat)] w fun e w' => ∃ v, e = .returned v ∧ w'.ownsRow w.heap.size 38 6 v (s.sagas.take M).length (stCells (s.sagas.take M)) ∧ Below w.heap.size w w' := by
  refine (callsIn_wide (n := 10)).1 ?_
  obtain ⟨i0, hi, hz0, hz1, hz2⟩ := info_parts Tryz.info38z
  refine callsIn_of_wp_marks Tryz.func32 rfl trivial ?_ rfl
  simp only [Tryz.ntmps32, List.size_toArray, List.length_cons, List.length_nil, Nat.reduceAdd, Nat.reduceSub, Array.replicate_succ, Array.replicate_zero, List.push_toArray, List.append_toArray, List.nil_append, List.cons_append]
  have Hs := Lib.hid hs
  have Ho := Lib.hid ho
  have Hok := Lib.hid hok
  have Hl := Lib.hid hl
  have hM1 : ¬ ((M : Int) < 1) := by omega
  clear hs ho hok hl
  gi_wp2_with (first
    | (refine ⟨trivial, ?_⟩; refine (all59 9 q.xb _).mono ?_; rintro e w' ⟨rfl, rfl⟩)
    | fail)
  have bM := ((Boxed.new w 3 (.int .i64 (M : Nat))).alloc (.cells #[.slice none 0 0] 65)).alloc (.cells #[.pointer (some ⟨q.xb, 0, none⟩)] 28)
  have bO := (Boxed.new (w.alloc (.cells #[.int .i64 (M : Nat)] 3)) 65 (.slice none 0 0)).alloc (.cells #[.pointer (some ⟨q.xb, 0, none⟩)] 28)
  have bA := Boxed.new ((w.alloc (.cells #[.int .i64 (M : Nat)] 3)).alloc (.cells #[.slice none 0 0] 65)) 28 (.pointer (some ⟨q.xb, 0, none⟩))
  simp only [World.size_alloc] at bO bA
  have hB0 : Below w.heap.size w (((w.alloc (.cells #[.int .i64 (M : Nat)] 3)).alloc (.cells #[.slice none 0 0] 65)).alloc (.cells #[.pointer (some ⟨q.xb, 0, none⟩)] 28)) := (((Below.refl _ w).alloc (Nat.le_refl _) _).alloc (by simp) _).alloc (by simp; omega) _
  have hsz : (((w.alloc (.cells #[.int .i64 (M : Nat)] 3)).alloc (.cells #[.slice none 0 0] 65)).alloc (.cells #[.pointer (some ⟨q.xb, 0, none⟩)] 28)).heap.size = w.heap.size + 3 := by simp
  obtain ⟨W0, hW0⟩ : ∃ W0, ((w.alloc (.cells #[.int .i64 (M : Nat)] 3)).alloc (.cells #[.slice none 0 0] 65)).alloc (.cells #[.pointer (some ⟨q.xb, 0, none⟩)] 28) = W0 := ⟨_, rfl⟩
  rw [hW0] at bM bO bA hB0 hsz
  simp only [World.size_alloc, hW0]
  refine wpIn_rangeFunc_ownH rfl (by omega) (gf := 84) (lb := #[.pointer (some ⟨w.heap.size + 1 + 1, 0, none⟩)]) rfl trivial (enters_of Tryz.func84 (by kernel_rfl) rfl)
    (all_stopsv 9 (by omega) Hs.out Ho.out Hok.out Hl.out (w.heap.size + 1 + 1) bA hB0) KpA.trans (KpA.put (by omega)) (Below.refl _ _) (fun _ => rfl)
    (fun pre W => ((∃ v, Boxed W (w.heap.size + 1) 65 v ∧ W.ownsRow w.heap.size 38 6 v pre.length (stCells pre) ∧ (v = .slice none 0 0 ↔ pre = [])) ∧ Boxed W w.heap.size 3 (.int .i64 (M : Nat))) ∧ (Below w.heap.size w W ∧ pre.length ≤ M))
    (fun c pre W => c = .exit 0 ∧ (pre.length = M + 1 ∧ ((∃ v, Boxed W (w.heap.size + 1) 65 v ∧ W.ownsRow w.heap.size 38 6 v (pre.take M).length (stCells (pre.take M)) ∧ True) ∧ Below w.heap.size w W)))
    (OwnFrom.and (OwnFrom.and (Own.from (holdsRow_own w.heap.size (w.heap.size + 1) 65 38 6 (fun pre => pre.length) (fun pre => stCells pre) (fun pre v => v = .slice none 0 0 ↔ pre = [])) _) (Own.from (boxed_own _ _ _) _)) (OwnFrom.and (ownFrom_below (Nat.le_refl _) (by omega)) (ownFrom_pure _ (fun (pre : List SagaM) => pre.length ≤ M))))
    (fun c => OwnFrom.and (ownFrom_pure _ (fun (_ : List SagaM) => c = .exit 0)) (OwnFrom.and (ownFrom_pure _ (fun (pre : List SagaM) => pre.length = M + 1)) (OwnFrom.and (Own.from (holdsRow_own w.heap.size (w.heap.size + 1) 65 38 6 (fun (pre : List SagaM) => (pre.take M).length) (fun (pre : List SagaM) => stCells (pre.take M)) (fun (pre : List SagaM) (v : Value) => True)) _) (ownFrom_below (Nat.le_refl _) (by omega)))))
    ⟨⟨⟨_, bO, World.ownsRow_nil _ _ _ _, by simp⟩, bM⟩, hB0, by simp⟩
    (fun x a' W => ∃ Bx, w.heap.size + 1 < Bx ∧ W.heap[Bx]? = some (.cells x.status 38 (0, 0)) ∧ a' = { tmps := #[.pointer (some ⟨q.xb, 0, none⟩), .int .i64 (M : Nat), undef, .pointer (some ⟨w.heap.size, 0, none⟩), .slice none 0 0, .pointer (some ⟨w.heap.size + 1, 0, none⟩), .pointer (some ⟨Bx, 0, none⟩), .int .i64 (M : Nat), .bool false, .pointer (some ⟨q.xb, 0, none⟩), .func (.func 84) #[] #[.pointer (some ⟨w.heap.size + 1 + 1, 0, none⟩)], .agg x.status, undef, undef, undef, undef, undef, undef, undef, undef, undef], defers := [] })
    (fun x a' _ X Y row hs hg hr => by
      obtain ⟨Bx, h1, h2, h3⟩ := hs
      refine ⟨Bx, h1, (hg.block Bx (lt_of_hp h2) (fun e => ?_)).trans h2, h3⟩
      obtain ⟨_, o, ho, hc⟩ := hr Bx e.symm
      rw [h2] at ho; cases ho; cases hc)
    ?assign ?body ?done ?stop
  case assign =>
    rintro l pre x W K ⟨⟨⟨v, hv, hrow, hnil⟩, bM1⟩, hB1, hpl⟩ hK
    have hst : Hid (#[Value.int .i64 x.id, Value.int .i64 x.st, Value.int .i64 x.step, Value.int .i64 x.steps.length, Value.int .i64 x.tries, Value.int .i64 x.due] = x.status) := rfl
    simp only [SagaM.status]
    gi_wp2
    rw [hst.out]
    exact hK _ _ (FrK.keepsFrom (K := []) (((Fr.refl (fun _ => False) W).alloc _).toK (fun _ _ f _ => f.elim)) (by simp) _)
      ⟨(Below.refl _ W).alloc hB1.size _, ((Fr.refl (fun _ => False) W).alloc _).toK (fun _ _ f _ => f.elim)⟩
      ⟨⟨⟨v, hv.alloc _, hrow.alloc _, hnil⟩, bM1.alloc _⟩, hB1.alloc hB1.size _, hpl⟩ ⟨W.heap.size, hv.lt, World.alloc_heap_new W _, rfl⟩
  case body =>
    rintro l pre x a' W hl ⟨r, hr⟩ ⟨⟨⟨v, hv, hrow, hnil⟩, bM1⟩, hB1, hpl⟩ ⟨Bx, hBx, bX, rfl⟩ hlt
    have hc := hv.cell
    have hm := bM1.cell
    obtain ⟨va, vc, rfl⟩ : ∃ va vc, v = .slice va pre.length vc := by
      rcases hrow.2 with ⟨h1, h2⟩ | ⟨g, cap, cur, h1, _⟩
      · exact ⟨none, 0, by rw [h1, h2]⟩
      · exact ⟨_, _, h1⟩
    by_cases hne : (pre.length : Int) = (M : Int)
    · have hpM : pre.length = M := by omega
      have Hrow := Lib.hid hrow
      have Hv := Lib.hid hv
      have HM1 := Lib.hid bM1
      have HB1 := Lib.hid hB1
      have HpM := Lib.hid hpM
      have hst : Hid (#[Value.int .i64 x.id, Value.int .i64 x.st, Value.int .i64 x.step, Value.int .i64 x.steps.length, Value.int .i64 x.tries, Value.int .i64 x.due] = x.status) := rfl
      simp only [SagaM.status] at bX ⊢
      clear hrow hv bM1 hB1 hnil hlt hr hpM hpl
      gi_wp2
      have etk : (pre ++ [x]).take M = pre := by rw [← HpM.out]; simp
      refine ⟨FrK.keepsFrom (K := []) (FrK.refl _ _) (by simp) _, rfl, by rw [List.length_append, HpM.out]; rfl, ⟨_, Hv.out, ?_, trivial⟩, HB1.out⟩
      rw [etk]; exact Hrow.out
    have hst : Hid (#[Value.int .i64 x.id, Value.int .i64 x.st, Value.int .i64 x.step, Value.int .i64 x.steps.length, Value.int .i64 x.tries, Value.int .i64 x.due] = x.status) := rfl
    have Hrow := Lib.hid hrow
    have Hv := Lib.hid hv
    have HM1 := Lib.hid bM1
    have HB1 := Lib.hid hB1
    have Hnil := Lib.hid hnil
    simp only [SagaM.status] at bX ⊢
    have hoA := Lib.hid (hrow.alloc (.cells #[Value.int .i64 x.id, Value.int .i64 x.st, Value.int .i64 x.step, Value.int .i64 x.steps.length, Value.int .i64 x.tries, Value.int .i64 x.due] 38))
    have hnews : ∀ (j : Nat) (u : Value), [Value.int .i64 x.id, Value.int .i64 x.st, Value.int .i64 x.step, Value.int .i64 x.steps.length, Value.int .i64 x.tries, Value.int .i64 x.due][j]? = some u → (W.alloc (.cells #[Value.int .i64 x.id, Value.int .i64 x.st, Value.int .i64 x.step, Value.int .i64 x.steps.length, Value.int .i64 x.tries, Value.int .i64 x.due] 38)).cell? ((⟨W.heap.size, 0, none⟩ : Addr).add j) = some u := World.news_of_block (heap_alloc_new W _)
    have Hnews := Lib.hid hnews
    have hlt' := Lib.hid hlt
    have Hpl : Hid (pre.length < M) := by show _ < _; omega
    clear hrow hv bM1 hB1 hnil hnews hlt hr hpl
    have hcv := cellv W
    gi_wp2_with (first
      | (gi_at_builtin; refine wpListIn_append_own _ rfl _ _ 65 rfl w.heap.size 38 i0 (.agg #[.int .i64 0, .int .i64 0, .int .i64 0, .int .i64 0, .int .i64 0, .int .i64 0]) 6 48 Tryz.underlying65 hi hz0 hz1 hz2 rfl (by decide) _ _ _ rfl hoA.out ⟨W.heap.size, 0, none⟩ 1 1 [Value.int .i64 x.id, Value.int .i64 x.st, Value.int .i64 x.step, Value.int .i64 x.steps.length, Value.int .i64 x.tries, Value.int .i64 x.due] rfl rfl Hnews.out (by intro u hu; simp at hu; rcases hu with rfl | rfl | rfl | rfl | rfl | rfl <;> rfl) (by unfold maxLen; have := hlt'.out; have := Hl.out; omega) (by have := hlt'.out; have := Hl.out; omega) (by have := HB1.out.size; simp; omega) ?_; intro v' w1 hown' hgrow _; obtain ⟨g', cap', rfl⟩ := ownsRow_succ hown'; obtain ⟨hv1, hv2, hr2, hk2, hb2⟩ := Hv.out.appended (by decide) Hrow.out HB1.out.size (by omega) hown' hgrow; have hc1 := hv1.cell; have hf1 := hv1.frozen)
      | fail)
    have hg1 : (W.alloc (.cells #[Value.int .i64 x.id, Value.int .i64 x.st, Value.int .i64 x.step, Value.int .i64 x.steps.length, Value.int .i64 x.tries, Value.int .i64 x.due] 38)).grownBy w1 (Value.slice va pre.length vc).ownBlock := hgrow
    have hF : FrK [66, 39] W (w1.setCell ⟨w.heap.size + 1, 0, none⟩ (.slice (some ⟨g', 0, none⟩) (pre.length + 1) cap')) := by
      refine FrK.trans (b := W.alloc (.cells #[Value.int .i64 x.id, Value.int .i64 x.st, Value.int .i64 x.step, Value.int .i64 x.steps.length, Value.int .i64 x.tries, Value.int .i64 x.due] 38)) (((Fr.refl (fun _ => False) W).alloc _).toK (fun _ _ f _ => f.elim)) (FrK.trans (b := w1) ((Fr.ofGrown hg1).toK ?_) ((Fr.one (w.heap.size + 1) w1 0 _).toK ?_))
      · intro k o hk ho
        obtain ⟨o', ho', hk'⟩ := own_kind hoA.out hk
        rw [ho] at ho'; cases ho'
        simp [hk']
      · rintro k o rfl ho
        rw [show w1.heap[w.heap.size + 1]? = _ from hv1] at ho; cases ho
        simp [kindOf]
    refine ⟨hF.keepsFrom (by simp) _, KpA.of hF (by simp) hb2, ⟨⟨_, hv2, ?_, by simp⟩, hF.block _ _ HM1.out (by simp [kindOf])⟩, HB1.out.trans hb2, by rw [List.length_append]; show pre.length + 1 ≤ M; have := Hpl.out; omega⟩
    rw [stCells_snoc, List.length_append, List.length_singleton]
    exact hr2
  case done =>
    rintro D ys W hD rfl ⟨⟨⟨v, hv, hrow, hnil⟩, bM1⟩, hB1, hpl⟩ hK
    have etk := List.take_of_length_le hpl
    have hc := hv.cell
    obtain ⟨va, vc, rfl⟩ : ∃ va vc, v = .slice va s.sagas.length vc := by
      rcases hrow.2 with ⟨h1, h2⟩ | ⟨g, cap, cur, h1, _⟩
      · exact ⟨none, 0, by rw [h1, h2]⟩
      · exact ⟨_, _, h1⟩
    gi_wp2
    refine ⟨by simp, .inl ⟨_, _, rfl, run_takeDeferred hK, ?_⟩⟩
    exact ⟨_, results_tmp rfl _ _ _, _, rfl, by rw [etk]; exact ownsRow_putObj hrow _ hK rfl, hB1.trans (belowK_b (w := w) (Nat.le_refl _) W D _ _ (by omega) hK rfl rfl)⟩
  case stop =>
    rintro D c pre W hD hpre ⟨rfl, hpl, ⟨v, hv, hrow, _⟩, hB1⟩ hK
    have htk : pre.take M = s.sagas.take M := by
      obtain ⟨tl, htl⟩ := hpre
      rw [← htl, List.take_append_of_le_length (by omega)]
    have hc := hv.cell
    have hlM : (pre.take M).length = M := by rw [List.length_take]; omega
    rw [hlM] at hrow
    have Htk := Lib.hid htk
    have HlM := Lib.hid hlM
    clear htk hlM
    obtain ⟨va, vc, rfl⟩ : ∃ va vc, v = .slice va M vc := by
      rcases hrow.2 with ⟨h1, h2⟩ | ⟨g, cap, cur, h1, _⟩
      · exact ⟨none, 0, by rw [h1, h2]⟩
      · exact ⟨_, _, h1⟩
    gi_wp2
    refine ⟨by simp, .inl ⟨_, _, rfl, run_takeDeferred hK, ?_⟩⟩
    exact ⟨_, results_tmp rfl _ _ _, _, rfl, by rw [← Htk.out, HlM.out]; exact ownsRow_putObj hrow _ hK rfl, hB1.trans (belowK_b (w := w) (Nat.le_refl _) W D _ _ (by omega) hK rfl rfl)⟩
end Go.Proofs.YtkafmfdipmhleaaGreatDoor

namespace Go.Proofs.YtkafmfdipmhleaaGreatDoor
open Go.RowKit Go.Maps Go.Shelf
attribute [local go_sem] Oper.semAt_some
set_option maxRecDepth 100000 in
set_option maxHeartbeats 4000000 in
theorem All_neg {cv : Value} {w : World} {most : Int} {q : Pl} {bl : List Nat} {s : StM} (hs : EvV cv w q bl s) (ho : s.sagas.Pairwise (fun a b => a.id < b.id)) (hok : ∀ g ∈ s.sagas, 1 ≤ g.id ∧ g.id ≤ 1000) (hl : s.sagas.length ≤ 1000) (hM : most < 1) :
    Calls Tryz.prog 32 #[.pointer (some ⟨q.xb, 0, none⟩), .int .i64 most] w fun e w' => ∃ v, e = .returned v ∧ w'.ownsRow w.heap.size 38 6 v (s.sagas.take 0).length (stCells (s.sagas.take 0)) ∧ Below w.heap.size w w' := by
  refine (callsIn_wide (n := 10)).1 ?_
  obtain ⟨i0, hi, hz0, hz1, hz2⟩ := info_parts Tryz.info38z
  refine callsIn_of_wp_marks Tryz.func32 rfl trivial ?_ rfl
  simp only [Tryz.ntmps32, List.size_toArray, List.length_cons, List.length_nil, Nat.reduceAdd, Nat.reduceSub, Array.replicate_succ, Array.replicate_zero, List.push_toArray, List.append_toArray, List.nil_append, List.cons_append]
  have Hs := Lib.hid hs
  have Ho := Lib.hid ho
  have Hok := Lib.hid hok
  have Hl := Lib.hid hl
  clear hs ho hok hl
  gi_wp2_with (first
    | (refine ⟨trivial, ?_⟩; refine (all59 9 q.xb _).mono ?_; rintro e w' ⟨rfl, rfl⟩)
    | fail)
  have bM := ((Boxed.new w 3 (.int .i64 0)).alloc (.cells #[.slice none 0 0] 65)).alloc (.cells #[.pointer (some ⟨q.xb, 0, none⟩)] 28)
  have bO := (Boxed.new (w.alloc (.cells #[.int .i64 0] 3)) 65 (.slice none 0 0)).alloc (.cells #[.pointer (some ⟨q.xb, 0, none⟩)] 28)
  have bA := Boxed.new ((w.alloc (.cells #[.int .i64 0] 3)).alloc (.cells #[.slice none 0 0] 65)) 28 (.pointer (some ⟨q.xb, 0, none⟩))
  simp only [World.size_alloc] at bO bA
  have hB0 : Below w.heap.size w (((w.alloc (.cells #[.int .i64 0] 3)).alloc (.cells #[.slice none 0 0] 65)).alloc (.cells #[.pointer (some ⟨q.xb, 0, none⟩)] 28)) := (((Below.refl _ w).alloc (Nat.le_refl _) _).alloc (by simp) _).alloc (by simp; omega) _
  have hsz : (((w.alloc (.cells #[.int .i64 0] 3)).alloc (.cells #[.slice none 0 0] 65)).alloc (.cells #[.pointer (some ⟨q.xb, 0, none⟩)] 28)).heap.size = w.heap.size + 3 := by simp
  obtain ⟨W0, hW0⟩ : ∃ W0, ((w.alloc (.cells #[.int .i64 0] 3)).alloc (.cells #[.slice none 0 0] 65)).alloc (.cells #[.pointer (some ⟨q.xb, 0, none⟩)] 28) = W0 := ⟨_, rfl⟩
  rw [hW0] at bM bO bA hB0 hsz
  simp only [World.size_alloc, hW0]
  refine wpIn_rangeFunc_ownH rfl (by omega) (gf := 84) (lb := #[.pointer (some ⟨w.heap.size + 1 + 1, 0, none⟩)]) rfl trivial (enters_of Tryz.func84 (by kernel_rfl) rfl)
    (all_stopsv 9 (by omega) Hs.out Ho.out Hok.out Hl.out (w.heap.size + 1 + 1) bA hB0) KpA.trans (KpA.put (by omega)) (Below.refl _ _) (fun _ => rfl)
    (fun pre W => ((∃ v, Boxed W (w.heap.size + 1) 65 v ∧ W.ownsRow w.heap.size 38 6 v pre.length (stCells pre) ∧ (v = .slice none 0 0 ↔ pre = [])) ∧ Boxed W w.heap.size 3 (.int .i64 0)) ∧ (Below w.heap.size w W ∧ pre.length ≤ 0))
    (fun c pre W => c = .exit 0 ∧ (pre.length = 0 + 1 ∧ ((∃ v, Boxed W (w.heap.size + 1) 65 v ∧ W.ownsRow w.heap.size 38 6 v (pre.take 0).length (stCells (pre.take 0)) ∧ True) ∧ Below w.heap.size w W)))
    (OwnFrom.and (OwnFrom.and (Own.from (holdsRow_own w.heap.size (w.heap.size + 1) 65 38 6 (fun pre => pre.length) (fun pre => stCells pre) (fun pre v => v = .slice none 0 0 ↔ pre = [])) _) (Own.from (boxed_own _ _ _) _)) (OwnFrom.and (ownFrom_below (Nat.le_refl _) (by omega)) (ownFrom_pure _ (fun (pre : List SagaM) => pre.length ≤ 0))))
    (fun c => OwnFrom.and (ownFrom_pure _ (fun (_ : List SagaM) => c = .exit 0)) (OwnFrom.and (ownFrom_pure _ (fun (pre : List SagaM) => pre.length = 0 + 1)) (OwnFrom.and (Own.from (holdsRow_own w.heap.size (w.heap.size + 1) 65 38 6 (fun (pre : List SagaM) => (pre.take 0).length) (fun (pre : List SagaM) => stCells (pre.take 0)) (fun (pre : List SagaM) (v : Value) => True)) _) (ownFrom_below (Nat.le_refl _) (by omega)))))
    ⟨⟨⟨_, bO, World.ownsRow_nil _ _ _ _, by simp⟩, bM⟩, hB0, by simp⟩
    (fun x a' W => ∃ Bx, w.heap.size + 1 < Bx ∧ W.heap[Bx]? = some (.cells x.status 38 (0, 0)) ∧ a' = { tmps := #[.pointer (some ⟨q.xb, 0, none⟩), .int .i64 most, undef, .pointer (some ⟨w.heap.size, 0, none⟩), .slice none 0 0, .pointer (some ⟨w.heap.size + 1, 0, none⟩), .pointer (some ⟨Bx, 0, none⟩), .int .i64 most, .bool true, .pointer (some ⟨q.xb, 0, none⟩), .func (.func 84) #[] #[.pointer (some ⟨w.heap.size + 1 + 1, 0, none⟩)], .agg x.status, undef, undef, undef, undef, undef, undef, undef, undef, undef], defers := [] })
    (fun x a' _ X Y row hs hg hr => by
      obtain ⟨Bx, h1, h2, h3⟩ := hs
      refine ⟨Bx, h1, (hg.block Bx (lt_of_hp h2) (fun e => ?_)).trans h2, h3⟩
      obtain ⟨_, o, ho, hc⟩ := hr Bx e.symm
      rw [h2] at ho; cases ho; cases hc)
    ?assign ?body ?done ?stop
  case assign =>
    rintro l pre x W K ⟨⟨⟨v, hv, hrow, hnil⟩, bM1⟩, hB1, hpl⟩ hK
    have hst : Hid (#[Value.int .i64 x.id, Value.int .i64 x.st, Value.int .i64 x.step, Value.int .i64 x.steps.length, Value.int .i64 x.tries, Value.int .i64 x.due] = x.status) := rfl
    simp only [SagaM.status]
    gi_wp2
    rw [hst.out]
    exact hK _ _ (FrK.keepsFrom (K := []) (((Fr.refl (fun _ => False) W).alloc _).toK (fun _ _ f _ => f.elim)) (by simp) _)
      ⟨(Below.refl _ W).alloc hB1.size _, ((Fr.refl (fun _ => False) W).alloc _).toK (fun _ _ f _ => f.elim)⟩
      ⟨⟨⟨v, hv.alloc _, hrow.alloc _, hnil⟩, bM1.alloc _⟩, hB1.alloc hB1.size _, hpl⟩ ⟨W.heap.size, hv.lt, World.alloc_heap_new W _, rfl⟩
  case body =>
    rintro l pre x a' W hl ⟨r, hr⟩ ⟨⟨⟨v, hv, hrow, hnil⟩, bM1⟩, hB1, hpl⟩ ⟨Bx, hBx, bX, rfl⟩ hlt
    have hc := hv.cell
    have hm := bM1.cell
    obtain ⟨va, vc, rfl⟩ : ∃ va vc, v = .slice va pre.length vc := by
      rcases hrow.2 with ⟨h1, h2⟩ | ⟨g, cap, cur, h1, _⟩
      · exact ⟨none, 0, by rw [h1, h2]⟩
      · exact ⟨_, _, h1⟩
    by_cases hne : (pre.length : Int) = 0
    · have hpM : pre.length = 0 := by omega
      have Hrow := Lib.hid hrow
      have Hv := Lib.hid hv
      have HM1 := Lib.hid bM1
      have HB1 := Lib.hid hB1
      have HpM := Lib.hid hpM
      have hst : Hid (#[Value.int .i64 x.id, Value.int .i64 x.st, Value.int .i64 x.step, Value.int .i64 x.steps.length, Value.int .i64 x.tries, Value.int .i64 x.due] = x.status) := rfl
      simp only [SagaM.status] at bX ⊢
      clear hrow hv bM1 hB1 hnil hlt hr hpM hpl
      gi_wp2
      have etk : (pre ++ [x]).take 0 = pre := by rw [← HpM.out]; simp
      refine ⟨FrK.keepsFrom (K := []) (FrK.refl _ _) (by simp) _, rfl, by rw [List.length_append, HpM.out]; rfl, ⟨_, Hv.out, ?_, trivial⟩, HB1.out⟩
      rw [etk]; exact Hrow.out
    · exfalso; omega
  case done =>
    rintro D ys W hD rfl ⟨⟨⟨v, hv, hrow, hnil⟩, bM1⟩, hB1, hpl⟩ hK
    have etk := List.take_of_length_le hpl
    have hc := hv.cell
    obtain ⟨va, vc, rfl⟩ : ∃ va vc, v = .slice va s.sagas.length vc := by
      rcases hrow.2 with ⟨h1, h2⟩ | ⟨g, cap, cur, h1, _⟩
      · exact ⟨none, 0, by rw [h1, h2]⟩
      · exact ⟨_, _, h1⟩
    gi_wp2
    refine ⟨by simp, .inl ⟨_, _, rfl, run_takeDeferred hK, ?_⟩⟩
    exact ⟨_, results_tmp rfl _ _ _, _, rfl, by rw [etk]; exact ownsRow_putObj hrow _ hK rfl, hB1.trans (belowK_b (w := w) (Nat.le_refl _) W D _ _ (by omega) hK rfl rfl)⟩
  case stop =>
    rintro D c pre W hD hpre ⟨rfl, hpl, ⟨v, hv, hrow, _⟩, hB1⟩ hK
    have htk : pre.take 0 = s.sagas.take 0 := by
      obtain ⟨tl, htl⟩ := hpre
      rw [← htl, List.take_append_of_le_length (by omega)]
    have hc := hv.cell
    have hlM : (pre.take 0).length = 0 := by rw [List.length_take]; omega
    rw [hlM] at hrow
    have Htk := Lib.hid htk
    have HlM := Lib.hid hlM
    clear htk hlM
    obtain ⟨va, vc, rfl⟩ : ∃ va vc, v = .slice va 0 vc := by
      rcases hrow.2 with ⟨h1, h2⟩ | ⟨g, cap, cur, h1, _⟩
      · exact ⟨none, 0, by rw [h1, h2]⟩
      · exact ⟨_, _, h1⟩
    gi_wp2
    refine ⟨by simp, .inl ⟨_, _, rfl, run_takeDeferred hK, ?_⟩⟩
    exact ⟨_, results_tmp rfl _ _ _, _, rfl, by rw [← Htk.out, HlM.out]; exact ownsRow_putObj hrow _ hK rfl, hB1.trans (belowK_b (w := w) (Nat.le_refl _) W D _ _ (by omega) hK rfl rfl)⟩
end Go.Proofs.YtkafmfdipmhleaaGreatDoor

namespace Go.Proofs.YtkafmfdipmhleaaGreatDoor
open Go.RowKit Go.Maps
theorem StV.ev {cv : Value} {w : World} {q : Pl} {bl : List Nat} {s : StM} (h : StV cv w q bl s) : EvV cv w q bl s := ⟨h.eng, h.mp, h.len, h.sg, h.nd⟩
def mostN (most : Int) : Nat := if most < 1 then 0 else most.toNat
theorem All_any {cv : Value} {w : World} {q : Pl} {bl : List Nat} {s : StM} (hs : EvV cv w q bl s) (ho : s.sagas.Pairwise (fun a b => a.id < b.id)) (hok : ∀ g ∈ s.sagas, 1 ≤ g.id ∧ g.id ≤ 1000) (hl : s.sagas.length ≤ 1000) (most : Int) :
    Calls Tryz.prog 32 #[.pointer (some ⟨q.xb, 0, none⟩), .int .i64 most] w fun e w' => ∃ v, e = .returned v ∧ w'.ownsRow w.heap.size 38 6 v (s.sagas.take (mostN most)).length (stCells (s.sagas.take (mostN most))) ∧ New w w' := by
  by_cases h : most < 1
  · have e : mostN most = 0 := by unfold mostN; rw [if_pos h]
    rw [e]
    refine Calls.mono (All_neg hs ho hok hl h) ?_
    rintro e w' ⟨v, h1, h2, h3⟩
    exact ⟨v, h1, h2, below_New h3 (Nat.le_refl _)⟩
  · have e : mostN most = most.toNat := by unfold mostN; rw [if_neg h]
    obtain ⟨M, hM⟩ : ∃ M : Nat, most = (M : Int) := ⟨most.toNat, by omega⟩
    subst hM
    rw [e, Int.toNat_natCast]
    refine Calls.mono (All_pos (M := M) hs ho hok hl (by omega)) ?_
    rintro e w' ⟨v, h1, h2, h3⟩
    exact ⟨v, h1, h2, below_New h3 (Nat.le_refl _)⟩
theorem stCells_get (L : List SagaM) (i : Nat) (g : SagaM) (hg : L[i]? = some g) (j : Nat) (u : Value) (hu : g.status.toList[j]? = some u) : (stCells L)[i * 6 + j]? = some u := by
  have hj : j < 6 := by
    have := (List.getElem?_eq_some_iff.1 hu).1
    have h6 : g.status.toList.length = 6 := rfl
    omega
  induction L generalizing i with
  | nil => simp at hg
  | cons a L ih =>
    have e : stCells (a :: L) = a.status.toList ++ stCells L := by simp [stCells]
    have h6 : a.status.toList.length = 6 := rfl
    rw [e]
    cases i with
    | zero =>
      simp at hg; subst hg
      rw [Nat.zero_mul, Nat.zero_add, List.getElem?_append_left (by omega)]
      exact hu
    | succ i =>
      rw [List.getElem?_append_right (by omega), h6, show (i + 1) * 6 + j - 6 = i * 6 + j by omega]
      exact ih i (by simpa using hg)
/-- A cell of what All gave. -/
theorem all_at {w : World} {B : Nat} {v : Value} {L : List SagaM} (h : w.ownsRow B 38 6 v L.length (stCells L)) (i : Nat) (g : SagaM) (hg : L[i]? = some g) :
    ∃ ga cap cs, v = .slice (some ⟨ga, 0, none⟩) L.length cap ∧ w.heap[ga]? = some (.cells cs 38 (0, 0)) ∧ ∀ (j : Nat) (u : Value), g.status.toList[j]? = some u → cs[i * 6 + j]? = some u := by
  have hi := (List.getElem?_eq_some_iff.1 hg).1
  rcases h.2 with ⟨_, h0⟩ | ⟨ga, cap, cur, hv, hg', hh, hn, hq1, hq2, htk⟩
  · omega
  · refine ⟨ga, cap, cur, hv, hh, fun j u hu => ?_⟩
    have h1 := stCells_get L i g hg j u hu
    have hlt := (List.getElem?_eq_some_iff.1 h1).1
    rw [stCells_len] at hlt
    rw [← htk, List.getElem?_take_of_lt (by omega)] at h1
    simpa using h1
noncomputable def lstR8 : Code := ((Tryz.f115.body).bind (regionAt 8)).getD .skip
set_option maxRecDepth 100000 in
set_option maxHeartbeats 8000000 in
/-- ok := d.status(all[at], s) -/
theorem lst_r8 (kb sb ga k n c : Nat) (c0 c1 c2 c3 c4 c5 c6 c7 lv : Value) (g : SagaM) (sv mv : Value) (cs : Array Value) (W : World)
    (hk : W.heap[kb]? = some (.cells #[c0, c1, c2, c3, c4, c5, c6, c7, .bool false, lv] 165 (0, 0))) (hsb : W.heap[sb]? = some (.cells #[.int .i64 g.id, sv, .int .i64 g.st, .int .i64 g.step, .int .i64 g.tries, .int .i64 g.due, mv] 223 (0, 0))) (hkn : k < n)
    (hga : W.heap[ga]? = some (.cells cs 38 (0, 0))) (hcs : ∀ (j : Nat) (u : Value), g.status.toList[j]? = some u → cs[k * 6 + j]? = some u) (hs : ∃ a c, sv = .slice a g.steps.length c)
    {ds : List Deferred} {x1 x2 x3 x4 x7 x9 x10 x11 x12 x13 x14 x15 x16 x17 x18 x19 x20 x21 x22 x23 x24 x25 x26 x27 x28 x29 x30 x31 x32 x33 x34 x35 x36 x37 x38 x39 x40 x41 x42 x43 x44 x45 x46 x47 x48 x49 x50 x51 x52 x53 x54 x55 x56 x57 x58 x59 x60 x61 x62 x63 x64 x65 x66 x67 x68 x69 x70 x71 x72 x73 x74 x75 x76 x77 x78 x79 x80 x81 x82 x83 x84 x85 x86 x87 x88 x89 x90 x91 : Value} {Q : Exit → Act → World → Prop}
    (hQ : ∀ (y49 y50 y51 y52 y53 y54 y55 : Value) (w3 : World), New W w3 → Q .normal ⟨#[.pointer (some ⟨kb, 0, none⟩), x1,x2,x3,x4, .slice (some ⟨ga, 0, none⟩) n c, .int .i64 k, x7, .pointer (some ⟨sb, 0, none⟩), .bool true, x10,x11,x12,x13,x14,x15,x16,x17,x18,x19,x20,x21,x22,x23,x24,x25,x26,x27,x28,x29,x30,x31,x32,x33,x34,x35,x36,x37,x38,x39,x40,x41,x42,x43,x44,x45,x46,x47,x48,y49,y50,y51,y52,y53,y54,y55,x56,x57,x58,x59,x60,x61,x62,x63,x64,x65,x66,x67,x68,x69,x70,x71,x72,x73,x74,x75,x76,x77,x78,x79,x80,x81,x82,x83,x84,x85,x86,x87,x88,x89,x90,x91], ds⟩ w3) :
    Code.wp Tryz.prog lstR8 Q ⟨#[.pointer (some ⟨kb, 0, none⟩), x1,x2,x3,x4, .slice (some ⟨ga, 0, none⟩) n c, .int .i64 k, x7, .pointer (some ⟨sb, 0, none⟩), x9,x10,x11,x12,x13,x14,x15,x16,x17,x18,x19,x20,x21,x22,x23,x24,x25,x26,x27,x28,x29,x30,x31,x32,x33,x34,x35,x36,x37,x38,x39,x40,x41,x42,x43,x44,x45,x46,x47,x48,x49,x50,x51,x52,x53,x54,x55,x56,x57,x58,x59,x60,x61,x62,x63,x64,x65,x66,x67,x68,x69,x70,x71,x72,x73,x74,x75,x76,x77,x78,x79,x80,x81,x82,x83,x84,x85,x86,x87,x88,x89,x90,x91], ds⟩ W := by
  have HS : Hid (∀ w', New W w' → (w'.cell? ⟨ga, k * 6, none⟩ = some (.int .i64 g.id) ∧ w'.cell? ⟨ga, k * 6 + 1, none⟩ = some (.int .i64 g.st) ∧ w'.cell? ⟨ga, k * 6 + 2, none⟩ = some (.int .i64 g.step) ∧ w'.cell? ⟨ga, k * 6 + 3, none⟩ = some (.int .i64 g.steps.length) ∧ w'.cell? ⟨ga, k * 6 + 4, none⟩ = some (.int .i64 g.tries) ∧ w'.cell? ⟨ga, k * 6 + 5, none⟩ = some (.int .i64 g.due)) ∧
      (w'.cell? ⟨sb, 0, none⟩ = some (.int .i64 g.id) ∧ w'.cell? ⟨sb, 1, none⟩ = some sv ∧ w'.cell? ⟨sb, 2, none⟩ = some (.int .i64 g.st) ∧ w'.cell? ⟨sb, 3, none⟩ = some (.int .i64 g.step) ∧ w'.cell? ⟨sb, 4, none⟩ = some (.int .i64 g.tries) ∧ w'.cell? ⟨sb, 5, none⟩ = some (.int .i64 g.due) ∧ w'.cell? ⟨sb, 6, none⟩ = some mv)) := by
    intro w' hf
    have hx : ∀ (j : Nat) (u : Value), g.status.toList[j]? = some u → w'.cell? ⟨ga, k * 6 + j, none⟩ = some u := by
      intro j u hu
      rw [cellv, hf.get hga (fun f => f), cellOf_cells]; exact hcs j u hu
    refine ⟨⟨hx 0 _ rfl, hx 1 _ rfl, hx 2 _ rfl, hx 3 _ rfl, hx 4 _ rfl, hx 5 _ rfl⟩, ?_⟩
    simp only [cellv, hf.get hsb (fun f => f)]
    exact ⟨rfl, rfl, rfl, rfl, rfl, rfl, rfl⟩
  have HR := Lib.hid (status_calls (w := W.drew) (kb := kb) hk g sv mv hs)
  rw [show g.status = #[.int .i64 g.id, .int .i64 g.st, .int .i64 g.step, .int .i64 g.steps.length, .int .i64 g.tries, .int .i64 g.due] from rfl] at HR
  unfold rCells at HR
  have HQ := Lib.hid hQ
  obtain ⟨⟨d0, d1, d2, d3, d4, d5⟩, e0, e1, e2, e3, e4, e5, e6⟩ := HS.out W (Fr.refl _ _)
  have hkI : (k : Int) < n := by omega
  have hk0 : (0 : Int) ≤ k := by omega
  clear hk hsb hkn hga hcs hs hQ
  conv => arg 2; whnf
  go_region_held3 (fun w' => (w'.cell? ⟨ga, k * 6, none⟩ = some (.int .i64 g.id) ∧ w'.cell? ⟨ga, k * 6 + 1, none⟩ = some (.int .i64 g.st) ∧ w'.cell? ⟨ga, k * 6 + 2, none⟩ = some (.int .i64 g.step) ∧ w'.cell? ⟨ga, k * 6 + 3, none⟩ = some (.int .i64 g.steps.length) ∧ w'.cell? ⟨ga, k * 6 + 4, none⟩ = some (.int .i64 g.tries) ∧ w'.cell? ⟨ga, k * 6 + 5, none⟩ = some (.int .i64 g.due)) ∧
      (w'.cell? ⟨sb, 0, none⟩ = some (.int .i64 g.id) ∧ w'.cell? ⟨sb, 1, none⟩ = some sv ∧ w'.cell? ⟨sb, 2, none⟩ = some (.int .i64 g.st) ∧ w'.cell? ⟨sb, 3, none⟩ = some (.int .i64 g.step) ∧ w'.cell? ⟨sb, 4, none⟩ = some (.int .i64 g.tries) ∧ w'.cell? ⟨sb, 5, none⟩ = some (.int .i64 g.due) ∧ w'.cell? ⟨sb, 6, none⟩ = some mv))
    (first | exact HS.out _ ((Fr.refl _ _).drew) | exact HS.out _ ((Fr.refl _ _).drew.trans hf2))
    ((first
      | (go_at_call 149; refine Calls.mono HR.out ?_; rintro e w2 ⟨rfl, hf2⟩)
      | fail))
  exact HQ.out _ _ _ _ _ _ _ _ ((Fr.refl _ W).drew.trans hf2)
set_option maxRecDepth 100000 in
set_option maxHeartbeats 8000000 in
/-- All. -/
theorem listed_calls {w : World} {B m : Nat} {o : RD} {e : EngR} (h : RunAt w B o) (hk : RDok m o) (hx : o.x = some e) (most : Int) :
    Calls Tryz.prog 115 #[.pointer (some ⟨o.kb, 0, none⟩), .int .i64 most] w fun e w' => e = .returned (.bool true) ∧ New w w' := by
  have hst := h.st
  have H := Lib.hid h
  have HK := Lib.hid hk
  have hxv : xvOf o = .pointer (some ⟨e.xb, 0, none⟩) := by unfold xvOf; rw [hx]
  have hdec : decide (o.ep = 0) = false := by simp [hk.epx hx]
  obtain ⟨la, lc, hlv⟩ := h.ref.shape
  simp only [rdCells] at hst
  rw [hxv, hdec, hlv] at hst
  have Hst := Lib.hid hst
  have Hlv := Lib.hid hlv
  have hsl : (sagasOf o.R).length = o.R.length := by simp [sagasOf]
  have HA := Lib.hid (All_any (h.eng e hx).1.ev hk.ord (fun g hg => by have := hk.ok g hg; exact ⟨this.1, this.2.1⟩) (by show (sagasOf o.R).length ≤ 1000; rw [hsl]; exact hk.lenR) most)
  rw [show (o.pl_ e).xb = e.xb from rfl, show (o.st e).sagas = sagasOf o.R from rfl] at HA
  have hn0 : ((sagasOf o.R).take (mostN most)).length = min (mostN most) o.R.length := by rw [List.length_take, hsl]
  have hlen := hk.lenR
  have hmo : (mostN most : Int) ≥ most := by unfold mostN; split <;> omega
  have hget : ∀ k r, k < ((sagasOf o.R).take (mostN most)).length → o.R[k]? = some r → ((sagasOf o.R).take (mostN most))[k]? = some r.1 := by
    intro k r hkn hr
    rw [List.getElem?_take_of_lt (by omega)]
    unfold sagasOf; rw [List.getElem?_map, hr]; rfl
  have Hget := Lib.hid hget
  generalize (sagasOf o.R).take (mostN most) = L at HA hn0 Hget
  have HN0 := Lib.hid hn0
  have Hmo := Lib.hid hmo
  have Hlen := Lib.hid hlen
  generalize hnL : L.length = n at HA HN0 Hget
  have HnL := Lib.hid hnL
  clear h hk hx hxv hdec hlv hsl hn0 hlen hmo hget hnL
  have hcv := cellv w
  go_enter Tryz.func115, Tryz.ntmps115
  go_upto_region 2 with (first
    | (go_at_call 32; refine Calls.mono HA.out ?_; rintro e2 w1 ⟨v, rfl, hown, hf1⟩; obtain ⟨va, vc, rfl⟩ : ∃ va vc, v = .slice va n vc := (by
        rcases hown.2 with ⟨h1, h2⟩ | ⟨g, cap, cur, h1, _⟩
        · exact ⟨none, 0, by rw [h1, h2]⟩
        · exact ⟨_, _, h1⟩))
    | fail)
  have Hf1 := Lib.hid hf1
  have Hown := Lib.hid hown
  clear hf1 hown hcv hst HA
  go_wp2_with fail
  go_loopw [6, 7] (fun a i wr => ∃ k : Nat, k ≤ o.R.length ∧ i = .int .i64 k ∧ a = .int .i64 (min k n : Nat) ∧ New w1 wr) (fun _ i _ => o.R.length - (intOf i).toNat)
  case atStart => exact ⟨0, Nat.zero_le _, rfl, by simp, Fr.refl _ _⟩
  case round =>
    obtain ⟨k, hk, rfl, rfl, hf⟩ := hrel
    have Hf := Lib.hid hf
    have hstr := (Hf1.out.trans hf).get Hst.out (fun f => f)
    have Hk := Lib.hid hk
    have hl30 : o.R.length ≤ 1000 := Hlen.out
    clear hf
    by_cases hkl : k < o.R.length
    · obtain ⟨r, hr⟩ : ∃ r, o.R[k]? = some r := ⟨o.R[k], List.getElem?_eq_getElem hkl⟩
      have Hkl := Lib.hid hkl
      have hrefr : RefAt wr B (.slice la o.R.length lc) o.R := by rw [← Hlv.out]; exact (H.out.ref.new Hf1.out).new Hf.out
      obtain ⟨g, sv, mv⟩ := r
      obtain ⟨hsv, hmv⟩ := hrefr.ok _ (List.mem_of_getElem? hr)
      obtain ⟨sa, sc, hsv⟩ := hsv.shape
      obtain ⟨mb, mc, _, hmv, _⟩ := hmv
      change sv = .slice sa g.steps.length sc at hsv
      change mv = _ at hmv
      subst hsv hmv
      have Hr := Lib.hid hr
      obtain ⟨gb, rfl, c0, c1, c2, c3, c4, c5, c6⟩ := hrefr.at k _ hr
      change wr.cell? _ = some (.int .i64 g.id) at c0; change wr.cell? _ = some (.slice sa g.steps.length sc) at c1; change wr.cell? _ = some (.int .i64 g.st) at c2; change wr.cell? _ = some (.int .i64 g.step) at c3; change wr.cell? _ = some (.int .i64 g.tries) at c4; change wr.cell? _ = some (.int .i64 g.due) at c5; change wr.cell? _ = some (.slice (some ⟨mb, 0, none⟩) 1 mc) at c6
      have hkI : (k : Int) < o.R.length := by omega
      have hk0 : (0 : Int) ≤ k := by omega
      have hcv := cellv wr
      rw [hcv] at c0 c1 c2 c3 c4 c5 c6
      clear hr hrefr hk hkl
      by_cases hkn : k < n
      · rw [show min k n = k by omega]
        have hknI : (k : Int) < n := by omega
        have Hkn := Lib.hid hkn
        clear hkn
        go_upto_region 7 with fail
        have hN3 : New wr (wr.alloc (.cells #[.int .i64 g.id, .slice sa g.steps.length sc, .int .i64 g.st, .int .i64 g.step, .int .i64 g.tries, .int .i64 g.due, .slice (some ⟨mb, 0, none⟩) 1 mc] 223)) := (Fr.refl _ wr).alloc _
        have hs3 := heap_alloc_new wr (.cells #[.int .i64 g.id, .slice sa g.steps.length sc, .int .i64 g.st, .int .i64 g.step, .int .i64 g.tries, .int .i64 g.due, .slice (some ⟨mb, 0, none⟩) 1 mc] 223)
        generalize wr.alloc (.cells #[.int .i64 g.id, .slice sa g.steps.length sc, .int .i64 g.st, .int .i64 g.step, .int .i64 g.tries, .int .i64 g.due, .slice (some ⟨mb, 0, none⟩) 1 mc] 223) = w3 at hN3 hs3 ⊢
        generalize wr.heap.size = sb at hs3 ⊢
        have Hf3 := Lib.hid (Hf.out.trans hN3)
        have Hs3 := Lib.hid hs3
        obtain ⟨ga, cap, cs, hvv, hga, hcs⟩ := all_at (own_frS (w := w1) (w' := w3) (S := fun _ => False) (n := L.length) (by rw [HnL.out]; exact Hown.out) Hf3.out (fun _ _ f => f)) k g (Hget.out k _ Hkn.out Hr.out)
        simp only [Value.slice.injEq] at hvv
        obtain ⟨hv1, hv2, hv3⟩ := hvv
        subst hv1
        clear hv2 hv3
        have hdk : decide (k < n) = true := by simp [Hkn.out]
        have Hga := Lib.hid hga
        have Hcs := Lib.hid hcs
        have d0 : w3.cell? ⟨ga, k * 6, none⟩ = some (.int .i64 g.id) := by rw [cellv, hga, cellOf_cells]; exact hcs 0 _ rfl
        have e0 : w3.cell? ⟨sb, 0, none⟩ = some (.int .i64 g.id) := by rw [cellv, hs3]; rfl
        have hst3 := (Hf1.out.trans Hf3.out).get Hst.out (fun f => f)
        have Hst3 := Lib.hid hst3
        have hdd : decide (g.id = g.id) = true := by simp
        clear hcv c0 c1 c2 c3 c4 c5 c6 hstr hN3 hs3 hga hcs hst3
        go_quiet (fail)
        have Hf4 := Lib.hid (Hf3.out.trans ((Fr.refl _ w3).drewN nq))
        clear d0 e0
        have Hst4 := Lib.hid (show (w3.drewN nq).heap[o.kb]? = _ from Hst3.out)
        have Hs4 := Lib.hid (show (w3.drewN nq).heap[sb]? = _ from Hs3.out)
        have Hga4 := Lib.hid (show (w3.drewN nq).heap[ga]? = _ from Hga.out)
        generalize w3.drewN nq = w4 at Hf4 Hst4 Hs4 Hga4 ⊢
        clear Hst3 Hs3 Hga
        go_upto_region 8 with fail
        refine lst_r8 o.kb sb ga k n _ _ _ _ _ _ _ _ _ _ g (.slice sa g.steps.length sc) (.slice (some ⟨mb, 0, none⟩) 1 mc) cs w4 Hst4.out Hs4.out Hkn.out Hga4.out Hcs.out ⟨sa, sc, rfl⟩ ?_
        intros
        rename_i w5 hf5
        have Hf5 := Lib.hid (Hf4.out.trans hf5)
        clear hf5
        go_wp2_with fail
        go_roundw
        case rel => exact ⟨k + 1, Hkl.out, by go_num, by rw [show min (k + 1) n = k + 1 by have := Hkn.out; omega]; go_num, Hf5.out⟩
        case measure => have := Hkl.out; simp [intOf]; omega
      · rw [show min k n = n by omega]
        have hnn : ¬ ((n : Int) < n) := by omega
        have hdk : decide (n < n) = false := by simp
        have hnm : ¬ ((n : Int) < most) := by
          have := HN0.out
          have := HnL.out
          have := Hmo.out
          have := Hkl.out
          omega
        have Hkn := Lib.hid hkn
        clear hkn
        go_upto_region 7 with fail
        have hN3 : New wr (wr.alloc (.cells #[.int .i64 g.id, .slice sa g.steps.length sc, .int .i64 g.st, .int .i64 g.step, .int .i64 g.tries, .int .i64 g.due, .slice (some ⟨mb, 0, none⟩) 1 mc] 223)) := (Fr.refl _ wr).alloc _
        have hs3 := heap_alloc_new wr (.cells #[.int .i64 g.id, .slice sa g.steps.length sc, .int .i64 g.st, .int .i64 g.step, .int .i64 g.tries, .int .i64 g.due, .slice (some ⟨mb, 0, none⟩) 1 mc] 223)
        generalize wr.alloc (.cells #[.int .i64 g.id, .slice sa g.steps.length sc, .int .i64 g.st, .int .i64 g.step, .int .i64 g.tries, .int .i64 g.due, .slice (some ⟨mb, 0, none⟩) 1 mc] 223) = w3 at hN3 hs3 ⊢
        generalize wr.heap.size = sb at hs3 ⊢
        have Hf3 := Lib.hid (Hf.out.trans hN3)
        have hst3 := (Hf1.out.trans Hf3.out).get Hst.out (fun f => f)
        clear hcv c0 c1 c2 c3 c4 c5 c6 hstr hN3
        have hcv := cellv w3
        go_quiet (fail)
        have Hf4 := Lib.hid (Hf3.out.trans ((Fr.refl _ w3).drewN nq))
        have hst4 := show (w3.drewN nq).heap[o.kb]? = _ from hst3
        have hs4 := show (w3.drewN nq).heap[sb]? = _ from hs3
        generalize w3.drewN nq = w4 at Hf4 hst4 hs4 ⊢
        clear hst3 hs3 hcv
        have hcv := cellv w4
        cases hz : g.st == 0
        · go_wp2_with fail
          go_roundw
          case rel => exact ⟨k + 1, Hkl.out, by go_num, by rw [show min (k + 1) n = n by have := Hkn.out; omega], Hf4.out⟩
          case measure => have := Hkl.out; simp [intOf]; omega
        · go_wp2_with fail
          go_roundw
          case rel => exact ⟨k + 1, Hkl.out, by go_num, by rw [show min (k + 1) n = n by have := Hkn.out; omega], Hf4.out⟩
          case measure => have := Hkl.out; simp [intOf]; omega
    · obtain rfl : k = o.R.length := by omega
      have hkI : ¬ ((o.R.length : Int) < o.R.length) := by omega
      rw [show min o.R.length n = n by have := HN0.out; have := HnL.out; omega]
      have hnn : ((n : Int) == n) = true := by simp
      have hcv := cellv wr
      go_wp2_with fail
      go_ret
      exact ⟨rfl, Hf1.out.trans Hf.out⟩
end Go.Proofs.YtkafmfdipmhleaaGreatDoor

namespace Go.Proofs.YtkafmfdipmhleaaGreatDoor
open Go.RowKit Go.Maps
noncomputable def fndR15 : Code := ((Tryz.f110.body).bind (regionAt 15)).getD .skip
set_option maxRecDepth 100000 in
set_option maxHeartbeats 8000000 in
/-- s.state = state{all[at].state, all[at].step} -/
theorem fnd_r15 (sb ga k n c : Nat) (st step : Int) (a0 a1 a4 a5 a6 : Value) (cs : Array Value) (W : World)
    (hsb : W.heap[sb]? = some (.cells #[a0, a1, .int .i64 0, .int .i64 0, a4, a5, a6] 223 (0, 0))) (hkn : k < n)
    (hga : W.heap[ga]? = some (.cells cs 38 (0, 0))) (h1 : cs[k * 6 + 1]? = some (.int .i64 st)) (h2 : cs[k * 6 + 2]? = some (.int .i64 step))
    {ds : List Deferred} {x0 x1 x2 x3 x4 x5 x6 x8 x9 x11 x13 x14 x15 x16 x17 x18 x19 x20 x21 x22 x23 x24 x25 x26 x27 x28 x29 x30 x31 x32 x33 x34 x35 x36 x37 x38 x39 x40 x41 x42 x43 x44 x45 x46 x47 x48 x49 x50 x51 x52 x53 x54 x55 x56 x57 x58 x59 x60 x61 x62 x63 x64 x65 x66 x67 x68 x69 x70 x71 x72 x73 x74 x75 x76 x77 x78 x79 x80 x81 x82 x83 x84 x85 x86 x87 x88 x89 x90 x91 x92 x93 x94 x95 x96 x97 x98 x99 x100 x101 x102 x103 x104 x105 x106 x107 x108 x109 x110 x111 x112 x113 x114 x115 x116 x117 x118 x119 x120 x121 x122 x123 x124 x125 x126 x127 x128 x129 x130 x131 x132 x133 x134 x135 x136 x137 x138 x139 x140 x141 x142 x143 x144 x145 x146 x147 x148 x149 x150 x151 x152 x153 x154 : Value} {Q : Exit → Act → World → Prop}
    (hQ : ∀ (y94 y95 y96 y97 y98 y99 y100 y101 y102 y103 y104 y105 : Value) (w3 : World), Fr (· = sb) W w3 → w3.heap[sb]? = some (.cells #[a0, a1, .int .i64 st, .int .i64 step, a4, a5, a6] 223 (0, 0)) → Q .normal ⟨#[x0,x1,x2,x3,x4,x5,x6, .slice (some ⟨ga, 0, none⟩) n c, x8,x9, .int .i64 k, x11, .pointer (some ⟨sb, 0, none⟩), x13,x14,x15,x16,x17,x18,x19,x20,x21,x22,x23,x24,x25,x26,x27,x28,x29,x30,x31,x32,x33,x34,x35,x36,x37,x38,x39,x40,x41,x42,x43,x44,x45,x46,x47,x48,x49,x50,x51,x52,x53,x54,x55,x56,x57,x58,x59,x60,x61,x62,x63,x64,x65,x66,x67,x68,x69,x70,x71,x72,x73,x74,x75,x76,x77,x78,x79,x80,x81,x82,x83,x84,x85,x86,x87,x88,x89,x90,x91,x92,x93,y94,y95,y96,y97,y98,y99,y100,y101,y102,y103,y104,y105,x106,x107,x108,x109,x110,x111,x112,x113,x114,x115,x116,x117,x118,x119,x120,x121,x122,x123,x124,x125,x126,x127,x128,x129,x130,x131,x132,x133,x134,x135,x136,x137,x138,x139,x140,x141,x142,x143,x144,x145,x146,x147,x148,x149,x150,x151,x152,x153,x154], ds⟩ w3) :
    Code.wp Tryz.prog fndR15 Q ⟨#[x0,x1,x2,x3,x4,x5,x6, .slice (some ⟨ga, 0, none⟩) n c, x8,x9, .int .i64 k, x11, .pointer (some ⟨sb, 0, none⟩), x13,x14,x15,x16,x17,x18,x19,x20,x21,x22,x23,x24,x25,x26,x27,x28,x29,x30,x31,x32,x33,x34,x35,x36,x37,x38,x39,x40,x41,x42,x43,x44,x45,x46,x47,x48,x49,x50,x51,x52,x53,x54,x55,x56,x57,x58,x59,x60,x61,x62,x63,x64,x65,x66,x67,x68,x69,x70,x71,x72,x73,x74,x75,x76,x77,x78,x79,x80,x81,x82,x83,x84,x85,x86,x87,x88,x89,x90,x91,x92,x93,x94,x95,x96,x97,x98,x99,x100,x101,x102,x103,x104,x105,x106,x107,x108,x109,x110,x111,x112,x113,x114,x115,x116,x117,x118,x119,x120,x121,x122,x123,x124,x125,x126,x127,x128,x129,x130,x131,x132,x133,x134,x135,x136,x137,x138,x139,x140,x141,x142,x143,x144,x145,x146,x147,x148,x149,x150,x151,x152,x153,x154], ds⟩ W := by
  have Hsb := Lib.hid hsb
  have HQ := Lib.hid hQ
  have d1 : W.cell? ⟨ga, k * 6 + 1, none⟩ = some (.int .i64 st) := by rw [cellv, hga, cellOf_cells]; exact h1
  have d2 : W.cell? ⟨ga, k * 6 + 2, none⟩ = some (.int .i64 step) := by rw [cellv, hga, cellOf_cells]; exact h2
  have e2 : W.cell? ⟨sb, 2, none⟩ = some (.int .i64 0) := by rw [cellv, hsb]; rfl
  have e3 : W.cell? ⟨sb, 3, none⟩ = some (.int .i64 0) := by rw [cellv, hsb]; rfl
  have f2 : W.frozen? ⟨sb, 2, none⟩ = false := by rw [frozv, hsb]; rfl
  have f3 : W.frozen? ⟨sb, 3, none⟩ = false := by rw [frozv, hsb]; rfl
  have hkI : (k : Int) < n := by omega
  have hk0 : (0 : Int) ≤ k := by omega
  clear hsb hkn hga h1 h2 hQ
  conv => arg 2; whnf
  refine wp_region_noPanic ?_
  go_region_law (fail)
  all_goals
    refine NoPanic.normal (HQ.out _ _ _ _ _ _ _ _ _ _ _ _ _ ((((Fr.refl (· = sb) W).setCell (fun _ => rfl) _ _).setCell (fun _ => rfl) _ _).drew) ?_)
    show (((W.setCell ⟨sb, 2, none⟩ _).setCell ⟨sb, 3, none⟩ _)).heap[sb]? = _
    simp only [hp_setCell, if_true, Hsb.out]; rfl
theorem RefAt.snoc {w w' : World} {B : Nat} {v v' : Value} {R : List RefM} {r : RefM} (h : RefAt w B v R) (hr : RefOk w r) (h' : w'.ownsRow B 223 7 v' (R.length + 1) (allR R ++ rCells r)) (hg : w.grownBy w' v.ownBlock) : RefAt w' B v' (R ++ [r]) := by
  have hS : ∀ k, v.ownBlock = some k → ∃ o, w.heap[k]? = some o ∧ kindOf o ∉ [193, 221] := fun k hk => by
    obtain ⟨c, hc⟩ := own_cells h.own hk
    exact ⟨_, hc, by simp [kindOf]⟩
  refine ⟨?_, fun x hx => ?_⟩
  · have e : allR (R ++ [r]) = allR R ++ rCells r := by simp [allR]
    rw [e, List.length_append]; exact h'
  · rcases List.mem_append.1 hx with hx | hx
    · exact (h.ok x hx).fr (Fr.ofGrown hg) hS
    · obtain rfl := List.mem_singleton.1 hx
      exact hr.fr (Fr.ofGrown hg) hS
/-- A disk was opened. -/
def FoundPost (w : World) (kb xb : Nat) (c0 c1 c2 : Value) (pause : Int) (R : List RefM) (e : Ending) (w' : World) : Prop :=
  e = .returned (.bool true) ∧ Fr (· = kb) w w' ∧ ∃ lv' R', w'.heap[kb]? = some (.cells #[c0, c1, c2, .bool false, .bool false, .pointer (some ⟨xb, 0, none⟩), .int .i64 pause, .int .i64 0, .bool false, lv'] 165 (0, 0)) ∧ RefAt w' w.heap.size lv' R' ∧ sagasOf R' = coreL (sagasOf R)
set_option maxRecDepth 100000 in
set_option maxHeartbeats 8000000 in
theorem found_gen {w : World} {B kb db bb : Nat} {c1 c2 c3 c5 c6 c7 c8 lv cv : Value} {d : DiskM} {R : List RefM} {q : Pl} {bl : List Nat} {s : StM} {pause : Int}
    (hk : w.heap[kb]? = some (.cells #[.pointer (some ⟨db, 0, none⟩), c1, c2, c3, .bool false, c5, c6, c7, c8, lv] 165 (0, 0)))
    (hd : DiskAt w db bb d) (hp : d.pend = none) (hR : RefAt w B lv R) (ho : (sagasOf R).Pairwise (fun a b => a.id < b.id)) (hl : R.length ≤ 1000) (hok : ∀ g ∈ sagasOf R, g.ok)
    (hE : EvV cv w q bl s) (hs : s.sagas = coreL (sagasOf R)) :
    Calls Tryz.prog 110 #[.pointer (some ⟨kb, 0, none⟩), .pointer (some ⟨q.xb, 0, none⟩), .int .i64 pause] w (FoundPost w kb q.xb (.pointer (some ⟨db, 0, none⟩)) c1 c2 pause R) := by
  obtain ⟨i0, hi, hz0, hz1, hz2⟩ := info_parts Tryz.info223
  obtain ⟨la, lc, rfl⟩ := hR.shape
  have hsl : (coreL (sagasOf R)).length = R.length := by simp [sagasOf, coreL]
  have hA := All_any hE (by rw [hs]; exact coreL_ord ho) (by
    rw [hs]; intro g hg
    obtain ⟨g0, hg0, rfl⟩ := List.mem_map.1 hg
    have := hok g0 hg0
    exact ⟨this.1, this.2.1⟩) (by rw [hs, hsl]; exact hl) 1048576
  rw [hs, List.take_of_length_le (by rw [hsl]; unfold mostN; simp; omega), hsl] at hA
  have HA := Lib.hid hA
  have Hk := Lib.hid hk
  have HR := Lib.hid hR
  have Hl := Lib.hid hl
  have Hok := Lib.hid hok
  have hpe : d.pending = 0 := by unfold DiskM.pending; rw [hp]
  have HP := Lib.hid (fun (w' : World) (hf : New w w') => Pending_calls (hd.new hf))
  rw [hpe] at HP
  have hkl := lt_of_hp hk
  have Hkl := Lib.hid hkl
  clear hA hE hs hsl hpe hd hp hR ho hl hok hkl
  have hcv := cellv w
  go_enter Tryz.func110, Tryz.ntmps110
  go_upto_region 2 with (first
    | (go_at_call 32; refine Calls.mono HA.out ?_; rintro e w1 ⟨v, rfl, hown, hf1⟩; obtain ⟨va, vc, rfl⟩ : ∃ va vc, v = .slice va R.length vc := (by
        rcases hown.2 with ⟨h1, h2⟩ | ⟨g, cap, cur, h1, _⟩
        · exact ⟨none, 0, by rw [h1, h2]⟩
        · exact ⟨_, _, h1⟩))
    | fail)
  have Hf1 := Lib.hid hf1
  have Hown := Lib.hid hown
  have HP1 := Lib.hid (HP.out w1 hf1)
  have hk1 := hf1.get Hk.out (fun f => f)
  clear hf1 hown hcv hk HA HP
  have hcv := cellv w1
  cases hz : ((R.length : Int) == 0)
  all_goals
    go_upto_region 5 with (first
      | (go_at_call 31; refine Calls.mono HP1.out ?_; rintro e w2 ⟨rfl, rfl⟩)
      | fail)
    clear hk1 hcv hz HP1
    go_wp2_with fail
    go_loopw [9, 10, 11] (fun lv a i wr => ∃ (k : Nat) (R' : List RefM), k ≤ R.length ∧ i = .int .i64 k ∧ a = .int .i64 k ∧ RefAt wr w1.heap.size lv R' ∧ sagasOf R' = coreL (sagasOf (R.take k)) ∧ New w1 wr) (fun _ _ i _ => R.length - (intOf i).toNat)
    case atStart => exact ⟨0, [], Nat.zero_le _, rfl, rfl, ⟨World.ownsRow_nil _ _ _ _, fun r hr => by simp at hr⟩, rfl, Fr.refl _ _⟩
    case round =>
      obtain ⟨k, R', hk, rfl, rfl, hR', hsR', hf⟩ := hrel
      have Hf := Lib.hid hf
      have HR' := Lib.hid hR'
      have HsR' := Lib.hid hsR'
      have hkr := (Hf1.out.trans hf).get Hk.out (fun f => f)
      obtain ⟨ra, rn, rc, rfl⟩ := own_slice hR'.own
      have hl30 : R.length ≤ 1000 := Hl.out
      clear hf hR' hsR'
      have hcv := cellv wr
      by_cases hlt : k < R.length
      · obtain ⟨r, hr⟩ : ∃ r, R[k]? = some r := ⟨R[k], List.getElem?_eq_getElem hlt⟩
        obtain ⟨g, sv, mv⟩ := r
        have hrefr := (HR.out.new Hf1.out).new Hf.out
        obtain ⟨hsv, hmv⟩ := hrefr.ok _ (List.mem_of_getElem? hr)
        have Hsv := Lib.hid hsv
        have Hmv := Lib.hid hmv
        have hmv0 := hmv
        clear hmv
        have hmv := hmv0
        clear hmv0
        obtain ⟨sa, sc, hsv⟩ := hsv.shape
        obtain ⟨mb, mc, _, hmv, _⟩ := hmv
        change sv = .slice sa g.steps.length sc at hsv
        change mv = _ at hmv
        subst hsv hmv
        have Hr := Lib.hid hr
        have Hlt := Lib.hid hlt
        obtain ⟨gb, rfl, c0, c1, c2, c3, c4, c5, c6⟩ := hrefr.at k _ hr
        change wr.cell? _ = some (.int .i64 g.id) at c0; change wr.cell? _ = some (.slice sa g.steps.length sc) at c1; change wr.cell? _ = some (.int .i64 g.st) at c2; change wr.cell? _ = some (.int .i64 g.step) at c3; change wr.cell? _ = some (.int .i64 g.tries) at c4; change wr.cell? _ = some (.int .i64 g.due) at c5; change wr.cell? _ = some (.slice (some ⟨mb, 0, none⟩) 1 mc) at c6
        have hkI : (k : Int) < R.length := by omega
        have hk0 : (0 : Int) ≤ k := by omega
        rw [hcv] at c0 c1 c2 c3 c4 c5 c6
        have hgk : (coreL (sagasOf R))[k]? = some (coreG g) := by
          unfold coreL sagasOf
          rw [List.map_map, List.getElem?_map, hr]; rfl
        have Hgk := Lib.hid hgk
        have hok := Hok.out g (List.mem_map.2 ⟨_, List.mem_of_getElem? hr, rfl⟩)
        have hst0 : (g.st != 0) = true := by
          have := hok.2.2.2.2
          simp; omega
        have Hst0 := Lib.hid hst0
        clear hr hrefr hgk hok hst0
        go_upto_region 11 with fail
        have hN3 : New wr (wr.alloc (.cells #[.int .i64 g.id, .slice sa g.steps.length sc, .int .i64 g.st, .int .i64 g.step, .int .i64 g.tries, .int .i64 g.due, .slice (some ⟨mb, 0, none⟩) 1 mc] 223)) := (Fr.refl _ wr).alloc _
        have hs3 := heap_alloc_new wr (.cells #[.int .i64 g.id, .slice sa g.steps.length sc, .int .i64 g.st, .int .i64 g.step, .int .i64 g.tries, .int .i64 g.due, .slice (some ⟨mb, 0, none⟩) 1 mc] 223)
        generalize wr.alloc (.cells #[.int .i64 g.id, .slice sa g.steps.length sc, .int .i64 g.st, .int .i64 g.step, .int .i64 g.tries, .int .i64 g.due, .slice (some ⟨mb, 0, none⟩) 1 mc] 223) = w3 at hN3 hs3 ⊢
        have hslt : w1.heap.size ≤ wr.heap.size := Hf.out.size
        generalize hsbe : wr.heap.size = sb at hs3 hslt ⊢
        have Hsbe := Lib.hid hsbe
        have Hslt := Lib.hid hslt
        have HN3 := Lib.hid hN3
        have Hs3 := Lib.hid hs3
        clear hN3 hsbe hslt hkr c0 c1 c2 c3 c4 c5 c6 hcv
        have hcv := cellv w3
        have hfv := frozv w3
        go_upto_region 12 with fail
        have hF4 : Fr (· = sb) w3 ((w3.setCell ⟨sb, 2, none⟩ (.int .i64 0)).setCell ⟨sb, 3, none⟩ (.int .i64 0)) := ((Fr.refl (· = sb) w3).setCell (fun _ => rfl) _ _).setCell (fun _ => rfl) _ _
        have hs4 : ((w3.setCell ⟨sb, 2, none⟩ (.int .i64 0)).setCell ⟨sb, 3, none⟩ (.int .i64 0)).heap[sb]? = some (.cells #[.int .i64 g.id, .slice sa g.steps.length sc, .int .i64 0, .int .i64 0, .int .i64 g.tries, .int .i64 g.due, .slice (some ⟨mb, 0, none⟩) 1 mc] 223 (0, 0)) := by
          simp only [hp_setCell, if_true, hs3]; rfl
        generalize (w3.setCell ⟨sb, 2, none⟩ (.int .i64 0)).setCell ⟨sb, 3, none⟩ (.int .i64 0) = w4 at hF4 hs4 ⊢
        have HN4 : Hid (New wr w4) := HN3.out.trans' hF4 (fun i hi e => by have := Hsbe.out; omega)
        have Hs4 := Lib.hid hs4
        clear hF4 hs3 hs4 HN3 Hs3 hcv hfv
        obtain ⟨ga, cap, cs, hvv, hga, hcs⟩ := all_at (own_frS (w := w1) (w' := w4) (S := fun _ => False) (n := (coreL (sagasOf R)).length) (by rw [show (coreL (sagasOf R)).length = R.length by simp [sagasOf, coreL]]; exact Hown.out) (Hf.out.trans HN4.out) (fun _ _ f => f)) k (coreG g) Hgk.out
        simp only [Value.slice.injEq] at hvv
        obtain ⟨hv1, hv2, hv3⟩ := hvv
        subst hv1
        clear hv2 hv3
        have Hga := Lib.hid hga
        have Hcs := Lib.hid hcs
        have d0 : w4.cell? ⟨ga, k * 6, none⟩ = some (.int .i64 g.id) := by rw [cellv, hga, cellOf_cells]; exact hcs 0 _ rfl
        have d3 : w4.cell? ⟨ga, k * 6 + 3, none⟩ = some (.int .i64 g.steps.length) := by rw [cellv, hga, cellOf_cells]; exact hcs 3 _ rfl
        have d4 : w4.cell? ⟨ga, k * 6 + 4, none⟩ = some (.int .i64 0) := by rw [cellv, hga, cellOf_cells]; exact hcs 4 _ rfl
        have d5 : w4.cell? ⟨ga, k * 6 + 5, none⟩ = some (.int .i64 0) := by rw [cellv, hga, cellOf_cells]; exact hcs 5 _ rfl
        have e0 : w4.cell? ⟨sb, 0, none⟩ = some (.int .i64 g.id) := by rw [cellv, Hs4.out]; rfl
        have e1 : w4.cell? ⟨sb, 1, none⟩ = some (.slice sa g.steps.length sc) := by rw [cellv, Hs4.out]; rfl
        have hdk : decide (k < R.length) = true := by simp [Hlt.out]
        have hdd : decide (g.id = g.id) = true := by simp
        have hnl : ((g.steps.length : Int) != g.steps.length) = false := by simp
        clear hga hcs
        go_quiet (fail)
        have HN5 := Lib.hid (HN4.out.trans ((Fr.refl _ w4).drewN nq))
        have Hs5 := Lib.hid (show (w4.drewN nq).heap[sb]? = _ from Hs4.out)
        have Hga5 := Lib.hid (show (w4.drewN nq).heap[ga]? = _ from Hga.out)
        have d3 : (w4.drewN nq).cell? ⟨ga, k * 6 + 3, none⟩ = some (.int .i64 g.steps.length) := d3
        have d4 : (w4.drewN nq).cell? ⟨ga, k * 6 + 4, none⟩ = some (.int .i64 0) := d4
        have d5 : (w4.drewN nq).cell? ⟨ga, k * 6 + 5, none⟩ = some (.int .i64 0) := d5
        have e1 : (w4.drewN nq).cell? ⟨sb, 1, none⟩ = some (.slice sa g.steps.length sc) := e1
        generalize w4.drewN nq = w5 at HN5 Hs5 Hga5 d3 d4 d5 e1 ⊢
        clear HN4 Hs4 Hga d0 e0
        go_upto_region 13 with fail
        go_quiet (fail)
        have HN6 := Lib.hid (HN5.out.trans ((Fr.refl _ w5).drewN nq))
        have Hs6 := Lib.hid (show (w5.drewN nq).heap[sb]? = _ from Hs5.out)
        have Hga6 := Lib.hid (show (w5.drewN nq).heap[ga]? = _ from Hga5.out)
        generalize w5.drewN nq = w6 at HN6 Hs6 Hga6 ⊢
        clear HN5 Hs5 Hga5 d3 d4 d5 e1
        go_upto_region 15 with fail
        refine fnd_r15 sb ga k R.length vc g.st g.step _ _ _ _ _ cs w6 Hs6.out Hlt.out Hga6.out (Hcs.out 1 _ rfl) (Hcs.out 2 _ rfl) ?_
        intros
        rename_i w7 hf7 hs7
        have HN7 : Hid (New wr w7) := HN6.out.trans' hf7 (fun i hi e => by have := Hsbe.out; omega)
        have Hs7 := Lib.hid hs7
        clear hf7 HN6 Hs6 Hga6
        have hcv := cellv w7
        have HHas := Lib.hid (Has_calls (Hmv.out.new HN7.out))
        go_upto_region 18 with (first
          | (go_at_call 133; refine Calls.mono HHas.out ?_; rintro e8 w8 ⟨rfl, hf8⟩)
          | fail)
        have HN8 := Lib.hid (HN7.out.trans hf8)
        have hs8 := hf8.get Hs7.out (fun f => f)
        clear hs7 hcv hf8 HN7 Hs7 HHas
        have Hs8 := Lib.hid hs8
        have hcv := cellv w8
        have hfv := frozv w8
        go_upto_region 22 with fail
        have hF9 : Fr (· = sb) w8 ((w8.setCell ⟨sb, 4, none⟩ (.int .i64 0)).setCell ⟨sb, 5, none⟩ (.int .i64 0)) := ((Fr.refl (· = sb) w8).setCell (fun _ => rfl) _ _).setCell (fun _ => rfl) _ _
        have hs9 : ((w8.setCell ⟨sb, 4, none⟩ (.int .i64 0)).setCell ⟨sb, 5, none⟩ (.int .i64 0)).heap[sb]? = some (.cells #[.int .i64 g.id, .slice sa g.steps.length sc, .int .i64 g.st, .int .i64 g.step, .int .i64 0, .int .i64 0, .slice (some ⟨mb, 0, none⟩) 1 mc] 223 (0, 0)) := by
          simp only [hp_setCell, if_true, hs8]; rfl
        generalize (w8.setCell ⟨sb, 4, none⟩ (.int .i64 0)).setCell ⟨sb, 5, none⟩ (.int .i64 0) = w9 at hF9 hs9 ⊢
        have HN9 : Hid (New wr w9) := HN8.out.trans' hF9 (fun i hi e => by have := Hsbe.out; omega)
        clear hF9 hs8 Hs8 hcv hfv HN8
        have hcv := cellv w9
        have hfv := frozv w9
        have Hs9 := Lib.hid hs9
        have hsb9 := lt_of_hp hs9
        have Hsb9 := Lib.hid hsb9
        clear hsb9
        have hsA := heap_alloc_keep (.cells #[.int .i64 g.st, .int .i64 g.step] 220) hs9
        have hmA := heap_alloc_new w9 (.cells #[.int .i64 g.st, .int .i64 g.step] 220)
        have HmA := Lib.hid hmA
        have HsA := Lib.hid hsA
        clear hmA
        have hcvA := cellv (w9.alloc (.cells #[.int .i64 g.st, .int .i64 g.step] 220))
        have hfvA := frozv (w9.alloc (.cells #[.int .i64 g.st, .int .i64 g.step] 220))
        go_upto_region 24 with fail
        have hF10 : Fr (fun k => k = sb) w9 ((w9.alloc (.cells #[.int .i64 g.st, .int .i64 g.step] 220)).setCell ⟨sb, 6, none⟩ (.slice (some ⟨w9.heap.size, 0, none⟩) 1 1)) := ((Fr.refl (· = sb) w9).alloc _).setCell (fun _ => rfl) _ _
        have hs10 : ((w9.alloc (.cells #[.int .i64 g.st, .int .i64 g.step] 220)).setCell ⟨sb, 6, none⟩ (.slice (some ⟨w9.heap.size, 0, none⟩) 1 1)).heap[sb]? = some (.cells #[.int .i64 g.id, .slice sa g.steps.length sc, .int .i64 g.st, .int .i64 g.step, .int .i64 0, .int .i64 0, .slice (some ⟨w9.heap.size, 0, none⟩) 1 1] 223 (0, 0)) := by
          simp only [hp_setCell, if_true, hsA]; rfl
        have hm10 : ((w9.alloc (.cells #[.int .i64 g.st, .int .i64 g.step] 220)).setCell ⟨sb, 6, none⟩ (.slice (some ⟨w9.heap.size, 0, none⟩) 1 1)).heap[w9.heap.size]? = some (.cells #[.int .i64 g.st, .int .i64 g.step] 220 (0, 0)) := by
          rw [hp_setCell, if_neg (by have := Hsb9.out; omega)]; exact HmA.out
        have hm9s := HN9.out.size
        generalize (w9.alloc (.cells #[.int .i64 g.st, .int .i64 g.step] 220)).setCell ⟨sb, 6, none⟩ (.slice (some ⟨w9.heap.size, 0, none⟩) 1 1) = w10 at hF10 hs10 hm10 ⊢
        have HN10 : Hid (New wr w10) := HN9.out.trans' hF10 (fun i hi e => by have := Hsbe.out; omega)
        generalize w9.heap.size = nb at hs10 hm10 hm9s ⊢
        have HM10 : Hid (RefOk w10 ({ g with tries := 0, due := 0 }, .slice sa g.steps.length sc, .slice (some ⟨nb, 0, none⟩) 1 1)) := ⟨Hsv.out.new HN10.out, _, _, _, rfl, hm10, rfl, rfl⟩
        clear hF10 hs9 Hs9 hcv hfv HN9 hsA HsA HmA hcvA hfvA hm10 hm9s Hsb9
        have hcv := cellv w10
        have hst0 := Hst0.out
        have hoA := Lib.hid ((HR'.out.new HN10.out).own.alloc (.cells #[.int .i64 g.id, .slice sa g.steps.length sc, .int .i64 g.st, .int .i64 g.step, .int .i64 0, .int .i64 0, .slice (some ⟨nb, 0, none⟩) 1 1] 223))
        have hnews : ∀ (j : Nat) (u : Value), [Value.int .i64 g.id, .slice sa g.steps.length sc, .int .i64 g.st, .int .i64 g.step, .int .i64 0, .int .i64 0, .slice (some ⟨nb, 0, none⟩) 1 1][j]? = some u → (w10.alloc (.cells #[.int .i64 g.id, .slice sa g.steps.length sc, .int .i64 g.st, .int .i64 g.step, .int .i64 0, .int .i64 0, .slice (some ⟨nb, 0, none⟩) 1 1] 223)).cell? ((⟨w10.heap.size, 0, none⟩ : Addr).add j) = some u := World.news_of_block (heap_alloc_new w10 _)
        have Hnews := Lib.hid hnews
        have hRl : R'.length = k := by
          have := congrArg List.length HsR'.out
          simp [sagasOf, coreL] at this
          have := Hlt.out
          omega
        have HRl := Lib.hid hRl
        clear hnews hRl
        go_wp2_with (first
          | (at_builtin; refine wpList_append_own _ rfl _ _ 161 rfl w1.heap.size 223 i0 (.agg #[.int .i64 0, .slice none 0 0, .int .i64 0, .int .i64 0, .int .i64 0, .int .i64 0, .slice none 0 0]) 7 88 Tryz.underlying161 hi hz0 hz1 hz2 rfl (by decide) _ _ _ rfl hoA.out ⟨w10.heap.size, 0, none⟩ 1 1 [Value.int .i64 g.id, .slice sa g.steps.length sc, .int .i64 g.st, .int .i64 g.step, .int .i64 0, .int .i64 0, .slice (some ⟨nb, 0, none⟩) 1 1] rfl rfl Hnews.out (by intro u hu; simp at hu; rcases hu with rfl | rfl | rfl | rfl | rfl | rfl | rfl <;> rfl) (by have := Hl.out; have := HRl.out; have := Hlt.out; unfold maxLen; omega) (by have := Hl.out; have := HRl.out; have := Hlt.out; omega) (by have := Hf.out.size; have := HN10.out.size; simp; omega) ?_; intro l2 w11 hown11 hg11 _; obtain ⟨a4, n4, c4, rfl⟩ := own_slice hown11; go_frame)
          | fail)
        go_roundw
        case rel =>
          have hRA : RefAt (w10.alloc (.cells #[.int .i64 g.id, .slice sa g.steps.length sc, .int .i64 g.st, .int .i64 g.step, .int .i64 0, .int .i64 0, .slice (some ⟨nb, 0, none⟩) 1 1] 223)) w1.heap.size (.slice ra rn rc) R' := (HR'.out.new HN10.out).new ((Fr.refl _ _).alloc _)
          refine ⟨k + 1, R' ++ [({ g with tries := 0, due := 0 }, .slice sa g.steps.length sc, .slice (some ⟨nb, 0, none⟩) 1 1)], Hlt.out, by go_num, by go_num, hRA.snoc (r := ({ g with tries := 0, due := 0 }, .slice sa g.steps.length sc, .slice (some ⟨nb, 0, none⟩) 1 1)) ⟨(HM10.out.1).new ((Fr.refl _ _).alloc _), (HM10.out.2).new ((Fr.refl _ _).alloc _)⟩ hown11 hg11, ?_, ?_⟩
          · have e1 : R.take (k + 1) = R.take k ++ [(g, .slice sa g.steps.length sc, .slice (some ⟨mb, 0, none⟩) 1 mc)] := by
              rw [List.take_add_one, Hr.out]; rfl
            have h0 := HsR'.out
            unfold sagasOf coreL at h0 ⊢
            rw [e1]
            simp only [List.map_append, List.map_cons, List.map_nil] at h0 ⊢
            rw [h0]; rfl
          · exact (((Hf.out.trans HN10.out).alloc _).trans' (Fr.ofGrown hg11) (fun i hi e => by have := (hRA.own.lt i e).1; omega))
        case measure => have := Hlt.out; simp [intOf]; omega
      · obtain rfl : k = R.length := by omega
        have hkI : ¬ ((R.length : Int) < R.length) := by omega
        have hnn : ((R.length : Int) == R.length) = true := by simp
        have hfv := frozv wr
        go_wp2_with fail
        go_ret
        have hFc := ((((((Fr.one kb wr 5 (.pointer (some ⟨q.xb, 0, none⟩))).trans (Fr.one kb _ 6 (.int .i64 pause))).trans (Fr.one kb _ 7 (.int .i64 0))).trans (Fr.one kb _ 8 (.bool false))).trans (Fr.one kb _ 9 (.slice ra rn rc))).trans (Fr.one kb _ 3 (.bool false))).trans (Fr.one kb _ 4 (.bool false))
        refine ⟨rfl, ((Hf1.out.trans Hf.out).mono (fun _ _ f => f.elim)).trans hFc, .slice ra rn rc, R', ?_, ?_, ?_⟩
        · simp only [hp_setCell, if_true, hkr]; rfl
        · have h1 := HR'.out.fr hFc (by rintro k rfl; exact ⟨_, hkr, by simp [kindOf]⟩) (fun k hk e => by
            obtain ⟨c, hc⟩ := own_cells HR'.out.own hk
            rw [e] at hc
            rw [hkr] at hc
            simp at hc)
          exact ⟨own_baseW h1.own Hf1.out.size, h1.ok⟩
        · rw [HsR'.out, List.take_length]
end Go.Proofs.YtkafmfdipmhleaaGreatDoor

namespace Go.Proofs.YtkafmfdipmhleaaGreatDoor
open Go.RowKit Go.Maps
/-- What a step on a disk makes of it, and what is known of what it made. -/
def TurnedTo (Q : RD → Prop) (w : World) (B m : Nat) (o : RD) (w' : World) : Prop := ∃ o', RunAt w' B o' ∧ RDok m o' ∧ (o'.kb = o.kb ∧ o'.db = o.db ∧ o'.bb = o.bb ∧ o'.pb = o.pb) ∧ (∀ k, o'.own k → o.own k ∨ w.heap.size ≤ k) ∧ Fr o.own w w' ∧ Q o'
/-- The engine asks as it did. -/
def KeepA (o o' : RD) : Prop := ∀ e', o'.x = some e' → ∃ e, o.x = some e ∧ e'.a = e.a
/-- The engine, if there is one, asks the partner itself. -/
def PlainA (o' : RD) : Prop := ∀ e', o'.x = some e' → e'.a = askP
/-- No engine is open. -/
def NoX (o' : RD) : Prop := o'.x = none
theorem NoX.plain {o' : RD} (h : NoX o') : PlainA o' := fun e he => by
  have h' : o'.x = none := h
  rw [h'] at he; cases he
theorem TurnedTo.mono {Q P : RD → Prop} {w w' : World} {B m : Nat} {o : RD} (h : TurnedTo Q w B m o w') (hQ : ∀ o', Q o' → P o') : TurnedTo P w B m o w' := by
  obtain ⟨o', h1, h2, h3, h4, h5, h6⟩ := h
  exact ⟨o', h1, h2, h3, h4, h5, hQ _ h6⟩
theorem TurnedTo.turned {Q : RD → Prop} {w w' : World} {B m : Nat} {o : RD} (h : TurnedTo Q w B m o w') : Turned w B m o w' := by
  obtain ⟨o', h1, h2, h3, h4, h5, _⟩ := h
  exact ⟨o', h1, h2, h3, h4, h5⟩
theorem TurnedTo.same {w w' : World} {B m k : Nat} {o : RD} (h : RunAt w B o) (hk : RDok k o) (hm : m ≤ k) (hf : New w w') : TurnedTo (KeepA o) w B m o w' :=
  ⟨o, h.new hk.pend hf, hk.less hm, ⟨rfl, rfl, rfl, rfl⟩, fun _ h => .inl h, hf.mono (fun _ _ f => f.elim), fun e he => ⟨e, he, rfl⟩⟩
end Go.Proofs.YtkafmfdipmhleaaGreatDoor

namespace Go.Proofs.YtkafmfdipmhleaaGreatDoor
open Go.RowKit Go.Maps
theorem coreL_left (l : List SagaM) : leftSum (coreL l) = leftSum l := by
  unfold leftSum coreL
  rw [List.map_map]; rfl
theorem coreL_core (l : List SagaM) : coreL (coreL l) = coreL l := by
  unfold coreL
  rw [List.map_map]; rfl
/-- The partner's blocks have not turned. -/
theorem RunAt.ptFr {w w' : World} {B : Nat} {o : RD} {S : Nat → Prop} (h : RunAt w B o) (hf : Fr S w w') (hpb : ¬ S o.pb) (hS : ∀ k ob, S k → w.heap[k]? = some ob → kindOf ob ∉ [49, 47, 4]) :
    w'.heap[o.pb]? = some (.cells #[o.pl, o.pe, o.pi, .int .i64 o.p.at_] 44 (0, 0)) ∧ PAt w' o.pb o.p := by
  have hps := hf.get h.ps hpb
  refine ⟨hps, ?_⟩
  obtain ⟨⟨lv, ev, iv, C, h1, h2, h3, h4, h5, h6⟩⟩ := h.pt
  have h0 := h.ps
  rw [h1] at h0
  simp only [Option.some.injEq, Obj.cells.injEq, Array.mk.injEq, List.cons.injEq] at h0
  obtain ⟨⟨e1, e2, e3, _⟩, _⟩ := h0
  subst e1 e2 e3
  have own : ∀ {C e size n : Nat} {v : Value} {xs : List Value}, e + 1 ∈ [49, 47, 4] → w.ownsRow C e size v n xs → ∀ k, v.ownBlock = some k → ¬ S k := by
    intro C e size n v xs he hv k hk hs
    obtain ⟨c, hc⟩ := own_cells hv hk
    exact hS k _ hs hc he
  refine ⟨⟨_, _, _, C, hf.get h1 hpb, own_frS h2 hf (own (by simp) h2), own_frS h3 hf (own (by simp) h3), ?_, ⟨Nat.le_trans h5.1 hf.size, h5.2⟩, h6⟩⟩
  rcases h4 with h4 | ⟨b, off, cap, c, e, e4, e5⟩
  · exact .inl h4
  · exact .inr ⟨b, off, cap, c, e, hf.get e4 (fun hs => hS b _ hs e4 (by simp [kindOf])), e5⟩
/-- A disk that was opened, or was not. -/
theorem RunAt.remade {w w' : World} {B : Nat} {o o' : RD} (h : RunAt w B o) (hf : Fr (fun k => k = o.kb ∨ k = o.db) w w') (hs : o'.pb = o.pb ∧ o'.p = o.p ∧ o'.pl = o.pl ∧ o'.pe = o.pe ∧ o'.pi = o.pi)
    (st : w'.heap[o'.kb]? = some (.cells (rdCells o') 165 (0, 0))) (dk : DiskAt w' o'.db o'.bb o'.d) (ref : RefAt w' B o'.lv o'.R)
    (eng : ∀ e, o'.x = some e → StV e.cv w' (o'.pl_ e) e.bl (o'.st e) ∧ Asks e.cv o'.pb e.a) (lo : ∀ k, o'.own k → B ≤ k) : RunAt w' B o' := by
  obtain ⟨_, _, _, _, e1, e2, _⟩ := h.dk
  obtain ⟨h1, h2, h3, h4, h5⟩ := hs
  obtain ⟨p1, p2⟩ := h.ptFr hf (by
    rintro (e | e)
    · exact ne_of_kind h.ps h.st (by simp [kindOf]) e
    · exact ne_of_kind h.ps e1 (by simp [kindOf]) e) (by
    rintro k ob (rfl | rfl) hk
    · rw [h.st] at hk; cases hk; simp [kindOf]
    · rw [e1] at hk; cases hk; simp [kindOf])
  exact ⟨st, dk, by rw [h1, h2, h3, h4, h5]; exact p1, by rw [h1, h2]; exact p2, by rw [h2, h5]; exact h.pi, ref, eng, lo⟩
theorem RDok.reads {m : Nat} {o : RD} (h : RDok (m + 1) o) (k : Nat) (hk : k ≤ 10000) : 0 ≤ (o.d.reads k).calls ∧ (o.d.reads k).calls + 20000 * m ≤ 2 ^ 40 := by
  have := h.cal
  exact ⟨by show 0 ≤ o.d.calls + (k : Int); omega, by show o.d.calls + (k : Int) + 20000 * m ≤ 2 ^ 40; omega⟩
theorem RDok.closed {m : Nat} {o : RD} (h : RDok (m + 1) o) (k : Nat) (hk : k ≤ 10000) : RDok m { o with d := o.d.reads k, x := none } := by
  have h' := h.less (k := m) (by omega)
  exact ⟨h'.quiet, h'.pend, h'.len, h'.nl, h.reads k hk, h'.je, h'.ep, h'.core, h'.cap, h'.ok, h'.ord, h'.room, h'.fits, fun e => ⟨(h'.zero e).1, rfl⟩, h'.fine, h'.tries, h'.clock, fun _ e => by cases e⟩
theorem RDok.opened {m : Nat} {o : RD} (h : RDok (m + 1) o) (k : Nat) (hk : k ≤ 10000) {R' : List RefM} (hR : sagasOf R' = coreL (sagasOf o.R)) {pause : Int} (hp : 1 ≤ pause ∧ pause ≤ 64) (lv : Value) (e : EngR) (ha : e.a = askP ∨ e.a = askF) (he : o.ep ≠ 0) :
    RDok m { o with d := o.d.reads k, R := R', pz := pause, ck := 0, lv := lv, x := some e } := by
  have h' := h.less (k := m) (by omega)
  have hep := h'.ep
  refine ⟨h'.quiet, h'.pend, h'.len, h'.nl, h.reads k hk, h'.je, h'.ep, ?_, ?_, ?_, ?_, ?_, h'.fits, fun e => absurd e he, h'.fine, ?_, ⟨by show (0 : Int) ≤ 0; omega, by show (0 : Int) + m ≤ 2 ^ 30; omega⟩, fun e' ee => ?_⟩
  · show coreL (sagasOf R') = _
    rw [hR, coreL_core]; exact h'.core
  · show (evLen o.evs : Int) + leftSum (sagasOf R') ≤ capSum (sagasOf R')
    rw [hR, coreL_left, coreL_capSum]; exact h'.cap
  · intro g hg
    have hg' : g ∈ coreL (sagasOf o.R) := by rw [← hR]; exact hg
    obtain ⟨g0, h0, rfl⟩ := List.mem_map.1 hg'
    have := h'.ok g0 h0
    exact ⟨this.1, this.2.1, this.2.2.1, by show (0 : Int) ≤ 0; omega, this.2.2.2.2⟩
  · show (sagasOf R').Pairwise _
    rw [hR]; exact coreL_ord h'.ord
  · intro e0
    show (1 + evLen o.evs : Nat) + leftSum (sagasOf R') ≤ o.n
    rw [hR, coreL_left]; exact h'.room e0
  · intro g hg
    have hg' : g ∈ coreL (sagasOf o.R) := by rw [← hR]; exact hg
    obtain ⟨g0, h0, rfl⟩ := List.mem_map.1 hg'
    show (0 : Int) + 2000 * m < 2 ^ 30
    omega
  · simp only [Option.some.injEq] at ee
    subst ee
    exact ⟨hp, ha⟩
/-- Open, where the journal may be opened. -/
def OpnHyp (o : RD) : Prop := ∀ (w : World) (pause : Int), DiskAt w o.db o.bb o.d → 1 ≤ pause ∧ pause ≤ 64 →
  Calls Tryz.prog 30 #[.pointer (some ⟨o.db, 0, none⟩), .int .i64 pause, .pointer (some ⟨o.pb, 0, none⟩)] w (OpnPost w o.db o.bb o.d ⟨o.ep, 1 + evLen o.evs, true⟩ (o.evs.foldl applyEv []) pause (askFn o.pb))
theorem RDok.dfits {m : Nat} {o : RD} (h : RDok m o) (he : o.ep ≠ 0) : o.d.fits = true := by
  have := h.fits he
  unfold DiskM.fits
  rw [h.len]
  simp; omega
theorem RDok.opnHyp {m : Nat} {o : RD} (h : RDok (m + 1) o) (hr : evLen o.evs + 1 < o.n) (he : o.ep ≠ 0) : OpnHyp o := by
  intro w pause hd hp
  have hc := h.cal
  have hep := h.ep
  have hJ := h.je (by omega)
  rcases hJ.parse0 rfl h.pend (by omega) with ⟨h0, _⟩ | ⟨_, h0⟩
  · exact absurd h0 he
  · exact pOpen_any (pb := o.pb) hd h.quiet (by omega) _ h0 rfl o.evs (hJ.evs rfl h.pend) (hJ.stop rfl h.pend (by rw [h.len]; omega)) hJ.ok (by rw [h.len]; exact hr) (h.dfits he) pause hp
/-- What Open makes: nothing turns but the disk's count. -/
def OpRV (w : World) (o : RD) (pause : Int) (xv ev : Value) (w' : World) : Prop :=
  ∃ k, k ≤ 10000 ∧ DiskAt w' o.db o.bb (o.d.reads k) ∧ Fr (· = o.db) w w' ∧
    ((xv = .pointer none ∧ ∃ nb, ev = .iface 121 (.pointer (some ⟨nb, 0, none⟩)) ∧ (∃ op, w'.heap[nb]? = some (.cells (faultCells op (errOf o.d pause)) 123 (0, 0))) ∧ (o.ep = 0 ∨ (pause < 1 ∨ 64 < pause) ∨ o.d.fits = false)) ∨
     (ev = .nilIface ∧ o.ep ≠ 0 ∧ (1 ≤ pause ∧ pause ≤ 64) ∧ o.d.fits = true ∧ ∃ xb jb mb bl, xv = .pointer (some ⟨xb, 0, none⟩) ∧ (w.heap.size ≤ xb ∧ w.heap.size ≤ jb ∧ w.heap.size ≤ mb ∧ ∀ b ∈ bl, w.heap.size ≤ b) ∧
        JnAt w' jb o.db ⟨o.ep, 1 + evLen o.evs, true⟩ ∧ EvV (askFn o.pb) w' ⟨xb, jb, mb, o.db, o.bb, o.pb⟩ bl ⟨pause, 0, o.evs.foldl applyEv [], ⟨o.ep, 1 + evLen o.evs, true⟩, o.d.reads k, o.p⟩))
theorem opened_callV {w : World} {m : Nat} {o : RD} {pause : Int} (hd : DiskAt w o.db o.bb o.d) (hk : RDok (m + 1) o) (hO : o.ep ≠ 0 → OpnHyp o) :
    Calls Tryz.prog 30 #[.pointer (some ⟨o.db, 0, none⟩), .int .i64 pause, .pointer (some ⟨o.pb, 0, none⟩)] w fun e w' => ∃ xv ev, e = .returned (.tuple #[xv, ev]) ∧ OpRV w o pause xv ev w' := by
  have hc := hk.cal
  have hep := hk.ep
  by_cases herr : o.ep = 0 ∨ (pause < 1 ∨ 64 < pause) ∨ o.d.fits = false
  · obtain ⟨r0, h0⟩ : ∃ r0, parseM (o.d.look 0) = some (r0, false) ∨ (pause < 1 ∨ 64 < pause) ∨ o.d.fits = false := by
      by_cases hn : 0 < o.n
      · rcases (hk.je hn).parse0 rfl hk.pend (by omega) with ⟨_, r, hr⟩ | ⟨h1, _⟩
        · exact ⟨r, .inl hr⟩
        · rcases herr with h2 | h2
          · exact absurd h2 h1
          · exact ⟨default_rec, .inr h2⟩
      · refine ⟨default_rec, .inr (.inr ?_)⟩
        unfold DiskM.fits
        rw [hk.len]
        simp; omega
    refine Calls.mono (pOpen_err (pb := o.pb) hd hk.quiet (by omega) r0 h0) ?_
    rintro e w' ⟨nb, k, hk2, rfl, hfb, hd', hf⟩
    exact ⟨_, _, rfl, k, hk2, hd', hf, .inl ⟨rfl, nb, rfl, ⟨_, hfb⟩, herr⟩⟩
  · have h1 : o.ep ≠ 0 := fun h => herr (.inl h)
    have h2 : 1 ≤ pause ∧ pause ≤ 64 := by
      have : ¬ (pause < 1 ∨ 64 < pause) := fun h => herr (.inr (.inl h))
      omega
    refine Calls.mono (hO h1 w pause hd h2) ?_
    rintro e w' ⟨xb, jb, mb, bl, k, rfl, hxs, hk2, hx, hj, hd', hm, hlb, hsg, hnd, hbl, hf⟩
    exact ⟨_, _, rfl, k, hk2, hd', hf, .inr ⟨rfl, h1, h2, hk.dfits h1, xb, jb, mb, bl, rfl, ⟨hxs.1, hxs.2.1, hxs.2.2, hbl⟩, hj, ⟨hx, hm, hlb, hsg, hnd⟩⟩⟩
theorem RunAt.low {w : World} {B : Nat} {o : RD} (h : RunAt w B o) : B ≤ w.heap.size := Nat.le_trans (h.lo _ (.inl rfl)) (Nat.le_of_lt (lt_of_hp h.st))
theorem RunAt.shut {w w' : World} {B : Nat} {o : RD} {d : DiskM} (h : RunAt w B o) (hf : Fr (fun k => k = o.kb ∨ k = o.db) w w') (hk : w'.heap[o.kb]? = some (.cells (rdCells { o with d := d, x := none }) 165 (0, 0))) (hd : DiskAt w' o.db o.bb d) : RunAt w' B { o with d := d, x := none } := by
  obtain ⟨_, _, _, _, e1, _⟩ := h.dk
  refine h.remade hf ⟨rfl, rfl, rfl, rfl, rfl⟩ hk hd (h.ref.fr hf ?_ ?_) (fun e he => by cases he) (fun k hk => ?_)
  · rintro k (rfl | rfl)
    · exact ⟨_, h.st, by simp [kindOf]⟩
    · exact ⟨_, e1, by simp [kindOf]⟩
  · intro k hk
    obtain ⟨c, hc⟩ := own_cells h.ref.own hk
    rintro (rfl | rfl)
    · rw [h.st] at hc; simp at hc
    · rw [e1] at hc; simp at hc
  · refine h.lo k ?_
    rcases hk with e | e | e | e | e | e | e | e | ⟨_, e, _⟩
    · exact .inl e
    · exact .inr (.inl e)
    · exact .inr (.inr (.inl e))
    · exact .inr (.inr (.inr (.inl e)))
    · exact .inr (.inr (.inr (.inr (.inl e))))
    · exact .inr (.inr (.inr (.inr (.inr (.inl e)))))
    · exact .inr (.inr (.inr (.inr (.inr (.inr (.inl e))))))
    · exact .inr (.inr (.inr (.inr (.inr (.inr (.inr (.inl e)))))))
    · cases e
theorem own_less {o o' : RD} (hs : o'.kb = o.kb ∧ o'.db = o.db ∧ o'.bb = o.bb ∧ o'.pb = o.pb ∧ o'.pl = o.pl ∧ o'.pe = o.pe ∧ o'.pi = o.pi) {A : Nat} (hl : ∀ k, o'.lv.ownBlock = some k → o.own k ∨ A ≤ k) (hx : ∀ e, o'.x = some e → ∀ k, (k = e.xb ∨ k = e.jb ∨ k = e.mb ∨ k ∈ e.bl) → o.own k ∨ A ≤ k) {k : Nat} (hk : o'.own k) : o.own k ∨ A ≤ k := by
  obtain ⟨h1, h2, h3, h4, h5, h6, h7⟩ := hs
  rcases hk with e | e | e | e | e | e | e | e | ⟨x, e, e'⟩
  · exact .inl (.inl (e.trans h1))
  · exact .inl (.inr (.inl (e.trans h2)))
  · exact .inl (.inr (.inr (.inl (e.trans h3))))
  · exact .inl (.inr (.inr (.inr (.inl (e.trans h4)))))
  · exact hl k e
  · exact .inl (.inr (.inr (.inr (.inr (.inr (.inl (h5 ▸ e)))))))
  · exact .inl (.inr (.inr (.inr (.inr (.inr (.inr (.inl (h6 ▸ e))))))))
  · exact .inl (.inr (.inr (.inr (.inr (.inr (.inr (.inr (.inl (h7 ▸ e)))))))))
  · exact hx x e k e'
theorem TurnedTo.shut {w w' : World} {B m : Nat} {o : RD} (h : RunAt w B o) (hk : RDok (m + 1) o) (k : Nat) (hk2 : k ≤ 10000) (hf : Fr (fun k => k = o.kb ∨ k = o.db) w w') (hst : w'.heap[o.kb]? = some (.cells (rdCells { o with d := o.d.reads k, x := none }) 165 (0, 0))) (hd : DiskAt w' o.db o.bb (o.d.reads k)) : TurnedTo NoX w B m o w' :=
  ⟨_, h.shut hf hst hd, hk.closed k hk2, ⟨rfl, rfl, rfl, rfl⟩, fun j hj => own_less (o := o) (o' := { o with d := o.d.reads k, x := none }) ⟨rfl, rfl, rfl, rfl, rfl, rfl, rfl⟩ (fun i hi => .inl (.inr (.inr (.inr (.inr (.inl hi)))))) (fun e he => by cases he) hj, hf.mono (by
    rintro i hi (e | e)
    · exact .inl e
    · exact .inr (.inl e)), rfl⟩
theorem TurnedTo.opened {w w5 w' : World} {B m xb jb mb : Nat} {o : RD} {bl : List Nat} {pause : Int} (h : RunAt w B o) (hk : RDok (m + 1) o) (he : o.ep ≠ 0) (hp : 1 ≤ pause ∧ pause ≤ 64) (k : Nat) (hk2 : k ≤ 10000) (hs5 : w.heap.size ≤ w5.heap.size) (hf : Fr (fun k => k = o.kb ∨ k = o.db) w w')
    (hf5 : Fr (· = o.kb) w5 w') (hkb : ∃ c, w5.heap[o.kb]? = some (.cells c 165 (0, 0))) (hd : DiskAt w5 o.db o.bb (o.d.reads k)) (hl : w.heap.size ≤ xb ∧ w.heap.size ≤ jb ∧ w.heap.size ≤ mb ∧ ∀ b ∈ bl, w.heap.size ≤ b) (hj : JnAt w5 jb o.db ⟨o.ep, 1 + evLen o.evs, true⟩)
    (hE : EvV (askFn o.pb) w5 ⟨xb, jb, mb, o.db, o.bb, o.pb⟩ bl ⟨pause, 0, o.evs.foldl applyEv [], ⟨o.ep, 1 + evLen o.evs, true⟩, o.d.reads k, o.p⟩) {lv : Value} {R' : List RefM}
    (hst : w'.heap[o.kb]? = some (.cells #[.pointer (some ⟨o.db, 0, none⟩), .pointer (some ⟨o.pb, 0, none⟩), .int .i64 o.n, .bool false, .bool false, .pointer (some ⟨xb, 0, none⟩), .int .i64 pause, .int .i64 0, .bool false, lv] 165 (0, 0)))
    (hR : RefAt w' w5.heap.size lv R') (hRs : sagasOf R' = coreL (sagasOf o.R)) : TurnedTo PlainA w B m o w' := by
  obtain ⟨cc, hkb⟩ := hkb
  have hBw := h.low
  have hK : FrK [166] w5 w' := hf5.toK (by
    rintro i ob rfl ho
    rw [hkb] at ho; cases ho; simp [kindOf])
  have hd' : DiskAt w' o.db o.bb (o.d.reads k) := hd.keepK hK (by decide) (by decide) (by decide)
  have hpt := (h.ptFr hf (by
    obtain ⟨_, _, _, _, e1, _⟩ := h.dk
    rintro (e | e)
    · exact ne_of_kind h.ps h.st (by simp [kindOf]) e
    · exact ne_of_kind h.ps e1 (by simp [kindOf]) e) (by
    obtain ⟨_, _, _, _, e1, _⟩ := h.dk
    rintro i ob (rfl | rfl) hi
    · rw [h.st] at hi; cases hi; simp [kindOf]
    · rw [e1] at hi; cases hi; simp [kindOf])).2
  have hsg : o.evs.foldl applyEv [] = sagasOf R' := by rw [hRs]; exact hk.core.symm
  have hE' := hE.keepK hK (by decide)
  have hj' : JnAt w' jb o.db ⟨o.ep, 1 + evLen o.evs, true⟩ := hj.keepK hK (by decide)
  rw [hsg] at hE'
  have hlvn : ∀ i, lv.ownBlock = some i → w.heap.size ≤ i := by
    intro i hi
    have := (hR.own.lt i hi).1; omega
  have hown : ∀ j, RD.own { o with d := o.d.reads k, R := R', pz := pause, ck := 0, lv := lv, x := some ⟨xb, jb, mb, bl, true, askFn o.pb, askP⟩ } j → o.own j ∨ w.heap.size ≤ j := by
    intro j hj2
    refine own_less (o := o) (o' := { o with d := o.d.reads k, R := R', pz := pause, ck := 0, lv := lv, x := some ⟨xb, jb, mb, bl, true, askFn o.pb, askP⟩ }) ⟨rfl, rfl, rfl, rfl, rfl, rfl, rfl⟩ (fun i hi => .inr (hlvn i hi)) (fun e he2 i hi => ?_) hj2
    simp only [Option.some.injEq] at he2
    subst he2
    rcases hi with rfl | rfl | rfl | hi
    · exact .inr hl.1
    · exact .inr hl.2.1
    · exact .inr hl.2.2.1
    · exact .inr (hl.2.2.2 i hi)
  refine ⟨{ o with d := o.d.reads k, R := R', pz := pause, ck := 0, lv := lv, x := some ⟨xb, jb, mb, bl, true, askFn o.pb, askP⟩ }, h.remade hf ⟨rfl, rfl, rfl, rfl, rfl⟩ ?_ hd' ⟨own_baseW hR.own (by omega), hR.ok⟩ (fun e he2 => ?_) (fun j hj2 => ?_), hk.opened k hk2 hRs hp lv _ (.inl rfl) he, ⟨rfl, rfl, rfl, rfl⟩, hown, hf.mono (by
    rintro i hi (e | e)
    · exact .inl e
    · exact .inr (.inl e)), fun e he2 => by
      simp only [Option.some.injEq] at he2
      subst he2; rfl⟩
  · rw [hst]
    simp only [rdCells, xvOf, show decide (o.ep = 0) = false by simp [he]]
  · simp only [Option.some.injEq] at he2
    subst he2
    exact ⟨⟨hE'.eng, hj', hd', hpt, hE'.mp, hE'.len, hE'.sg, hE'.nd⟩, asks_p _⟩
  · rcases hown j hj2 with hh | hh
    · exact h.lo j hh
    · omega
end Go.Proofs.YtkafmfdipmhleaaGreatDoor
