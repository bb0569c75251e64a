/-
  What is proved: the given statement of Spare: for every input it returns true, and each argument reads as it did. Conditions: those of the row (the listed variable starts as the program's text lays it: tied by the card).
-/
import Derived.Test.YtkafmfdipmhleaaGreatDoorSx1
import Derived.Test.YtkafmfdipmhleaaGreatDoorRows
import Derived.ChangeSame
import Derived.ChangeVars
import Derived.ChangeSlices
import Derived.JoinedOf
import Derived.RowKit
import Derived.RowKitTokens
import Derived.LaidLaws
import Derived.LaidHandle
import Derived.Stop.Joined
import Derived.Carry
import Derived.Test.YtkafmfdipmhleaaGreatDoorCards
import Derived.Test.YtkafmfdipmhleaaGreatDoorTie

namespace Go.Proofs.YtkafmfdipmhleaaGreatDoor
open Go.RowKit Go.Maps

theorem StM.fine.mono {s : StM} {m k : Nat} (h : s.fine m) (hk : k ≤ m) : s.fine k := by
  obtain ⟨h1, h2, h3, h4, h5, h6⟩ := h
  exact ⟨by omega, by omega, h3, h4, by omega, h6⟩
def rest200 (r : List Int) : List Int := r ++ List.replicate 200 0
def ends1 (r : List Int) (n : Nat) (pause : Int) (lo : Nat) : StM := (StM.fresh 60 pause ⟨[], [], rest200 r, 0, lo⟩).submit 9 (kSteps 9 n)
theorem ends1_room (r : List Int) (n : Nat) (pause : Int) (lo : Nat) (hn : 1 ≤ n ∧ n ≤ 6) :
    ((StM.fresh 60 pause ⟨[], [], rest200 r, 0, lo⟩).j.en : Int) + (2 + (2 * (kSteps 9 n).length - 1) + leftSum (StM.fresh 60 pause ⟨[], [], rest200 r, 0, lo⟩).sagas) ≤ (StM.fresh 60 pause ⟨[], [], rest200 r, 0, lo⟩).d.blocks.length := by
  have : (StM.fresh 60 pause ⟨[], [], rest200 r, 0, lo⟩).d.blocks.length = 60 := fresh_len 60
  rw [this, kSteps_len]
  simp [StM.fresh, leftSum]
  omega
theorem ends1_inv (r : List Int) (n : Nat) (pause : Int) (lo : Nat) (hr : r.length ≤ 20) (hn : 1 ≤ n ∧ n ≤ 6) (hp : 1 ≤ pause ∧ pause ≤ 8) : (ends1 r n pause lo).inv ∧ (ends1 r n pause lo).fine 100000 := by
  have h0 := fresh_inv 60 pause ⟨[], [], rest200 r, 0, lo⟩ (by omega) (by omega)
  have hf : (StM.fresh 60 pause ⟨[], [], rest200 r, 0, lo⟩).fine 100000 := ⟨by simp [StM.fresh], by simp [StM.fresh], by show (rest200 r).length < 2 ^ 30; rw [rest200, List.length_append, List.length_replicate]; omega, by simp [StM.fresh], by simp [StM.fresh], fun g hg => by simp [StM.fresh] at hg⟩
  exact submit_inv (id := 9) (l := kSteps 9 n) h0 hf (kSteps_whole 9 n (by omega) hn) (fun x hx => by simp [StM.fresh] at hx) (ends1_room r n pause lo hn)
theorem ends1_ei (r : List Int) (n : Nat) (pause : Int) (lo : Nat) (hn : 1 ≤ n ∧ n ≤ 6) (hp : 1 ≤ pause ∧ pause ≤ 8) : EI (rest200 r) n (ends1 r n pause lo) (SagaM.new 9 (kSteps 9 n)) where
  sg := rfl
  st := kSteps_len 9 n
  ag := .inl ⟨rfl, 0, rfl, by omega, .inl rfl⟩
  nv1 := fun _ x hx => by simp [ends1, StM.fresh, StM.submit] at hx
  nv2 := fun h => by simp [SagaM.new] at h
  pl := rfl
  at_ := rfl
  sum := by
    have : (ends1 r n pause lo).p.log = [] := rfl
    rw [this, new_left, kSteps_len]; simp; omega
  due := by show (0 : Int) ≤ 0 + pause; omega
  ok := new_ok (kSteps_whole 9 n (by omega) hn)
  clk := by show (0 : Int) ≤ 0 ∧ (0 : Int) < 2 ^ 40; omega
  tries := by show (0 : Int) < 2 ^ 40; omega
/-- Behind so many ticks. -/
theorem ends1_end (r : List Int) (n : Nat) (pause : Int) (lo t : Nat) (hr : r.length ≤ 20) (hn : 1 ≤ n ∧ n ≤ 6) (hp : 1 ≤ pause ∧ pause ≤ 8) (ht : (t : Int) = (20 + 2 * n + 2) * (pause + 1)) :
    ∃ g, ((ends1 r n pause lo).ticks t).sagas = [g] ∧ g.id = 9 ∧ g.steps.length = n ∧ Agree n g.st g.step (mineOf ((ends1 r n pause lo).ticks t).p.effs 9) ∧
      (g.st = 3 ∧ (((ends1 r n pause lo).ticks t).p.log.any fun x => x.2 == 2) = false ∨ g.st = 4 ∧ (((ends1 r n pause lo).ticks t).p.log.any fun x => x.2 == 2) = true) := by
  have hleft : (SagaM.new 9 (kSteps 9 n)).left ≤ 2 * n := by rw [new_left, kSteps_len]; omega
  have htb : (t : Int) ≤ 34 * 9 := by rw [ht]; exact Int.mul_le_mul (by omega) (by omega) (by omega) (by omega)
  obtain ⟨hi, hf⟩ := ends1_inv r n pause lo hr hn hp
  obtain ⟨g, h1, h2, h3, h4⟩ := ei_ends (r := r) rfl hr (ends1_ei r n pause lo hn hp) hn.2 hi rfl rfl rfl rfl hleft t ht (hf.mono (by omega))
  have hid : g.id = 9 := h3
  refine ⟨g, h1.sg, hid, h1.st, by have := h1.ag; rw [hid] at this; exact this, ?_⟩
  rcases h4 with h4 | h4
  · left
    refine ⟨h4, ?_⟩
    rw [List.any_eq_false]
    intro x hx
    have := h1.nv1 (.inr h4) x hx
    simpa using this
  · right
    refine ⟨h4, ?_⟩
    rw [List.any_eq_true]
    obtain ⟨x, hx, h2⟩ := h1.nv2 (.inr h4)
    exact ⟨x, hx, by simpa using h2⟩
/-- How a partner's log reads. -/
theorem logCells_get (l : List (CallM × Int)) (k : Nat) (h : k < l.length) : (logCells l)[k * 5 + 4]? = some (.int .i64 l[k].2) := by
  induction l generalizing k with
  | nil => simp at h
  | cons a l ih =>
    have ha : (a.1.cells ++ [Value.int .i64 a.2]).length = 5 := rfl
    simp only [logCells, List.flatMap_cons]
    cases k with
    | zero =>
      rw [Nat.zero_mul, Nat.zero_add, List.getElem?_append_left (by omega)]
      rfl
    | succ k =>
      rw [List.getElem?_append_right (by omega), ha, show (k + 1) * 5 + 4 - 5 = k * 5 + 4 by omega]
      have := ih k (by simpa using h)
      simpa [logCells] using this
theorem log_read {w : World} {pb : Nat} {p : PartM} (h : PAt w pb p) : ∃ va vc ev iv, w.heap[pb]? = some (.cells #[.slice va p.log.length vc, ev, iv, .int .i64 p.at_] 44 (0, 0)) ∧
    ∀ k (hk : k < p.log.length), ∃ g, va = some ⟨g, 0, none⟩ ∧ (∃ o, w.heap[g]? = some o) ∧ ∀ w' : World, w'.heap[g]? = w.heap[g]? → cellOf w'.heap[g]? (k * 5 + 4) = some (.int .i64 p.log[k].2) := by
  obtain ⟨⟨lv, ev, iv, B, h1, ho, _, _⟩⟩ := h
  rcases ho with ⟨o1, ⟨rfl, h0⟩ | ⟨g, cap, cur, rfl, hg, hh, _, _, _, htk⟩⟩
  · refine ⟨none, 0, ev, iv, by rw [h1, h0], fun k hk => by omega⟩
  · refine ⟨_, cap, ev, iv, h1, fun k hk => ⟨g, rfl, ⟨_, hh⟩, fun w' hf => ?_⟩⟩
    have := logCells_get p.log k hk
    rw [hf, hh, cellOf_cells]
    rw [← htk, List.getElem?_take_of_lt (by omega)] at this
    simpa using this
end Go.Proofs.YtkafmfdipmhleaaGreatDoor

namespace Go.Proofs.YtkafmfdipmhleaaGreatDoor
open Go.RowKit Go.Maps

/-- A slice whose numbers read as l, in whatever block. -/
def IntsIn (w : World) (v : Value) (l : List Int) : Prop :=
  (l = [] ∧ ∃ a c, v = .slice a 0 c) ∨ ∃ b off cap, v = .slice (some ⟨b, off, none⟩) l.length cap ∧ ∀ j x, l[j]? = some x → w.cell? ⟨b, off + j, none⟩ = some (.int .i64 x)
theorem IntsIn.shape {w : World} {v : Value} {l : List Int} (h : IntsIn w v l) : ∃ a c, v = .slice a l.length c := by
  rcases h with ⟨rfl, a, c, e⟩ | ⟨b, off, cap, e, _⟩
  · exact ⟨a, c, e⟩
  · exact ⟨_, _, e⟩
theorem IntsIn.at {w : World} {a : Option Addr} {m c : Nat} {l : List Int} (h : IntsIn w (.slice a m c) l) (k : Nat) (x : Int) (hx : l[k]? = some x) : ∃ b off, a = some ⟨b, off, none⟩ ∧ ∀ w', New w w' → w'.cell? ⟨b, off + k, none⟩ = some (.int .i64 x) := by
  rcases h with ⟨rfl, _⟩ | ⟨b, off, cap, e, h2⟩
  · simp at hx
  · simp only [Value.slice.injEq] at e
    refine ⟨b, off, e.1, fun w' hf => ?_⟩
    have h0 := h2 k x hx
    have hlt := World.block_lt_of_cell? w _ h0
    rw [← h0]
    exact World.cell?_of_block (hf.block b hlt (fun f => f))
set_option maxRecDepth 100000 in
set_option maxHeartbeats 2000000 in
theorem few_in {w : World} {v : Value} {l : List Int} (h : IntsIn w v l) (n : Nat) (hn : n ≤ 1000) :
    Calls Tryz.prog 14 #[v, .int .i64 n] w (FewPost w l n) := by
  obtain ⟨a, c, rfl⟩ := h.shape
  have Hi := Lib.hid h
  obtain ⟨i0, hi, hz0, hz1, hz2⟩ := info_parts Tryz.info3z
  clear h
  go_enter Tryz.func14, Tryz.ntmps14
  go_wp2_with fail
  go_loopw [5, 6] (fun sv i wr => ∃ k : Nat, k ≤ n ∧ k ≤ l.length ∧ i = .int .i64 (k : Nat) ∧ wr.ownsRow w.heap.size 3 1 sv k ((l.take k).map encZ) ∧ New w wr) (fun _ i _ => n - (intOf i).toNat)
  case atStart => exact ⟨0, Nat.zero_le _, Nat.zero_le _, rfl, World.ownsRow_nil w w.heap.size 3 1, Fr.refl _ _⟩
  case round =>
    obtain ⟨k, hk, hkl, rfl, hown, hfr⟩ := hrel
    have Hown := Lib.hid hown
    have Hfr := Lib.hid hfr
    clear hown hfr
    by_cases h1 : k < l.length
    · by_cases h2 : k < n
      · obtain ⟨b, off, rfl, hcell⟩ := Hi.out.at k l[k] (by simp [h1])
        have hc := hcell wr Hfr.out
        have hk1 : (k : Int) < l.length := by omega
        have hk2 : (k : Int) < n := by omega
        have htk : l.take (k + 1) = l.take k ++ [l[k]] := List.take_succ_eq_append_getElem h1
        generalize l[k] = x at hc htk
        have Htk := Lib.hid htk
        have hoA := Lib.hid (Hown.out.alloc (.cells #[.int .i64 x] 3))
        have hnews : ∀ (j : Nat) (u : Value), [Value.int .i64 x][j]? = some u → (wr.alloc (.cells #[.int .i64 x] 3)).cell? ((⟨wr.heap.size, 0, none⟩ : Addr).add j) = some u := World.news_of_block (heap_alloc_new wr _)
        have Hnews := Lib.hid hnews
        clear htk hnews hcell
        have hkn : Hid (k < n ∧ k < l.length) := ⟨h2, h1⟩
        go_wp2_with (first
          | (at_builtin; refine wpList_append_own _ rfl _ _ 22 rfl w.heap.size 3 i0 (.int .i64 0) 1 8 Tryz.underlying22 hi hz0 hz1 hz2 rfl (by decide) _ _ _ rfl hoA.out ⟨wr.heap.size, 0, none⟩ 1 1 [.int .i64 x] rfl rfl Hnews.out (by intro u hu; simp at hu; subst hu; rfl) (by unfold maxLen; omega) (by omega) (by have := Hfr.out.size; simp; omega) ?_; intro sv' w1 hown1 hg1 _; go_frame)
          | fail)
        go_roundw
        case rel =>
          refine ⟨k + 1, hkn.out.1, hkn.out.2, by go_num, ?_, ?_⟩
          · rw [Htk.out, List.map_append]
            exact hown1
          · refine (Hfr.out.alloc _).trans' (Fr.ofGrown hg1) (fun i hi e => ?_)
            have := (Hown.out.lt i e).1
            omega
        case measure => have := hkn.out; simp [intOf]; omega
      · have hk2 : ¬ (k : Int) < n := by omega
        have hk1 : (k : Int) < l.length := by omega
        have he : Hid (k = n) := by show _ = _; omega
        go_wp2_with fail
        go_ret
        refine ⟨_, rfl, ?_, Hfr.out⟩
        have := Hown.out
        rw [he.out] at this
        rw [List.length_take, Nat.min_eq_left (by have := he.out; omega)]
        exact this
    · have hk1 : ¬ (k : Int) < l.length := by omega
      have he : Hid (k = l.length ∧ l.length ≤ n) := by show _ ∧ _; omega
      go_wp2_with fail
      go_ret
      refine ⟨_, rfl, ?_, Hfr.out⟩
      have := Hown.out
      rw [he.out.1, List.take_length] at this
      rw [List.take_of_length_le he.out.2]
      exact this


end Go.Proofs.YtkafmfdipmhleaaGreatDoor

namespace Go.Proofs.YtkafmfdipmhleaaGreatDoor
open Go.RowKit Go.Maps

def sp0 (r : List Int) (B lo : Nat) : StM := StM.fresh B 1 ⟨[], [], rest300 r, 0, lo⟩
theorem spNeed_succ (c : Int) (j : Nat) : spNeed c (j + 1) = spNeed c j + 2 * manyM c ((j : Int) + 1) + 2 := by
  show spNeed c j + 2 * manyM c ((j + 1 : Nat) : Int) + 2 = _
  rw [show ((j + 1 : Nat) : Int) = (j : Int) + 1 by omega]
theorem sp_meas (j k : Nat) (h : j < k) : k + 1 - ((j : Int) + 1 + 1).toNat < k + 1 - ((j : Int) + 1).toNat := by omega
theorem sp_all {c : Int} {r : List Int} {lo B : Nat} (hr : r.length ≤ 60) (hB0 : 1 ≤ B ∧ B ≤ 1000) (j : Nat) (hj : j ≤ 12) (hB : spNeed c j ≤ B) : SpI c (rest300 r) lo B j (spM c (sp0 r B lo) j) := spI_all hr hB0 j hj hB
theorem sp_sub {w : World} {q : Pl} {lo B j : Nat} {bl : List Nat} {c : Int} {r : List Int} {v : Value} (hr : r.length ≤ 60) (hB : 1 ≤ B ∧ B ≤ 1000) (hj : j < 12) (hBn : spNeed c (j + 1) ≤ B)
    (hs : StAt w q bl (spM c (sp0 r B lo) j)) (hv : StepsAt w v (kSteps ((j + 1 : Nat) : Int) (spN c (j + 1)))) :
    Calls Tryz.prog 18 #[.pointer (some ⟨q.xb, 0, none⟩), .int .i64 ((j + 1 : Nat) : Int), v] w fun e w' => e = .returned .nilIface ∧ (∃ bl', StAt w' q bl' (spSub c (spM c (sp0 r B lo) j) (j + 1))) ∧ FrK [0, 103, 104, 133, 80] w w' ∧ Low lo w w' := by
  have hI := sp_all (c := c) (lo := lo) hr hB j (by omega) (by have := spNeed_mono c j (j + 1) (by omega); omega)
  have hN := spN_range c (j + 1)
  have := Submit_calls (id := ((j + 1 : Nat) : Int)) (l := kSteps ((j + 1 : Nat) : Int) (spN c (j + 1))) hs hI.inv hv (kSteps_whole _ _ (by omega) (by omega)) (spI_new hI) (spI_room hI hBn)
  rw [show (spM c (sp0 r B lo) j).p.lo = lo from hI.lo] at this
  exact this
theorem sp_tick {w : World} {q : Pl} {lo B j : Nat} {bl : List Nat} {c : Int} {r : List Int} (hr : r.length ≤ 60) (hB : 1 ≤ B ∧ B ≤ 1000) (hj : j < 12) (hBn : spNeed c (j + 1) ≤ B)
    (hs : StAt w q bl (spSub c (spM c (sp0 r B lo) j) (j + 1))) :
    Calls Tryz.prog 20 #[.pointer (some ⟨q.xb, 0, none⟩)] w fun e w' => e = .returned .nilIface ∧ StAt w' q bl (spM c (sp0 r B lo) (j + 1)) ∧ FrK KT w w' ∧ Low lo w w' := by
  have hI := sp_all (c := c) (lo := lo) hr hB j (by omega) (by have := spNeed_mono c j (j + 1) (by omega); omega)
  obtain ⟨i1, i2, i3, i4, i5, i6⟩ := spI_sub hI hj hBn
  have hlen : (spSub c (spM c (sp0 r B lo) j) (j + 1)).sagas.length = j + 1 := by have := congrArg List.length i3; simpa using this
  have hck : (spSub c (spM c (sp0 r B lo) j) (j + 1)).clock = (j : Int) := hI.clock
  have := Tick_calls (m := 0) hs i1 (StM.fine.mono i2 (by rw [hlen]; omega)) (by rw [hck]; omega)
  rw [show (spSub c (spM c (sp0 r B lo) j) (j + 1)).p.lo = lo from hI.lo] at this
  exact this
theorem sp_tick2 {w : World} {q : Pl} {lo B k t : Nat} {bl : List Nat} {c : Int} {r : List Int} (hr : r.length ≤ 60) (hB : 1 ≤ B ∧ B ≤ 1000) (hk : k ≤ 12) (hBn : spNeed c k ≤ B) (ht : t < 120)
    (hs : StAt w q bl ((spM c (sp0 r B lo) k).ticks t)) :
    Calls Tryz.prog 20 #[.pointer (some ⟨q.xb, 0, none⟩)] w fun e w' => e = .returned .nilIface ∧ StAt w' q bl ((spM c (sp0 r B lo) k).ticks (t + 1)) ∧ FrK KT w w' ∧ Low lo w w' := by
  have hI := sp_all (c := c) (lo := lo) hr hB k hk hBn
  have hlen := spI_len hI
  have hb : (t + 1) * (sp0 r B lo |> fun s => (spM c s k).sagas.length) ≤ 120 * 12 := by
    show (t + 1) * (spM c (sp0 r B lo) k).sagas.length ≤ _
    rw [show (spM c (sp0 r B lo) k).sagas.length = k from hlen]; exact Nat.mul_le_mul (by omega) hk
  have hb' : t * (spM c (sp0 r B lo) k).sagas.length + (spM c (sp0 r B lo) k).sagas.length ≤ 1440 := by
    have := hb
    simp only at this
    rw [Nat.add_mul, Nat.one_mul] at this; omega
  obtain ⟨a1, a2, a3, a4⟩ := ticks_inv (m := (spM c (sp0 r B lo) k).sagas.length) hI.inv t (StM.fine.mono hI.fine (by show (spM c (sp0 r B lo) k).sagas.length + t * (spM c (sp0 r B lo) k).sagas.length ≤ _; omega))
  have := Tick_calls (m := 0) hs a1 (by rw [a4, Nat.zero_add]; exact a2) (by rw [a3, hI.clock]; omega)
  rw [show ((spM c (sp0 r B lo) k).ticks t).p.lo = lo from (ticks_lo _ t).trans hI.lo] at this
  exact this
theorem stCells_at (l : List SagaM) (t o : Nat) (g : SagaM) (u : Value) (hg : l[t]? = some g) (hu : g.status.toList[o]? = some u) : (stCells l)[t * 6 + o]? = some u := by
  have hs : g.status.toList.length = 6 := rfl
  induction l generalizing t with
  | nil => simp at hg
  | cons a l ih =>
    have e : stCells (a :: l) = a.status.toList ++ stCells l := by simp [stCells]
    have ha : a.status.toList.length = 6 := rfl
    rw [e]
    cases t with
    | zero =>
      simp at hg
      subst hg
      have ho : o < a.status.toList.length := (List.getElem?_eq_some_iff.1 hu).1
      rw [Nat.zero_mul, Nat.zero_add, List.getElem?_append_left ho]; exact hu
    | succ t =>
      rw [List.getElem?_append_right (by omega), ha, show (t + 1) * 6 + o - 6 = t * 6 + o by omega]
      exact ih t (by simpa using hg)
theorem st_cells {w : World} {B gb n cap : Nat} {l : List SagaM} (h : w.ownsRow B 38 6 (.slice (some ⟨gb, 0, none⟩) n cap) n (stCells l)) (t : Nat) (g : SagaM) (hg : l[t]? = some g) :
    w.cell? ⟨gb, t * 6, none⟩ = some (.int .i64 g.id) ∧ w.cell? ⟨gb, t * 6 + 1, none⟩ = some (.int .i64 g.st) ∧ w.cell? ⟨gb, t * 6 + 2, none⟩ = some (.int .i64 g.step) ∧ w.cell? ⟨gb, t * 6 + 3, none⟩ = some (.int .i64 g.steps.length) ∧ w.cell? ⟨gb, t * 6 + 4, none⟩ = some (.int .i64 g.tries) ∧ w.cell? ⟨gb, t * 6 + 5, none⟩ = some (.int .i64 g.due) := by
  have key : ∀ (o : Nat) (u : Value), g.status.toList[o]? = some u → w.cell? ⟨gb, t * 6 + o, none⟩ = some u := by
    intro o u hu
    have hx := stCells_at l t o g u hg hu
    have := h.cellAt (t * 6 + o) (by have := h.1; have := (List.getElem?_eq_some_iff.1 hx).1; omega)
    rw [this]; exact hx
  exact ⟨key 0 _ rfl, key 1 _ rfl, key 2 _ rfl, key 3 _ rfl, key 4 _ rfl, key 5 _ rfl⟩
set_option maxRecDepth 100000 in
set_option maxHeartbeats 4000000 in
theorem Spare_calls {w : World} {c n : Int} {v : Value} {l : List Int} (hv : IntsIn w v l) (hc : i64 c) (hn : i64 n) :
    Calls Tryz.prog 6 #[.int .i64 c, v, .int .i64 n] w fun e w' => e = .returned (.bool true) ∧ Low w.heap.size w w' := by
  have HFew := Lib.hid (few_in hv 60 (by omega))
  have hkz : 1 ≤ 1 + pickM n 12 ∧ 1 + pickM n 12 ≤ 12 := by have := pickM_range n 12 (by omega); omega
  have hw2 : wrap64 (pickM n 12 + 1) = 1 + pickM n 12 := by rw [Int.add_comm]; exact wrap_in _ (by omega)
  have hw2' : wrap64 (1 + pickM n 12) = 1 + pickM n 12 := wrap_in _ (by omega)
  have Hc := Lib.hid hc
  have Hn := Lib.hid hn
  clear hv hc hn
  go_enter Tryz.func6, Tryz.ntmps6
  go_upto_region 2 with (first
    | (go_at_call 14; refine Calls.mono HFew.out ?_; rintro e w1 ⟨v1, rfl, hown1, hf1⟩)
    | (refine wpl_append_zeros rfl (.tmp 22) (.const (.int .i64 300)) rfl w.heap.size v1 (l.take 60).length 300 ((l.take 60).map encZ) rfl hown1 rfl (by omega) (by rw [List.length_take]; omega) hf1.size ?_; intro v2 w2 hown2 hg2)
    | fail)
  have hown2' : w2.ownsRow w.heap.size 3 1 v2 (rest300 (l.take 60)).length ((rest300 (l.take 60)).map encZ) := by
    have e1 : (rest300 (l.take 60)).length = (l.take 60).length + 300 := by rw [rest300, List.length_append, List.length_replicate]
    have e2 : (rest300 (l.take 60)).map encZ = (l.take 60).map encZ ++ List.replicate 300 (.int .i64 0) := by rw [rest300, List.map_append, List.map_replicate]
    rw [e1, e2]; exact hown2
  have hL2 : Low w.heap.size w w2 := (hf1.low (Nat.le_refl _) (fun _ f => f.elim)).trans ((Fr.ofGrown hg2).low hf1.size (fun k hk => (hown1.lt k hk).1))
  have hr60 : (l.take 60).length ≤ 60 := by rw [List.length_take]; omega
  have Hown2 := Lib.hid hown2'
  have HL2 := Lib.hid hL2
  have Hr60 := Lib.hid hr60
  clear hown1 hf1 hown2 hg2 hown2' hL2 hr60
  generalize l.take 60 = r at Hown2 Hr60
  have hlenR : (rest300 r).length ≤ 1000 := by rw [rest300, List.length_append, List.length_replicate]; have := Hr60.out; omega
  have HNP := Lib.hid (NewPartner_calls (own_ints Hown2.out) hlenR w.heap.size HL2.out.size)
  clear hlenR
  generalize hRR : rest300 r = R at HNP Hown2
  have HRR := Lib.hid hRR
  clear hRR
  go_upto_region 3 with (first
    | (go_at_call 15; refine Calls.mono HNP.out ?_; rintro e w3 ⟨pb, rfl, hpb, hp3, hf3⟩)
    | fail)
  have HP2 := Lib.hid (pick_calls w3 n 12 Hn.out (by omega))
  have Hp3 := Lib.hid hp3
  have HL3 := Lib.hid (HL2.out.trans (hf3.low HL2.out.size (fun _ f => f.elim)))
  clear hp3 hf3 hpb HFew HNP
  go_upto_region 4 with (first
    | (go_at_call 16; refine Calls.mono HP2.out ?_; rintro e w4 ⟨rfl, rfl⟩)
    | fail)
  obtain ⟨k, hk⟩ : ∃ k : Nat, 1 + pickM n 12 = (k : Int) := ⟨(1 + pickM n 12).toNat, by omega⟩
  have hk12 : Hid (1 ≤ k ∧ k ≤ 12) := by show _ ∧ _; omega
  rw [hk]
  clear hw2 hw2' hkz hk HP2
  go_wp2_with fail
  go_loopw [10, 11] (fun nd i wr => ∃ j : Nat, j ≤ k ∧ i = .int .i64 ((j : Int) + 1) ∧ nd = .int .i64 (spNeed c j) ∧ wr = w4) (fun _ i _ => k + 1 - (intOf i).toNat)
  case atStart => exact ⟨0, Nat.zero_le _, rfl, rfl, rfl⟩
  case round =>
    obtain ⟨j, hj, rfl, rfl, rfl⟩ := hrel
    have Hj := Lib.hid hj
    clear hj
    by_cases hjk : j < k
    · have hlt : ((j : Int) + 1) ≤ k := by omega
      have HM := Lib.hid (many_calls wr c ((j : Int) + 1) Hc.out (by have := hk12.out; omega))
      have hm6 := manyM_range c ((j : Int) + 1)
      have hnr := spNeed_range c j
      have hw3 : wrap64 (2 * manyM c ((j : Int) + 1)) = 2 * manyM c ((j : Int) + 1) := wrap_in _ (by omega)
      have hw4 : wrap64 (spNeed c j + 2 * manyM c ((j : Int) + 1)) = spNeed c j + 2 * manyM c ((j : Int) + 1) := wrap_in _ (by have := hk12.out; omega)
      have hw5 : wrap64 (spNeed c j + 2 * manyM c ((j : Int) + 1) + 2) = spNeed c j + 2 * manyM c ((j : Int) + 1) + 2 := wrap_in _ (by have := hk12.out; omega)
      have hw6 : wrap64 (((j : Int) + 1) + 1) = (j : Int) + 1 + 1 := wrap_in _ (by have := hk12.out; omega)
      have Hjk := Lib.hid hjk
      clear hm6 hnr hjk
      go_wp2_with (first
        | (go_at_call 24; refine Calls.mono HM.out ?_; rintro e w4 ⟨rfl, rfl⟩)
        | fail)
      go_roundw
      case rel => exact ⟨j + 1, Hjk.out, by simp [hw6], by simp only [hw3, hw4, hw5, spNeed_succ], by first | rfl | trivial⟩
      case measure =>
        have h9 := Hjk.out
        generalize wrap64 ((j : Int) + 1 + 1) = z at hw6 ⊢
        subst hw6
        clear hw3 hw4 hw5 hlt
        exact sp_meas j k h9
    · obtain rfl : j = k := by have := Hj.out; omega
      have hnlt : ¬ (((j : Int) + 1) ≤ j) := by omega
      have hnr := spNeed_range c j
      have hn8 : ¬ (spNeed c j < 8) := by have := hk12.out; omega
      obtain ⟨B, hB⟩ : ∃ B : Nat, spNeed c j = (B : Int) := ⟨(spNeed c j).toNat, by have := hk12.out; omega⟩
      have hB8 : Hid (8 ≤ B ∧ B ≤ 400 ∧ spNeed c j ≤ B) := by show _ ∧ _; have := hk12.out; omega
      have HB := Lib.hid (begun_calls (n := B) Hp3.out (by have := hB8.out; omega) (pause := 1) (by omega))
      rw [hB] at hn8 ⊢
      clear hnr hjk
      have hB' := Lib.hid hB
      clear hB
      go_upto_region 14 with (first
        | (go_at_call 17; refine Calls.mono HB.out ?_; rintro e w6 ⟨q, hqp, rfl, hs6, hl6, hz6⟩)
        | fail)
      have HL6 := Lib.hid (HL3.out.trans hl6)
      have hs6' : StAt w6 q [] (spM c (sp0 r B w.heap.size) 0) := by
        show StAt w6 q [] (StM.fresh B 1 ⟨[], [], rest300 r, 0, w.heap.size⟩)
        rw [HRR.out]; exact hs6
      have Hs6 := Lib.hid hs6'
      clear hs6 hs6' hl6 hz6 hn8 hnlt
      have Hqp := Lib.hid hqp
      clear hqp
      have hk12' := Lib.hid hk12.out
      go_wp2_with fail
      go_loopw [14] (fun i wr => ∃ m : Nat, m ≤ j ∧ i = .int .i64 ((m : Int) + 1) ∧ (∃ bl, StAt wr q bl (spM c (sp0 r B w.heap.size) m)) ∧ Low w.heap.size w wr) (fun i _ => j + 1 - (intOf i).toNat)
      case atStart => exact ⟨0, Nat.zero_le _, rfl, ⟨_, Hs6.out⟩, HL6.out⟩
      case round =>
        obtain ⟨m, hm, rfl, ⟨bl, hsm⟩, hlm⟩ := hrel
        have Hsm := Lib.hid hsm
        have Hlm := Lib.hid hlm
        have Hm := Lib.hid hm
        clear hsm hlm hm
        by_cases hmj : m < j
        · have Hmj := Lib.hid hmj
          have hlt : (m : Int) + 1 ≤ j := by omega
          have hnum : Hid (spNeed c (m + 1) ≤ B) := by
            have h1 := spNeed_mono c (m + 1) j Hmj.out
            have h2 := hB8.out.2.2
            show _ ≤ _; omega
          have hsn := (spN_range c (m + 1)).2.2
          rw [show ((m + 1 : Nat) : Int) = (m : Int) + 1 by omega] at hsn
          have HM := Lib.hid (many_calls wr c ((m : Int) + 1) Hc.out (by have := hk12.out; omega))
          have HS := Lib.hid (steps_calls wr ((m : Int) + 1) (spN c (m + 1)) (by have := hk12.out; omega) (by have := spN_range c (m + 1); omega))
          have HSub := Lib.hid (fun (w7 : World) (v : Value) (hf7 : New wr w7) (hv : StepsAt w7 v (kSteps ((m + 1 : Nat) : Int) (spN c (m + 1)))) => sp_sub Hr60.out (by have := hB8.out; omega) (by have := hk12.out; have := Hmj.out; omega) hnum.out (Hsm.out.keepK (hf7.toK (K := []) (fun _ _ f _ => f.elim)) (by simp)) hv)
          rw [show ((m + 1 : Nat) : Int) = (m : Int) + 1 by omega] at HSub
          have HT := Lib.hid (fun (w8 : World) (bl' : List Nat) (hs8 : StAt w8 q bl' (spSub c (spM c (sp0 r B w.heap.size) m) (m + 1))) => sp_tick Hr60.out (by have := hB8.out; omega) (by have := hk12.out; have := Hmj.out; omega) hnum.out hs8)
          have hsn' := Lib.hid hsn
          clear hmj
          rw [hsn] at HS
          clear hsn
          go_upto_region 16 with (first
            | (go_at_call 24; refine Calls.mono HM.out ?_; rintro e w7 ⟨rfl, rfl⟩)
            | (go_at_call 19; refine Calls.mono HS.out ?_; rintro e w7 ⟨sv, rfl, hsv, hf7⟩; obtain ⟨sa, sn, sc, rfl⟩ := own_slice hsv)
            | (go_at_call 18; refine Calls.mono (HSub.out _ _ hf7 (hsv.at (by rw [kSteps_len]; have := spN_range c (m + 1); omega))) ?_; rintro e w8 ⟨rfl, ⟨bl', hs8⟩, hk8, hl8⟩)
            | (go_at_call 20; refine Calls.mono (HT.out _ _ hs8) ?_; rintro e w9 ⟨rfl, hs9, hk9, hl9⟩)
            | fail)
          have HL9 := Lib.hid ((Hlm.out.trans (hf7.low Hlm.out.size (fun _ f => f.elim))).trans (hl8.trans hl9))
          have Hs9 := Lib.hid hs9
          have hw6 : wrap64 ((m : Int) + 1 + 1) = (m : Int) + 1 + 1 := wrap_in _ (by have := hk12.out; have := Hmj.out; omega)
          clear hf7 hsv hs8 hk8 hl8 hs9 hk9 hl9
          go_wp2_with fail
          go_roundw
          case rel => exact ⟨m + 1, Hmj.out, by simp [hw6], ⟨bl', Hs9.out⟩, HL9.out⟩
          case measure =>
            have h9 := Hmj.out
            generalize wrap64 ((m : Int) + 1 + 1) = z at hw6 ⊢
            subst hw6
            clear hlt
            exact sp_meas m j h9
        · obtain rfl : m = j := by have := Hm.out; omega
          have hnlt : ¬ ((m : Int) + 1 ≤ m) := by omega
          have hI := sp_all (c := c) (r := r) (lo := w.heap.size) (B := B) Hr60.out (by have := hB8.out; omega) m (by have := hk12.out; omega) hB8.out.2.2
          have HI := Lib.hid hI
          have HEnd := Lib.hid (spI_end Hr60.out hI (by have := hk12.out; omega))
          have HTk := Lib.hid (fun (t : Nat) (w8 : World) (ht : t < 120) (hs8 : StAt w8 q bl ((spM c (sp0 r B w.heap.size) m).ticks t)) => sp_tick2 Hr60.out (by have := hB8.out; omega) (by have := hk12.out; omega) hB8.out.2.2 ht hs8)
          generalize hSS : spM c (sp0 r B w.heap.size) m = S0 at Hsm HI HEnd HTk
          clear hI hSS hmj
          go_wp2_with fail
          go_loopw [16] (fun i wr => ∃ t : Nat, t ≤ 120 ∧ i = .int .i64 (t : Nat) ∧ StAt wr q bl (S0.ticks t) ∧ Low w.heap.size w wr) (fun i _ => 120 - (intOf i).toNat)
          case atStart => exact ⟨0, Nat.zero_le _, rfl, Hsm.out, Hlm.out⟩
          case round =>
            obtain ⟨t, ht, rfl, hst, hlt⟩ := hrel
            have Hst := Lib.hid hst
            have Hlt := Lib.hid hlt
            have Ht := Lib.hid ht
            clear hst hlt ht
            by_cases htT : t < 120
            · have HTk1 := Lib.hid (HTk.out t _ htT Hst.out)
              have htI : (t : Int) < 120 := by omega
              have htl := Lib.hid htT
              clear htT
              go_wp2_with (first
                | (go_at_call 20; refine Calls.mono HTk1.out ?_; rintro e w9 ⟨rfl, hs9, hk9, hl9⟩)
                | fail)
              go_roundw
              case rel => exact ⟨t + 1, htl.out, by go_num, hs9, Hlt.out.trans hl9⟩
              case measure => have := htl.out; simp [intOf]; omega
            · obtain rfl : t = 120 := by have := Ht.out; omega
              obtain ⟨e1, e2, e3, e4, e5, e6⟩ := HEnd.out
              generalize S0.ticks 120 = S at Hst e1 e2 e3 e4 e5 e6
              have Htl := Lib.hid (show S.sagas.length ≤ 12 by rw [e5]; exact hk12.out.2)
              have HA := Lib.hid (All_calls Hst.out e3.ord (fun g hg => ⟨(e3.ok g hg).1, (e3.ok g hg).2.1⟩) (by have := Htl.out; omega))
              have E1 := Lib.hid e1
              have E2 := Lib.hid e2
              have E3 := Lib.hid e3
              have E4 := Lib.hid e4
              have E5 := Lib.hid e5
              have E6 := Lib.hid e6
              clear e1 e2 e3 e4 e5 e6 htT
              go_upto_region 30 with (first
                | (go_at_call 32; refine Calls.mono HA.out ?_; rintro e w10 ⟨lv, rfl, hown, hbel⟩; obtain ⟨va, vc, rfl, hva⟩ : ∃ va vc, lv = .slice va S.sagas.length vc ∧ (S.sagas.length = 0 ∨ ∃ g, va = some ⟨g, 0, none⟩) := (by
                    rcases hown.2 with ⟨h1, h2⟩ | ⟨g, cap, cur, h1, _⟩
                    · exact ⟨none, 0, by rw [h1, h2], .inl h2⟩
                    · exact ⟨some ⟨g, 0, none⟩, cap, h1, .inr ⟨g, rfl⟩⟩))
                | fail)
              have hs10 := Hst.out.keepK (below_toK hbel (Nat.le_refl _) []) (by simp)
              have hpt := hs10.pt
              rw [Hqp.out] at hpt
              have Hpt := Lib.hid hpt
              have Hdk := Lib.hid hs10.dk
              have HL10 := Lib.hid (Hlt.out.trans (show Low w.heap.size _ w10 from ⟨hbel.os, hbel.tape, hbel.output, hbel.size, fun k hk => hbel.block k (by have := Hlt.out.size; omega)⟩))
              have Hown := Lib.hid hown
              have Hva := Lib.hid hva
              clear hs10 hpt hown hva hbel
              go_wp2_with fail
              go_loopw [19] (fun i wr => ∃ t : Nat, t ≤ S.sagas.length ∧ i = .int .i64 (t : Nat) ∧ New w10 wr) (fun i _ => S.sagas.length - (intOf i).toNat)
              case atStart => exact ⟨0, Nat.zero_le _, rfl, Fr.refl _ _⟩
              case round =>
                obtain ⟨t, ht, rfl, hf11⟩ := hrel
                have Ht2 := Lib.hid ht
                have Hf11 := Lib.hid hf11
                clear ht hf11
                by_cases htl : t < S.sagas.length
                · obtain ⟨gb, rfl⟩ : ∃ gb, va = some ⟨gb, 0, none⟩ := by
                    rcases Hva.out with h | h
                    · omega
                    · exact h
                  obtain ⟨g, hg⟩ : ∃ g, S.sagas[t]? = some g := ⟨S.sagas[t], List.getElem?_eq_getElem htl⟩
                  have htI : (t : Int) < S.sagas.length := by omega
                  obtain ⟨c0, c1, c2, c3, c4, c5⟩ := st_cells (own_New Hown.out Hf11.out) t g hg
                  have hmem := List.mem_of_getElem? hg
                  have hrch : reachedM S.p.effs g.id g.st g.steps.length = true := agree_reached (E1.out.ag g hmem)
                  have hst3 := E2.out g hmem
                  have heff : S.p.effs.length < 2 ^ 30 := by have := E4.out.2.1; omega
                  have HRch := Lib.hid (fun (w' : World) (hf : New wr w') => reached_calls (w := w') (p := S.p) (Hpt.out.keep (Nat.le_trans Hf11.out.size hf.size) (fun _ _ ho _ => hf.get (Hf11.out.get ho (fun f => f)) (fun f => f))) heff g.id g.st g.step g.steps.length g.tries g.due)
                  rw [hrch] at HRch
                  have HRc := Lib.hid (HRch.out wr (Fr.refl _ _))
                  have Hc1 := Lib.hid c1
                  have Htl2 := Lib.hid htl
                  clear hmem hrch heff hg htl
                  have hnst : ¬ (g.st < 3) := by omega
                  clear hst3
                  go_upto_region 32 with (first
                    | (go_at_call 23; refine Calls.mono HRc.out ?_; rintro e w13 ⟨rfl, hf13⟩; have d1 : w13.cell? ⟨gb, t * 6 + 1, none⟩ = some (.int .i64 g.st) := (World.cell?_of_block (hf13.block gb (World.block_lt_of_cell? wr _ Hc1.out) (fun f => f))).trans Hc1.out)
                    | fail)
                  have HN13 := Lib.hid (Hf11.out.trans hf13)
                  clear hf13 c0 c1 c2 c3 c4 c5 d1
                  have hl12 := Htl.out
                  go_wp2_with fail
                  go_roundw
                  case rel => exact ⟨t + 1, Htl2.out, by go_num, HN13.out⟩
                  case measure => have := Htl2.out; simp [intOf]; omega
                · obtain rfl : t = S.sagas.length := by have := Ht2.out; omega
                  have hnt : ¬ ((S.sagas.length : Int) < S.sagas.length) := by omega
                  have HTd := Lib.hid (Told_calls (Hdk.out.new Hf11.out))
                  rw [E6.out] at HTd
                  have hlm : (S.sagas.length : Int) = m := by rw [E5.out]
                  have HLf := Lib.hid (HL10.out.trans (Hf11.out.low HL10.out.size (fun _ f => f.elim)))
                  go_wp2_with (first
                    | (go_at_call 33; refine Calls.mono HTd.out ?_; rintro e w14 ⟨rfl, rfl⟩)
                    | fail)
                  go_ret
                  exact ⟨rfl, HLf.out⟩
end Go.Proofs.YtkafmfdipmhleaaGreatDoor

namespace Go.Proofs.YtkafmfdipmhleaaGreatDoor
open Go.ChangeShapes Go.WideShapes Go.RowKit

theorem Tryz.own : ownKnob Tryz.prog.godebug = none := by kernel_rfl
/-- A world that meets the condition: the settled one, the variable's cell laid. -/
noncomputable def laidWorld (os : Os) : World :=
  let w0 := World.holding Tryz.prog os ⟨#[], #[], []⟩
  { w0 with heap := w0.heap.modify 0 fun
      | .cells _ t frozen => .cells #[.iface 176 (.agg #[.pointer (some ⟨1, 32, none⟩)])] t frozen
      | o => o }
theorem laidWorld_met (os : Os) (args : Array Value) : laidMetH Tryz.prog [("errors.errorType", Rows.laid_errors_errorType)] ((laidWorld os).forCall (fun _ _ => 0) ⟨#[], args, []⟩).memory :=
  laidMetH_of_parts (laidMet_nil _ _) (by kernel_rfl)
theorem Tryz.et : Tryz.prog.globalNamed "errors.errorType" = some 0 := by kernel_rfl
theorem Tryz.rt : (Tryz.prog.cutTypes.find? (·.1 == "internal/reflectlite.rtype")).map (·.2) = some 176 := by kernel_rfl
set_option maxRecDepth 1000000 in
theorem Tryz.oneRow : ((List.range Tryz.prog.types.size).filter fun t => Tryz.prog.rowNamed t [101, 114, 114, 111, 114]) = [32] := by kernel_rfl
/-- What the condition gives a walk: the variable's one cell. -/
theorem handle_of_laid {W : World} (h : laidMetH Tryz.prog [("errors.errorType", Rows.laid_errors_errorType)] W) : W.cell? ⟨0, 0, none⟩ = some (.iface 176 (.agg #[.pointer (some ⟨1, 32, none⟩)])) := by
  have h' : laidMet Tryz.prog [] W ∧ handlesMet Tryz.prog [("errors.errorType", Rows.laid_errors_errorType)] W := h
  obtain ⟨name, u, ty, e1, e2, e3, e4, e5⟩ := h'.2 _ (List.mem_singleton.2 rfl)
  have en : name = [101, 114, 114, 111, 114] := (Option.some.inj e1).symm
  subst en
  obtain rfl := Option.some.inj (Tryz.rt.symm.trans e2)
  have hm : ty ∈ (List.range Tryz.prog.types.size).filter fun t => Tryz.prog.rowNamed t [101, 114, 114, 111, 114] := List.mem_filter.2 ⟨List.mem_range.2 e3, e4⟩
  rw [Tryz.oneRow] at hm
  obtain rfl := List.mem_singleton.1 hm
  have hh : typeHandle Tryz.prog 32 = .pointer (some ⟨1, 32, none⟩) := by kernel_rfl
  rw [hh] at e5
  simpa using World.var?_cell Tryz.et e5 0
end Go.Proofs.YtkafmfdipmhleaaGreatDoor

namespace Go.Proofs.YtkafmfdipmhleaaGreatDoor
open Go.ChangeShapes Go.WideShapes Go.RowKit

theorem cells3' : Tryz.prog.cellsOf 3 = 1 := by kernel_rfl
/-- How a slice of ints that came in reads. -/
theorem ints_open' {H : Type} {enc : TypeId × Value → H} {W : World} {base : Nat} {a : Option Addr} {len cap : Nat} {d : DataW H} {p : List MemPlace} {sp : Nat → Bool} {held : Bool} (h : DataW.Trod enc Tryz.prog W base sp held 22 (.slice a len cap) d p) : ∃ l, IntsIn W (.slice a len cap) l := by
  obtain ⟨fuel, hf⟩ := h
  rcases open_ints Tryz.underlying22 Tryz.underlying3 cells3' hf with ⟨hcs, hx⟩ | ⟨ad, len', cap', zs, hcs, _, hl, hm, hz, hx, hcell, hwz⟩
  · simp [Value.cells] at hcs
    obtain ⟨rfl, rfl, rfl⟩ := hcs
    exact ⟨[], .inl ⟨rfl, none, 0, rfl⟩⟩
  · simp [Value.cells] at hcs
    obtain ⟨rfl, rfl, rfl⟩ := hcs
    have hlz : len ≤ zs.length := by rw [hz]; split <;> omega
    by_cases h0 : len = 0
    · subst h0
      exact ⟨[], .inl ⟨rfl, some ad, cap, rfl⟩⟩
    · obtain ⟨b, off, spot⟩ := ad
      have hspot : spot = none := by simpa [Addr.add] using World.cell?_spot (hcell 0 (by omega))
      subst hspot
      refine ⟨zs.take len, .inr ⟨b, off, cap, ?_, fun j x hx => ?_⟩⟩
      · rw [List.length_take, Nat.min_eq_left hlz]
      · have hj := (List.getElem?_eq_some_iff.1 hx).1
        rw [List.length_take] at hj
        rw [List.getElem?_take_of_lt (by omega)] at hx
        have := hcell j (by omega)
        rw [add_plain] at this
        rw [this, List.getD_eq_getElem?_getD, hx]; rfl
set_option maxRecDepth 100000 in
theorem spare_lifted (os : Os) (started : os.Started) (H : Type) (enc : TypeId × Value → H) :
    ReturnsInHanded {} Tryz.checked os 6 .any (fun w args => (Rows.spareSpec.pre enc Tryz.prog Tryz.f6 [] false w args ∧ laidMetH Tryz.prog [("errors.errorType", Rows.laid_errors_errorType)] w) ∧ sizedMet enc Tryz.prog Tryz.f6 (OpenSpec.ofChange Rows.spareSpec) false w args)
      (Rows.spareSpec.post enc Tryz.prog Tryz.f6 false true false false) := by
  refine returnsInHanded_of_change_and (C := Tryz.checked) (X := fun w _ => laidMetH Tryz.prog [("errors.errorType", Rows.laid_errors_errorType)] w) (fun _ _ _ hh h => h.of_heap hh) Tryz.own started (by kernel_rfl) Tryz.func6
    (ChangeSpec.witness_at (enc := enc) (C := Tryz.checked) (os := os) (X := fun w _ => laidMetH Tryz.prog [("errors.errorType", Rows.laid_errors_errorType)] w) false (laidWorld os) #[.int .i64 0, .slice none 0 0, .int .i64 0] 8 rfl (by kernel_rfl) (by kernel_rfl) (by kernel_rfl) (by kernel_rfl) (by kernel_rfl) (laidWorld_met os _)) ?_
  intro W base args ds gs before hval0 hW _ _ hL _
  have hval : ∀ (j : Nat) t v, Tryz.f6.params[j]? = some t → args[j]? = some v → Value.okWide Tryz.prog W .any base t v := hval0
  have hW' := hW
  obtain ⟨p, q, hA0, hV0, rfl, hfz, hnd⟩ := hW
  have hA : DataW.TrodAll enc Tryz.prog W 0 (fun _ => true) true Tryz.f6.params.toList args.toList ds p := hA0
  have hV : DataW.TrodVars enc Tryz.prog W (fun _ => true) [] gs q := hV0
  rw [Tryz.params6] at hA hval
  obtain ⟨v0, v1, v2, d0, d1, d2, p0, p1, p2, rfl, rfl, rfl, h0, h1, h2⟩ := trodAll_three hA
  obtain ⟨c, rfl, rfl, rfl, hwc⟩ := open_int Tryz.underlying3 (hval 0 3 v0 rfl rfl) h0
  obtain ⟨n, rfl, rfl, rfl, hwn⟩ := open_int Tryz.underlying3 (hval 2 3 v2 rfl rfl) h2
  obtain ⟨a, len, cap, rfl⟩ := okWide_slice Tryz.underlying22 (hval 1 22 v1 rfl rfl)
  obtain ⟨l, hl⟩ := ints_open' h1
  obtain ⟨rfl, rfl⟩ : gs = [] ∧ q = [] := by
    cases gs with
    | nil => exact ⟨rfl, hV⟩
    | cons g r => exact absurd hV (by intro h; cases h)
  have hc : i64 c := by simp [Lit.wf] at hwc; exact hwc
  have hn : i64 n := by simp [Lit.wf] at hwn; exact hwn
  have e1 : Rows.spareSpec.fn H ([.lit (.int .i64 c), d1, .lit (.int .i64 n)] ++ []) = { results := [.lit (.bool true)], args := [.lit (.int .i64 c), d1, .lit (.int .i64 n)] } := rfl
  have hlt : ∀ x ∈ p1, x.block < W.heap.size := fun x hx => hW'.lt x (by simp [hx])
  refine (Spare_calls hl hc hn).mono fun e W' ⟨he, hlow⟩ => ?_
  subst he
  have hb := hlow.below
  refine ⟨_, rfl, _, _, _, [], [] ++ (p1 ++ []), [], hW', ?_, ?_, ?_, hb.frame _, fun h => by cases h⟩
  · rw [e1]; exact trodAll_mk1 (shut_bool Tryz.underlying4 true)
  · rw [e1]; exact trodAll_mk3 (shut_int Tryz.underlying3 hwc) (Below.trod (by kernel_rfl) (by kernel_rfl) (of_decide_eq_true (by kernel_rfl)) h1 hb hlt) (shut_int Tryz.underlying3 hwn)
  · rw [e1]; rfl

theorem spare_said : Rows.SpareSaid :=
  OpenClaim.holds_of_wide 6 Tryz.f6 rfl rfl rfl rfl rfl rfl rfl ⟨rfl, rfl, rfl, rfl, rfl⟩ rfl rfl rfl rfl rfl (by kernel_rfl) Tryz.func6 (by kernel_rfl)
    (of_decide_eq_true (by kernel_rfl)) (by unfold Func.isWrapper; rw [if_neg (of_decide_eq_false (by kernel_rfl))]; exact ⟨rfl, rfl⟩)
    (fun os started H enc _ => spare_lifted os started H enc)
/-- The given statement, tied to the program's text. -/
theorem spare_holds : Rows.SpareCardSaid :=
  Claim7.holds_tied_plain_at .later [] [.handle] true (true, "500ca5754671a5e02e1cafc7ae1f070d50fdff4f9b7bc823d05bb60165e94295") true
    spare_said (fun _ h => by cases h) (by kernel_rfl) (fun _ h => by cases h) spare_row_tie rfl ⟨rfl, rfl⟩ (by kernel_rfl) rfl
    (fun f fn hf hfn => by
      obtain rfl : f = 6 := Option.some.inj ((show Tryz.prog.funcNamed "sagas/sagaskeep.Spare" = some 6 by kernel_rfl).symm.trans hf) |>.symm
      obtain rfl : fn = Tryz.f6 := (Option.some.inj (Tryz.func6.symm.trans hfn)).symm
      exact ⟨by kernel_rfl, fun j t ht => by
        rw [Tryz.params6] at ht
        have hm : t ∈ [3, 22, 3] := by simpa using Array.mem_of_getElem? ht
        have hall : ([3, 22, 3].all fun u => !Tryz.prog.wantsStandIn u) = true := by kernel_rfl
        exact (show Tryz.prog.wantsStandIn t = false by simpa using List.all_eq_true.1 hall t hm)⟩)
    (by kernel_rfl)
#print axioms spare_holds
end Go.Proofs.YtkafmfdipmhleaaGreatDoor
