/-
  What is proved: the contract of the helper few, of a slice wherever it lies.
-/
import Derived.Test.YtkafmfdipmhleaaGreatDoorKp
namespace Go.Proofs.YtkafmfdipmhleaaGreatDoor
open Go.RowKit Go.Maps

/-- A slice whose numbers read as l, in whatever block. -/
def IntsIn (w : World) (v : Value) (l : List Int) : Prop :=
  (l = [] ∧ ∃ a c, v = .slice a 0 c) ∨ ∃ b off cap, v = .slice (some ⟨b, off, none⟩) l.length cap ∧ ∀ j x, l[j]? = some x → w.cell? ⟨b, off + j, none⟩ = some (.int .i64 x)
theorem IntsIn.shape {w : World} {v : Value} {l : List Int} (h : IntsIn w v l) : ∃ a c, v = .slice a l.length c := by
  rcases h with ⟨rfl, a, c, e⟩ | ⟨b, off, cap, e, _⟩
  · exact ⟨a, c, e⟩
  · exact ⟨_, _, e⟩
theorem IntsIn.at {w : World} {a : Option Addr} {m c : Nat} {l : List Int} (h : IntsIn w (.slice a m c) l) (k : Nat) (x : Int) (hx : l[k]? = some x) : ∃ b off, a = some ⟨b, off, none⟩ ∧ ∀ w', New w w' → w'.cell? ⟨b, off + k, none⟩ = some (.int .i64 x) := by
  rcases h with ⟨rfl, _⟩ | ⟨b, off, cap, e, h2⟩
  · simp at hx
  · simp only [Value.slice.injEq] at e
    refine ⟨b, off, e.1, fun w' hf => ?_⟩
    have h0 := h2 k x hx
    have hlt := World.block_lt_of_cell? w _ h0
    rw [← h0]
    exact World.cell?_of_block (hf.block b hlt (fun f => f))
set_option maxRecDepth 100000 in
set_option maxHeartbeats 2000000 in
theorem few_in {w : World} {v : Value} {l : List Int} (h : IntsIn w v l) (n : Nat) (hn : n ≤ 1000) :
    Calls Tryz.prog 14 #[v, .int .i64 n] w (FewPost w l n) := by
  obtain ⟨a, c, rfl⟩ := h.shape
  have Hi := Lib.hid h
  obtain ⟨i0, hi, hz0, hz1, hz2⟩ := info_parts Tryz.info3z
  clear h
  go_enter Tryz.func14, Tryz.ntmps14
  go_wp2_with fail
  go_loopw [5, 6] (fun sv i wr => ∃ k : Nat, k ≤ n ∧ k ≤ l.length ∧ i = .int .i64 (k : Nat) ∧ wr.ownsRow w.heap.size 3 1 sv k ((l.take k).map encZ) ∧ New w wr) (fun _ i _ => n - (intOf i).toNat)
  case atStart => exact ⟨0, Nat.zero_le _, Nat.zero_le _, rfl, World.ownsRow_nil w w.heap.size 3 1, Fr.refl _ _⟩
  case round =>
    obtain ⟨k, hk, hkl, rfl, hown, hfr⟩ := hrel
    have Hown := Lib.hid hown
    have Hfr := Lib.hid hfr
    clear hown hfr
    by_cases h1 : k < l.length
    · by_cases h2 : k < n
      · obtain ⟨b, off, rfl, hcell⟩ := Hi.out.at k l[k] (by simp [h1])
        have hc := hcell wr Hfr.out
        have hk1 : (k : Int) < l.length := by omega
        have hk2 : (k : Int) < n := by omega
        have htk : l.take (k + 1) = l.take k ++ [l[k]] := List.take_succ_eq_append_getElem h1
        generalize l[k] = x at hc htk
        have Htk := Lib.hid htk
        have hoA := Lib.hid (Hown.out.alloc (.cells #[.int .i64 x] 3))
        have hnews : ∀ (j : Nat) (u : Value), [Value.int .i64 x][j]? = some u → (wr.alloc (.cells #[.int .i64 x] 3)).cell? ((⟨wr.heap.size, 0, none⟩ : Addr).add j) = some u := World.news_of_block (heap_alloc_new wr _)
        have Hnews := Lib.hid hnews
        clear htk hnews hcell
        have hkn : Hid (k < n ∧ k < l.length) := ⟨h2, h1⟩
        go_wp2_with (first
          | (at_builtin; refine wpList_append_own _ rfl _ _ 22 rfl w.heap.size 3 i0 (.int .i64 0) 1 8 Tryz.underlying22 hi hz0 hz1 hz2 rfl (by decide) _ _ _ rfl hoA.out ⟨wr.heap.size, 0, none⟩ 1 1 [.int .i64 x] rfl rfl Hnews.out (by intro u hu; simp at hu; subst hu; rfl) (by unfold maxLen; omega) (by omega) (by have := Hfr.out.size; simp; omega) ?_; intro sv' w1 hown1 hg1 _; go_frame)
          | fail)
        go_roundw
        case rel =>
          refine ⟨k + 1, hkn.out.1, hkn.out.2, by go_num, ?_, ?_⟩
          · rw [Htk.out, List.map_append]
            exact hown1
          · refine (Hfr.out.alloc _).trans' (Fr.ofGrown hg1) (fun i hi e => ?_)
            have := (Hown.out.lt i e).1
            omega
        case measure => have := hkn.out; simp [intOf]; omega
      · have hk2 : ¬ (k : Int) < n := by omega
        have hk1 : (k : Int) < l.length := by omega
        have he : Hid (k = n) := by show _ = _; omega
        go_wp2_with fail
        go_ret
        refine ⟨_, rfl, ?_, Hfr.out⟩
        have := Hown.out
        rw [he.out] at this
        rw [List.length_take, Nat.min_eq_left (by have := he.out; omega)]
        exact this
    · have hk1 : ¬ (k : Int) < l.length := by omega
      have he : Hid (k = l.length ∧ l.length ≤ n) := by show _ ∧ _; omega
      go_wp2_with fail
      go_ret
      refine ⟨_, rfl, ?_, Hfr.out⟩
      have := Hown.out
      rw [he.out.1, List.take_length] at this
      rw [List.take_of_length_le he.out.2]
      exact this


end Go.Proofs.YtkafmfdipmhleaaGreatDoor
