/-
  What is proved: contracts of the statements' small helpers: pick, many, few, steps; NewPartner.
-/
import Derived.Test.YtkafmfdipmhleaaGreatDoorOp1
namespace Go.Proofs.YtkafmfdipmhleaaGreatDoor
open Go.RowKit Go.Maps

def i64 (c : Int) : Prop := -9223372036854775808 ≤ c ∧ c ≤ 9223372036854775807
def pickM (c n : Int) : Int := (if c < 0 then -(c + 1) else c) % n
theorem pickM_range (c n : Int) (hn : 0 < n) : 0 ≤ pickM c n ∧ pickM c n < n := ⟨Int.emod_nonneg _ (by omega), Int.emod_lt_of_pos _ hn⟩
theorem pick_calls (w : World) (c n : Int) (hc : i64 c) (hn : 0 < n ∧ n ≤ 9223372036854775807) :
    Calls Tryz.prog 16 #[.int .i64 c, .int .i64 n] w fun e w' => e = .returned (.int .i64 (pickM c n)) ∧ w' = w := by
  unfold i64 at hc
  have hn0 : (n == 0) = false := by simp; omega
  by_cases h : c < 0
  · have h1 : wrap64 (c + 1) = c + 1 := wrap_in _ (by omega)
    have h2 : wrap64 (-(c + 1)) = -(c + 1) := wrap_in _ (by omega)
    have h3 : (-(c + 1)).tmod n = -(c + 1) % n := Int.tmod_eq_emod_of_nonneg (by omega)
    have h4 : wrap64 (-(c + 1) % n) = -(c + 1) % n := wrap_in _ (by have := Int.emod_nonneg (-(c + 1)) (show n ≠ 0 by omega); have := Int.emod_lt_of_pos (-(c + 1)) hn.1; omega)
    have hp : Hid (pickM c n = -(c + 1) % n) := by show _ = _; simp [pickM, h]
    go_enter Tryz.func16, Tryz.ntmps16
    go_wp2
    go_ret
    exact ⟨by rw [hp.out]; rfl, rfl⟩
  · have h3 : c.tmod n = c % n := Int.tmod_eq_emod_of_nonneg (by omega)
    have h4 : wrap64 (c % n) = c % n := wrap_in _ (by have := Int.emod_nonneg c (show n ≠ 0 by omega); have := Int.emod_lt_of_pos c hn.1; omega)
    have hp : Hid (pickM c n = c % n) := by show _ = _; simp [pickM, h]
    go_enter Tryz.func16, Tryz.ntmps16
    go_wp2
    go_ret
    exact ⟨by rw [hp.out]; rfl, rfl⟩

def manyM (c id : Int) : Int := 1 + pickM c 1048576 / (1 + 5 * id) % 6
theorem manyM_range (c id : Int) : 1 ≤ manyM c id ∧ manyM c id ≤ 6 := by
  unfold manyM
  have := Int.emod_nonneg (pickM c 1048576 / (1 + 5 * id)) (show (6 : Int) ≠ 0 by decide)
  have := Int.emod_lt_of_pos (pickM c 1048576 / (1 + 5 * id)) (show (0 : Int) < 6 by decide)
  omega
set_option maxHeartbeats 1000000 in
theorem many_calls (w : World) (c id : Int) (hc : i64 c) (hid : 0 ≤ id ∧ id ≤ 1000) :
    Calls Tryz.prog 24 #[.int .i64 c, .int .i64 id] w fun e w' => e = .returned (.int .i64 (manyM c id)) ∧ w' = w := by
  have HP := Lib.hid (pick_calls w c 1048576 hc (by omega))
  have hr := pickM_range c 1048576 (by omega)
  have Hm : Hid (manyM c id = 1 + pickM c 1048576 / (1 + 5 * id) % 6) := rfl
  generalize pickM c 1048576 = k at HP hr Hm
  have h1 : wrap64 (5 * id) = 5 * id := wrap_in _ (by omega)
  have h2 : wrap64 (1 + 5 * id) = 1 + 5 * id := wrap_in _ (by omega)
  have h3 : k.tdiv (1 + 5 * id) = k / (1 + 5 * id) := Int.tdiv_eq_ediv_of_nonneg hr.1
  have hn0 : ((1 + 5 * id) == 0) = false := by simp; omega
  have hq0 : 0 ≤ k / (1 + 5 * id) := Int.ediv_nonneg hr.1 (by omega)
  have hq1 : k / (1 + 5 * id) ≤ k := Int.ediv_le_self _ hr.1
  have h4 : wrap64 (k / (1 + 5 * id)) = k / (1 + 5 * id) := wrap_in _ (by omega)
  have h5 : (k / (1 + 5 * id)).tmod 6 = k / (1 + 5 * id) % 6 := Int.tmod_eq_emod_of_nonneg hq0
  have h6 : wrap64 (k / (1 + 5 * id) % 6) = k / (1 + 5 * id) % 6 := wrap_in _ (by omega)
  have h7 : wrap64 (1 + k / (1 + 5 * id) % 6) = 1 + k / (1 + 5 * id) % 6 := wrap_in _ (by omega)
  clear hc hid hr hq0 hq1
  go_enter Tryz.func24, Tryz.ntmps24
  go_wp2_with (first
    | (go_at_call 16; refine Calls.mono HP.out ?_; rintro e w2 ⟨rfl, rfl⟩)
    | fail)
  go_ret
  exact ⟨by rw [Hm.out]; rfl, rfl⟩

theorem IntsAt.new {w w' : World} {v : Value} {l : List Int} (h : IntsAt w v l) (hf : New w w') : IntsAt w' v l := h.keep (fun _ _ ho _ => hf.get ho (fun f => f))
theorem IntsAt.shape {w : World} {v : Value} {l : List Int} (h : IntsAt w v l) : ∃ a c, v = .slice a l.length c := by
  rcases h with ⟨rfl, a, c, e⟩ | ⟨b, off, cap, c, e, _⟩
  · exact ⟨a, c, e⟩
  · exact ⟨_, _, e⟩
theorem IntsAt.at {w : World} {a : Option Addr} {m c : Nat} {l : List Int} (h : IntsAt w (.slice a m c) l) (k : Nat) (x : Int) (hx : l[k]? = some x) : ∃ b off, a = some ⟨b, off, none⟩ ∧ ∀ w', New w w' → w'.cell? ⟨b, off + k, none⟩ = some (.int .i64 x) := by
  rcases h with ⟨rfl, _⟩ | ⟨b, off, cap, cc, e, h1, h2⟩
  · simp at hx
  · simp only [Value.slice.injEq] at e
    refine ⟨b, off, e.1, fun w' hf => ?_⟩
    rw [cellv, hf.get h1 (fun f => f)]
    exact h2 k x hx
theorem own_New {w w' : World} {B e size n : Nat} {v : Value} {xs : List Value} (h : w.ownsRow B e size v n xs) (hf : New w w') : w'.ownsRow B e size v n xs := own_keepK h (hf.toK (K := []) (fun _ _ f _ => f.elim)) (by simp)
def FewPost (w : World) (l : List Int) (n : Nat) (e : Ending) (w' : World) : Prop := ∃ v, e = .returned v ∧ w'.ownsRow w.heap.size 3 1 v (l.take n).length ((l.take n).map encZ) ∧ New w w'
set_option maxRecDepth 100000 in
set_option maxHeartbeats 2000000 in
theorem few_calls {w : World} {v : Value} {l : List Int} (h : IntsAt w v l) (n : Nat) (hn : n ≤ 1000) :
    Calls Tryz.prog 14 #[v, .int .i64 n] w (FewPost w l n) := by
  obtain ⟨a, c, rfl⟩ := h.shape
  have Hi := Lib.hid h
  obtain ⟨i0, hi, hz0, hz1, hz2⟩ := info_parts Tryz.info3z
  clear h
  go_enter Tryz.func14, Tryz.ntmps14
  go_wp2_with fail
  go_loopw [5, 6] (fun sv i wr => ∃ k : Nat, k ≤ n ∧ k ≤ l.length ∧ i = .int .i64 (k : Nat) ∧ wr.ownsRow w.heap.size 3 1 sv k ((l.take k).map encZ) ∧ New w wr) (fun _ i _ => n - (intOf i).toNat)
  case atStart => exact ⟨0, Nat.zero_le _, Nat.zero_le _, rfl, World.ownsRow_nil w w.heap.size 3 1, Fr.refl _ _⟩
  case round =>
    obtain ⟨k, hk, hkl, rfl, hown, hfr⟩ := hrel
    have Hown := Lib.hid hown
    have Hfr := Lib.hid hfr
    clear hown hfr
    by_cases h1 : k < l.length
    · by_cases h2 : k < n
      · obtain ⟨b, off, rfl, hcell⟩ := Hi.out.at k l[k] (by simp [h1])
        have hc := hcell wr Hfr.out
        have hk1 : (k : Int) < l.length := by omega
        have hk2 : (k : Int) < n := by omega
        have htk : l.take (k + 1) = l.take k ++ [l[k]] := List.take_succ_eq_append_getElem h1
        generalize l[k] = x at hc htk
        have Htk := Lib.hid htk
        have hoA := Lib.hid (Hown.out.alloc (.cells #[.int .i64 x] 3))
        have hnews : ∀ (j : Nat) (u : Value), [Value.int .i64 x][j]? = some u → (wr.alloc (.cells #[.int .i64 x] 3)).cell? ((⟨wr.heap.size, 0, none⟩ : Addr).add j) = some u := World.news_of_block (heap_alloc_new wr _)
        have Hnews := Lib.hid hnews
        clear htk hnews hcell
        have hkn : Hid (k < n ∧ k < l.length) := ⟨h2, h1⟩
        go_wp2_with (first
          | (at_builtin; refine wpList_append_own _ rfl _ _ 22 rfl w.heap.size 3 i0 (.int .i64 0) 1 8 Tryz.underlying22 hi hz0 hz1 hz2 rfl (by decide) _ _ _ rfl hoA.out ⟨wr.heap.size, 0, none⟩ 1 1 [.int .i64 x] rfl rfl Hnews.out (by intro u hu; simp at hu; subst hu; rfl) (by unfold maxLen; omega) (by omega) (by have := Hfr.out.size; simp; omega) ?_; intro sv' w1 hown1 hg1 _; go_frame)
          | fail)
        go_roundw
        case rel =>
          refine ⟨k + 1, hkn.out.1, hkn.out.2, by go_num, ?_, ?_⟩
          · rw [Htk.out, List.map_append]
            exact hown1
          · refine (Hfr.out.alloc _).trans' (Fr.ofGrown hg1) (fun i hi e => ?_)
            have := (Hown.out.lt i e).1
            omega
        case measure => have := hkn.out; simp [intOf]; omega
      · have hk2 : ¬ (k : Int) < n := by omega
        have hk1 : (k : Int) < l.length := by omega
        have he : Hid (k = n) := by show _ = _; omega
        go_wp2_with fail
        go_ret
        refine ⟨_, rfl, ?_, Hfr.out⟩
        have := Hown.out
        rw [he.out] at this
        rw [List.length_take, Nat.min_eq_left (by have := he.out; omega)]
        exact this
    · have hk1 : ¬ (k : Int) < l.length := by omega
      have he : Hid (k = l.length ∧ l.length ≤ n) := by show _ ∧ _; omega
      go_wp2_with fail
      go_ret
      refine ⟨_, rfl, ?_, Hfr.out⟩
      have := Hown.out
      rw [he.out.1, List.take_length] at this
      rw [List.take_of_length_le he.out.2]
      exact this

theorem own_ints {w : World} {B : Nat} {v : Value} {l : List Int} (h : w.ownsRow B 3 1 v l.length (l.map encZ)) : IntsAt w v l := by
  rcases h.2 with ⟨rfl, h0⟩ | ⟨g, cap, cur, hv, hg, hh, hn, _, _, htk⟩
  · exact .inl ⟨List.length_eq_zero_iff.1 h0, none, 0, rfl⟩
  · refine .inr ⟨g, 0, cap, cur, by rw [hv], hh, fun j x hx => ?_⟩
    have hj := (List.getElem?_eq_some_iff.1 hx).1
    rw [Nat.zero_add]
    have : (l.map encZ)[j]? = some (.int .i64 x) := by rw [List.getElem?_map, hx]; rfl
    rw [← htk, List.getElem?_take_of_lt (by omega)] at this
    simpa using this
def NewPPost (w : World) (l : List Int) (lo : Nat) (e : Ending) (w' : World) : Prop := ∃ pb, e = .returned (.pointer (some ⟨pb, 0, none⟩)) ∧ w.heap.size ≤ pb ∧ PAt w' pb ⟨[], [], l, 0, lo⟩ ∧ New w w'
theorem newP_done {w w1 : World} {iv : Value} {l : List Int} {lo : Nat} (hlo : lo ≤ w.heap.size) (hi : IntsAt w1 iv l) (hf : New w w1) (hiv : ∀ a m c, iv = .slice (some a) m c → a.block < w1.heap.size) :
    PAt (w1.alloc (.cells #[.slice none 0 0, .slice none 0 0, iv, .int .i64 0] 44)) w1.heap.size ⟨[], [], l, 0, lo⟩ :=
  ⟨.slice none 0 0, .slice none 0 0, iv, lo, heap_alloc_new w1 _, World.ownsRow_nil _ lo 48 5, World.ownsRow_nil _ lo 46 4, hi.new ((Fr.refl _ w1).alloc _), ⟨by have := hf.size; simp; omega, rfl, by have := hf.size; omega⟩, hiv⟩
set_option maxRecDepth 100000 in
set_option maxHeartbeats 2000000 in
theorem NewPartner_calls {w : World} {v : Value} {l : List Int} (h : IntsAt w v l) (hl : l.length ≤ 1000) (lo : Nat) (hlo : lo ≤ w.heap.size) :
    Calls Tryz.prog 15 #[v] w (NewPPost w l lo) := by
  obtain ⟨i0, hi, hz0, hz1, hz2⟩ := info_parts Tryz.info3z
  by_cases h0 : l = []
  · subst h0
    obtain ⟨a, c, rfl⟩ := h.shape
    have hr : ∀ ty, (Builtin.append_ #[22, 22] ty #[.slice none 0 0, .slice a 0 c]).run Tryz.prog w = .ok (.slice none 0 0) w := by
      intro ty
      simp [Builtin.append_, run_underlying Tryz.underlying22, sizeOf, typeInfo, hi, Builtin.lenOf, Builtin.firstCells]
      cases a <;> simp [Builtin.firstCells, loadCells, loadCellsFrom]
    go_enter Tryz.func15, Tryz.ntmps15
    go_wp2_with (first
      | (at_builtin; refine Lib.wpList_append_run _ rfl _ _ _ _ rfl _ _ rfl rfl _ _ (hr _) ?_; go_frame)
      | fail)
    go_ret
    exact ⟨_, rfl, Nat.le_refl _, newP_done hlo (.inl ⟨rfl, none, 0, rfl⟩) (Fr.refl _ _) (fun a m c e => by cases e), (Fr.refl _ w).alloc _⟩
  · rcases h with ⟨h, _⟩ | ⟨b, off, cap, cc, rfl, hb, hc⟩
    · exact absurd h h0
    have hnews : ∀ (j : Nat) (u : Value), (l.map encZ)[j]? = some u → w.cell? ((⟨b, off, none⟩ : Addr).add j) = some u := by
      intro j u hj
      rw [Addr.add_lit, cellv, hb, cellOf_cells]
      rw [List.getElem?_map] at hj
      cases hx : l[j]? with
      | none => rw [hx] at hj; simp at hj
      | some x => rw [hx] at hj; cases hj; exact hc j x hx
    have Hn := Lib.hid hnews
    have Hl0 := Lib.hid h0
    clear hb hc hnews h0
    go_enter Tryz.func15, Tryz.ntmps15
    go_wp2_with (first
      | (at_builtin; refine wpList_append_own _ rfl _ _ 22 rfl w.heap.size 3 i0 (.int .i64 0) 1 8 Tryz.underlying22 hi hz0 hz1 hz2 rfl (by decide) _ _ _ rfl (World.ownsRow_nil w w.heap.size 3 1) ⟨b, off, none⟩ l.length cap (l.map encZ) rfl (by simp) Hn.out (by intro u hu; rw [List.mem_map] at hu; obtain ⟨x, _, rfl⟩ := hu; rfl) (by unfold maxLen; omega) (by omega) (Nat.le_refl _) ?_; intro sv' w1 hown1 hg1 _; obtain ⟨va, vm, vc, rfl⟩ := own_slice hown1; go_frame)
      | fail)
    go_ret
    rw [Nat.zero_add, List.nil_append] at hown1
    have hf1 : New w w1 := (Fr.ofGrown hg1).mono (fun _ _ e => by cases e)
    refine ⟨_, rfl, hf1.size, newP_done hlo (own_ints hown1) hf1 ?_, hf1.alloc _⟩
    intro a m c e
    have e2 : va = some a := by simp only [Value.slice.injEq] at e; exact e.1
    subst e2
    have := hown1.lt a.block (by
      rcases hown1.2 with ⟨e, _⟩ | ⟨g, cap, cur, e, _⟩
      · cases e
      · simp only [Value.slice.injEq, Option.some.injEq] at e
        rw [e.1]; rfl)
    exact this.2
end Go.Proofs.YtkafmfdipmhleaaGreatDoor
