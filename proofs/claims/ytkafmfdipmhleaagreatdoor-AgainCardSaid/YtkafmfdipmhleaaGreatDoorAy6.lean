/-
  What is proved: what survives of a Submit that is cut off. (No program in sight.) where the sagas of Taken end. (No program in sight.) the contract of the iterator All, at every loop body that leaves the engine as it is. the contract of plain.All, on an engine of at most a hundred sagas. the contract of plain.All, on an engine of at most a hundred sagas, whatever the most. the contract of a Submit that is refused, or that is no new one. the contract of Spare: it returns true, and leaves what was there as it was.
-/
import Derived.Test.YtkafmfdipmhleaaGreatDoorAy5
import Derived.RangeFuncNested
import Derived.RangeFuncBound
import Derived.RangeFuncCalls
import Derived.RangeFuncLeaves
import Derived.RangeFuncBox
import Derived.Shelf.Abstract
import Derived.Shelf.RegionOpen
import Derived.OwnWalkIn
import Derived.TacticsInMore
import Derived.LoopNIn
import Derived.LoopIn
import Derived.Maps.AppendAt

namespace Go.Proofs.YtkafmfdipmhleaaGreatDoor
open Go.RowKit Go.Maps

def tk0 (lo : Nat) : StM := StM.fresh 120 2 ⟨[], [], [], 0, lo⟩
def tk1 (n1 lo : Nat) : StM := (tk0 lo).submit 1 (kSteps 1 n1)
def B1 (n1 : Nat) : List (List UInt8) := (((List.replicate 120 zer).set 0 hdr).set 1 (bod 1 n1 1)).set 2 (tak 1 2)
theorem w64_7 (k : Nat) (h : k ≤ 1000) : wrap64 ((k : Int) + 1) = (k : Int) + 1 := wrap_in _ (by omega)
theorem put_flush_blocks (d : DiskM) (i : Nat) (l : List UInt8) : (d.put i l).flush.blocks = d.blocks.set i (padB l) := rfl
theorem flush_none (d : DiskM) (h : d.pend = none) : d.flush.blocks = d.blocks := by simp [DiskM.flush, h, DiskM.count]
set_option maxRecDepth 100000 in
theorem tk1_d (n1 lo : Nat) : (tk1 n1 lo).d.blocks = B1 n1 ∧ (tk1 n1 lo).d.pend = none ∧ (tk1 n1 lo).d.calls = 11 ∧ (tk1 n1 lo).d.off = -1 ∧ (tk1 n1 lo).d.fr = 0 ∧ (tk1 n1 lo).d.to = 0 := by
  have e : (tk1 n1 lo).d = (((((DiskM.fresh 120).count.count.flush.put 1 (recBytes (placed (bodyRec 1 (kSteps 1 n1)) 1 1))).flush.put 2 (recBytes (placed (takenRec 1) 1 2))).flush)) := rfl
  have w1 : wrap64 1 = 1 := wrap_in _ (by omega)
  have w2 : wrap64 2 = 2 := wrap_in _ (by omega)
  have w3 : wrap64 3 = 3 := wrap_in _ (by omega)
  have w4 : wrap64 4 = 4 := wrap_in _ (by omega)
  have hc : (DiskM.fresh 120).calls = 4 := by simp [DiskM.fresh, DiskM.format, DiskM.sure, DiskM.flush, DiskM.put, DiskM.count, DiskM.new, w1, w2, w3, w4]
  have hfp := fresh_pend 120
  have hfb := fresh_blocks 120
  have w5 : wrap64 5 = 5 := wrap_in _ (by omega)
  have w6 : wrap64 6 = 6 := wrap_in _ (by omega)
  have w7 : wrap64 7 = 7 := wrap_in _ (by omega)
  have w8 : wrap64 8 = 8 := wrap_in _ (by omega)
  have w9 : wrap64 9 = 9 := wrap_in _ (by omega)
  have w10 : wrap64 10 = 10 := wrap_in _ (by omega)
  have w11 : wrap64 11 = 11 := wrap_in _ (by omega)
  have ho : (DiskM.fresh 120).off = -1 ∧ (DiskM.fresh 120).fr = 0 ∧ (DiskM.fresh 120).to = 0 := ⟨rfl, rfl, rfl⟩
  rw [e]
  refine ⟨?_, rfl, ?_, ho.1, ho.2.1, ho.2.2⟩
  · rw [put_flush_blocks, put_flush_blocks, flush_none (DiskM.fresh 120).count.count hfp]
    show ((DiskM.fresh 120).blocks.set 1 _).set 2 _ = _
    rw [hfb]
    unfold B1 bod tak
    exact Eq.refl _
  · simp only [DiskM.flush, DiskM.put, DiskM.count, hc]
    simp [w5, w6, w7, w8, w9, w10, w11]
theorem B1_len (n1 : Nat) : (B1 n1).length = 120 := by simp [B1]
theorem B1_get (n1 i : Nat) (h : 3 ≤ i ∧ i < 120) : (B1 n1).getD i [] = zer := by
  rw [List.getD_eq_getElem?_getD]
  unfold B1
  rw [List.getElem?_set_ne (by omega), List.getElem?_set_ne (by omega), List.getElem?_set_ne (by omega), List.getElem?_replicate, if_pos h.2]; rfl
/-- The blocks that survive: the second saga is not there; or it is. -/
def TkOne (n1 : Nat) (bs : List (List UInt8)) : Prop := ∃ X, bs = (B1 n1).set 3 X ∧ X.length = 128 ∧ ∃ r ok, parseM X = some (r, ok) ∧ r.kind ≠ 4
def TkTwo (n1 n2 : Nat) (bs : List (List UInt8)) : Prop := bs = ((B1 n1).set 3 (bod 2 n2 3)).set 4 (tak 2 4)
theorem bod_len (id : Int) (n ix : Nat) : (bod id n ix).length = 128 := padB_length _ (by
  unfold recBytes endOf
  split <;> simp <;> omega)
theorem zer_len : zer.length = 128 := by simp [zer]
theorem B1_zer (n1 i : Nat) (h : 3 ≤ i ∧ i < 120) : (B1 n1).set i zer = B1 n1 := by
  apply List.ext_getElem?
  intro j
  by_cases e : j = i
  · subst e
    rw [List.getElem?_set_self (by rw [B1_len]; omega)]
    have := B1_get n1 j h
    rw [List.getD_eq_getElem?_getD, List.getElem?_eq_getElem (by rw [B1_len]; omega)] at this
    rw [List.getElem?_eq_getElem (by rw [B1_len]; omega), ← this]; rfl
  · rw [List.getElem?_set_ne (fun h => e h.symm)]
theorem tk_one_zer (n1 : Nat) : TkOne n1 (B1 n1) := by
  obtain ⟨r, hr⟩ := parse_zer
  refine ⟨zer, (B1_zer n1 3 (by omega)).symm, zer_len, r, false, hr, ?_⟩
  have : (parseM zer).map (fun p => decide (p.1.kind ≠ 4)) = some true := by kernel_rfl
  rw [hr] at this
  simpa using this
theorem tk_one_bod (n1 n2 : Nat) (hn : 1 ≤ n2 ∧ n2 ≤ 6) : TkOne n1 ((B1 n1).set 3 (bod 2 n2 3)) := ⟨_, rfl, bod_len _ _ _, _, _, parse_bod2 n2 hn, by show (2 : Nat) ≠ 4; omega⟩
theorem tk_one_torn (n1 n2 : Nat) (hn : 1 ≤ n2 ∧ n2 ≤ 6) (k : Int) : TkOne n1 ((B1 n1).set 3 (tearB zer (bod 2 n2 3) k 4)) := by
  obtain ⟨r, ok, h1, h2⟩ := torn_bod n2 hn k
  exact ⟨_, rfl, tearB_len _ _ _ zer_len (bod_len _ _ _) 4 (by omega), r, ok, h1, h2⟩
theorem set_same (l : List (List UInt8)) (i : Nat) (x : List UInt8) (h : l.getD i [] = x) (hi : i < l.length) : l.set i x = l := by
  subst h
  rw [List.getD_eq_getElem?_getD, List.getElem?_eq_getElem hi, Option.getD_some, List.set_getElem_self]
theorem tk_after (n1 n2 : Nat) (hn : 1 ≤ n2 ∧ n2 ≤ 6) (d : DiskM) (a : Nat) (hb : d.blocks = B1 n1) (hp : d.pend = none) (hc : d.calls = 11) (ho : d.off = 11 + (a : Int)) (hf : d.fr = 0) (ht : d.to = 0) (ks : List Int) :
    let A := d.appendA ⟨1, 3, false⟩ [bodyRec 2 (kSteps 2 n2), takenRec 2]
    (A.2 = true → TkTwo n1 n2 (A.1.after ks).blocks) ∧ (TkOne n1 (A.1.after ks).blocks ∨ TkTwo n1 n2 (A.1.after ks).blocks) := by
  have w12 : wrap64 12 = 12 := wrap_in _ (by omega)
  have w13 : wrap64 13 = 13 := wrap_in _ (by omega)
  have w14 : wrap64 14 = 14 := wrap_in _ (by omega)
  have w15 : wrap64 15 = 15 := wrap_in _ (by omega)
  obtain ⟨bs, pd, cl, wr, tl, of, fr, to_⟩ := d
  simp only at hb hp hc ho hf ht
  subst hb hp hc ho hf ht
  have eb : padB (recBytes (placed (bodyRec 2 (kSteps 2 n2)) 1 3)) = bod 2 n2 3 := rfl
  have et : padB (recBytes (placed (takenRec 2) 1 4)) = tak 2 4 := rfl
  have hz3 := B1_get n1 3 (by omega)
  have hz4 : ((B1 n1).set 3 (bod 2 n2 3)).getD 4 [] = zer := by
    rw [List.getD_eq_getElem?_getD, List.getElem?_set_ne (by omega), ← List.getD_eq_getElem?_getD]; exact B1_get n1 4 (by omega)
  have hA : ∀ (x y : List UInt8), padB x = bod 2 n2 3 → padB y = tak 2 4 → True := fun _ _ _ _ => trivial
  generalize hx : recBytes (placed (bodyRec 2 (kSteps 2 n2)) 1 3) = x at eb
  generalize hy : recBytes (placed (takenRec 2) 1 4) = y at et
  have hcase : a = 0 ∨ a = 1 ∨ a = 2 ∨ a = 3 ∨ 4 ≤ a := by omega
  simp only [DiskM.appendA, DiskM.appendG, settleD, hx, hy]
  rcases hcase with rfl | rfl | rfl | rfl | h4
  · simp [DiskM.sureG, DiskM.bad, DiskM.count, DiskM.after]
    exact .inl (tk_one_zer n1)
  · simp [DiskM.sureG, DiskM.bad, DiskM.count, DiskM.put, DiskM.after, w12, eb]
    cases ks with
    | nil => exact .inl (tk_one_zer n1)
    | cons k ks =>
      have := tk_one_torn n1 n2 hn k
      rw [← hz3, List.getD_eq_getElem?_getD] at this
      exact .inl (by simpa using this)
  · simp [DiskM.sureG, DiskM.bad, DiskM.count, DiskM.put, DiskM.sure, DiskM.flush, DiskM.after, w12, w13, eb, hy]
    exact .inl (tk_one_bod n1 n2 hn)
  · simp [DiskM.sureG, DiskM.bad, DiskM.count, DiskM.put, DiskM.sure, DiskM.flush, DiskM.after, w12, w13, w14, eb, et, hy]
    cases ks with
    | nil => exact .inl (tk_one_bod n1 n2 hn)
    | cons k ks =>
      show TkOne n1 (((B1 n1).set 3 (bod 2 n2 3)).set 4 (tearB (((B1 n1).set 3 (bod 2 n2 3))[4]?.getD []) (tak 2 4) k 4)) ∨ TkTwo n1 n2 (((B1 n1).set 3 (bod 2 n2 3)).set 4 (tearB (((B1 n1).set 3 (bod 2 n2 3))[4]?.getD []) (tak 2 4) k 4))
      rw [← List.getD_eq_getElem?_getD, hz4]
      rcases torn_tak k with h | h
      · rw [h]; exact .inr rfl
      · rw [h, set_same _ 4 zer hz4 (by rw [List.length_set, B1_len]; omega)]
        exact .inl (tk_one_bod n1 n2 hn)
  · have h5 : ¬ (11 + (a : Int) ≤ 11) := by omega
    have h6 : ¬ (11 + (a : Int) ≤ 12) := by omega
    have h7 : ¬ (11 + (a : Int) ≤ 13) := by omega
    have h8 : ¬ (11 + (a : Int) ≤ 14) := by omega
    simp [DiskM.sureG, DiskM.bad, DiskM.count, DiskM.put, DiskM.sure, DiskM.flush, DiskM.after, w12, w13, w14, w15, eb, et, hy, h5, h6, h7, h8]
    exact ⟨rfl, .inr rfl⟩
/-- What the journal tells that survives. -/
def tkEvs (n1 n2 : Nat) (two : Bool) : List Ev := if two then [.taken 1 (kSteps 1 n1), .taken 2 (kSteps 2 n2)] else [.taken 1 (kSteps 1 n1)]
def TkBs (n1 n2 : Nat) (two : Bool) (bs : List (List UInt8)) : Prop := if two then TkTwo n1 n2 bs else TkOne n1 bs
theorem tk_bs_len {n1 n2 : Nat} {two : Bool} {bs : List (List UInt8)} (h : TkBs n1 n2 two bs) : bs.length = 120 := by
  cases two
  · obtain ⟨X, rfl, _⟩ := h
    rw [List.length_set, B1_len]
  · obtain rfl : bs = _ := h
    rw [List.length_set, List.length_set, B1_len]
theorem B1_hd (n1 : Nat) : (B1 n1).getD 0 [] = hdr ∧ (B1 n1).getD 1 [] = bod 1 n1 1 ∧ (B1 n1).getD 2 [] = tak 1 2 := by
  simp only [List.getD_eq_getElem?_getD]
  unfold B1
  refine ⟨?_, ?_, ?_⟩
  · rw [List.getElem?_set_ne (by omega), List.getElem?_set_ne (by omega), List.getElem?_set_self (by rw [List.length_replicate]; omega)]; rfl
  · rw [List.getElem?_set_ne (by omega), List.getElem?_set_self (by rw [List.length_set, List.length_replicate]; omega)]; rfl
  · rw [List.getElem?_set_self (by rw [List.length_set, List.length_set, List.length_replicate]; omega)]; rfl
theorem tk_look {n1 n2 : Nat} {two : Bool} {bs : List (List UInt8)} (h : TkBs n1 n2 two bs) : bs.getD 0 [] = hdr ∧ bs.getD 1 [] = bod 1 n1 1 ∧ bs.getD 2 [] = tak 1 2 ∧
    (two = true → bs.getD 3 [] = bod 2 n2 3 ∧ bs.getD 4 [] = tak 2 4 ∧ bs.getD 5 [] = zer) ∧ (two = false → (∃ r ok, parseM (bs.getD 3 []) = some (r, ok) ∧ r.kind ≠ 4) ∧ bs.getD 4 [] = zer) := by
  obtain ⟨a0, a1, a2⟩ := B1_hd n1
  simp only [List.getD_eq_getElem?_getD] at a0 a1 a2 ⊢
  have a4 := B1_get n1 4 (by omega)
  have a5 := B1_get n1 5 (by omega)
  simp only [List.getD_eq_getElem?_getD] at a4 a5
  have hl := B1_len n1
  cases two
  · obtain ⟨X, rfl, hX, r, ok, hp, hk⟩ := h
    refine ⟨?_, ?_, ?_, fun h => by (cases h), fun _ => ⟨⟨r, ok, ?_, hk⟩, ?_⟩⟩
    · rw [List.getElem?_set_ne (by omega)]; exact a0
    · rw [List.getElem?_set_ne (by omega)]; exact a1
    · rw [List.getElem?_set_ne (by omega)]; exact a2
    · rw [List.getElem?_set_self (by omega)]; exact hp
    · rw [List.getElem?_set_ne (by omega)]; exact a4
  · obtain rfl : bs = _ := h
    refine ⟨?_, ?_, ?_, fun _ => ⟨?_, ?_, ?_⟩, fun h => by (cases h)⟩
    · rw [List.getElem?_set_ne (by omega), List.getElem?_set_ne (by omega)]; exact a0
    · rw [List.getElem?_set_ne (by omega), List.getElem?_set_ne (by omega)]; exact a1
    · rw [List.getElem?_set_ne (by omega), List.getElem?_set_ne (by omega)]; exact a2
    · rw [List.getElem?_set_ne (by omega), List.getElem?_set_self (by omega)]; rfl
    · rw [List.getElem?_set_self (by rw [List.length_set]; omega)]; rfl
    · rw [List.getElem?_set_ne (by omega), List.getElem?_set_ne (by omega)]; exact a5
theorem tk_evs {d : DiskM} {n1 n2 : Nat} {two : Bool} (hn1 : 1 ≤ n1 ∧ n1 ≤ 6) (hn2 : 1 ≤ n2 ∧ n2 ≤ 6) (hp : d.pend = none) (h : TkBs n1 n2 two d.blocks) :
    (∃ r0, parseM (d.look 0) = some (r0, true) ∧ r0.kind = 1 ∧ r0.epoch = 1) ∧ EvsOn d 1 1 (tkEvs n1 n2 two) ∧ JStop d 1 (1 + evLen (tkEvs n1 n2 two)) ∧ EvsOk [] (tkEvs n1 n2 two) := by
  obtain ⟨a0, a1, a2, a3, a4⟩ := tk_look h
  have hlk : ∀ i, d.look i = d.blocks.getD i [] := fun i => by simp only [DiskM.look, hp]
  have hl := tk_bs_len h
  have hs1 := (whole_small (kSteps_whole 1 n1 (by omega) hn1)).2.2
  have hs2 := (whole_small (kSteps_whole 2 n2 (by omega) hn2)).2.2
  obtain ⟨rz, hz⟩ := parse_zer
  refine ⟨by rw [hlk, a0]; exact parse_hdr, ?_, ?_, ?_⟩
  · have e1 : EvOn d 1 1 (.taken 1 (kSteps 1 n1)) := ⟨_, _, by rw [hlk, a1]; exact parse_bod1 n1 hn1, rfl, rfl, rfl, rfl, rfl, by rw [hlk, a2]; exact parse_tak1, rfl, rfl, rfl, rfl⟩
    cases two
    · exact ⟨e1, trivial⟩
    · obtain ⟨b3, b4, _⟩ := a3 rfl
      have e2 : EvOn d 1 3 (.taken 2 (kSteps 2 n2)) := ⟨_, _, by rw [hlk, b3]; exact parse_bod2 n2 hn2, rfl, rfl, rfl, rfl, rfl, by rw [hlk, b4]; exact parse_tak2, rfl, rfl, rfl, rfl⟩
      exact ⟨e1, e2, trivial⟩
  · cases two
    · obtain ⟨⟨r, ok, hr, hk⟩, b4⟩ := a4 rfl
      refine ⟨r, ok, by rw [hlk]; exact hr, ?_⟩
      by_cases h2 : r.kind = 2
      · exact .inr (.inr ⟨h2, by show 3 + 1 < d.blocks.length; omega, rz, false, by rw [hlk]; show parseM (d.blocks.getD 4 []) = _; rw [b4]; exact hz, .inl rfl⟩)
      · exact .inr (.inl ⟨hk, h2⟩)
    · obtain ⟨_, _, b5⟩ := a3 rfl
      exact ⟨rz, false, by rw [hlk]; show parseM (d.blocks.getD 5 []) = _; rw [b5]; exact hz, .inl rfl⟩
  · have o1 : EvOk [] (.taken 1 (kSteps 1 n1)) := ⟨fun x hx => by simp at hx, by omega, by omega, hs1⟩
    cases two
    · exact ⟨o1, trivial⟩
    · exact ⟨o1, ⟨fun x hx => by simp only [applyEv, insSaga, List.mem_singleton] at hx; rw [hx]; show (1 : Int) ≠ 2; omega, by omega, by omega, hs2⟩, trivial⟩
end Go.Proofs.YtkafmfdipmhleaaGreatDoor

namespace Go.Proofs.YtkafmfdipmhleaaGreatDoor
open Go.RowKit Go.Maps

def tkY (n1 n2 : Nat) (two : Bool) (d : DiskM) (lo : Nat) : StM := ⟨2, 0, (tkEvs n1 n2 two).foldl applyEv [], ⟨1, 1 + evLen (tkEvs n1 n2 two), true⟩, d, ⟨[], [], [], 0, lo⟩⟩
theorem tkY_sagas (n1 n2 : Nat) (two : Bool) (d : DiskM) (lo : Nat) : (tkY n1 n2 two d lo).sagas = if two then [SagaM.new 1 (kSteps 1 n1), SagaM.new 2 (kSteps 2 n2)] else [SagaM.new 1 (kSteps 1 n1)] := by
  cases two
  · rfl
  · show insSaga (SagaM.new 2 (kSteps 2 n2)) [SagaM.new 1 (kSteps 1 n1)] = _
    have : ¬ ((SagaM.new 2 (kSteps 2 n2)).id < (SagaM.new 1 (kSteps 1 n1)).id) := by show ¬ ((2 : Int) < 1); omega
    simp [insSaga, this]
theorem tkY_en (n1 n2 : Nat) (two : Bool) (d : DiskM) (lo : Nat) : (tkY n1 n2 two d lo).j.en = if two then 5 else 3 := by cases two <;> rfl
theorem tkY_inv {n1 n2 : Nat} {two : Bool} {d : DiskM} {lo : Nat} (hn1 : 1 ≤ n1 ∧ n1 ≤ 6) (hn2 : 1 ≤ n2 ∧ n2 ≤ 6) (hq : d.quiet) (hp : d.pend = none) (hl : d.blocks.length = 120) : (tkY n1 n2 two d lo).inv ∧ (tkY n1 n2 two d lo).fine 1000 := by
  have hs := tkY_sagas n1 n2 two d lo
  have he := tkY_en n1 n2 two d lo
  have o1 := new_ok (kSteps_whole 1 n1 (by omega) hn1)
  have o2 := new_ok (kSteps_whole 2 n2 (by omega) hn2)
  have l1 := new_left 1 (kSteps 1 n1)
  have l2 := new_left 2 (kSteps 2 n2)
  rw [kSteps_len] at l1 l2
  refine ⟨⟨hq, hp, by show 1 < 2 ^ 32; omega, ?_, ?_, ?_, by show d.blocks.length ≤ 1000; omega, by show (1 : Int) ≤ 2 ∧ (2 : Int) ≤ 64; omega⟩, ⟨by show 0 + 1000 < 2 ^ 30; omega, by show 0 + 1000 < 2 ^ 30; omega, by show 0 < 2 ^ 30; omega, by show (0 : Int) ≤ 0; omega, by show (0 : Int) + 1000 < 2 ^ 30; omega, ?_⟩⟩
  · rw [hs]
    intro g hg
    cases two
    · simp at hg; rw [hg]; exact o1
    · simp at hg
      rcases hg with rfl | rfl
      · exact o1
      · exact o2
  · rw [hs]
    cases two
    · simp
    · simp [SagaM.new]
  · rw [hs, he]
    show _ ≤ (d.blocks.length : Int)
    cases two
    · simp [leftSum, l1]; omega
    · simp [leftSum, l1, l2]; omega
  · rw [hs]
    intro g hg
    cases two
    · simp at hg; rw [hg]; simp [SagaM.new]
    · simp at hg
      rcases hg with rfl | rfl <;> simp [SagaM.new]
def tkZ (n1 n2 : Nat) (two : Bool) (d : DiskM) (lo : Nat) : StM := if two then tkY n1 n2 true d lo else (tkY n1 n2 false d lo).submit 2 (kSteps 2 n2)
theorem tkY_room {n1 n2 : Nat} {d : DiskM} {lo : Nat} (hn1 : 1 ≤ n1 ∧ n1 ≤ 6) (hn2 : 1 ≤ n2 ∧ n2 ≤ 6) (hl : d.blocks.length = 120) :
    (((tkY n1 n2 false d lo).j.en : Nat) : Int) + (2 + (2 * (kSteps 2 n2).length - 1) + leftSum (tkY n1 n2 false d lo).sagas) ≤ (tkY n1 n2 false d lo).d.blocks.length := by
  have l1 := new_left 1 (kSteps 1 n1)
  rw [kSteps_len] at l1
  rw [tkY_sagas, tkY_en, kSteps_len]
  show _ ≤ (d.blocks.length : Int)
  simp [leftSum, l1]; omega
theorem tkY_fresh {n1 n2 : Nat} {d : DiskM} {lo : Nat} : ∀ x ∈ (tkY n1 n2 false d lo).sagas, x.id ≠ 2 := by
  rw [tkY_sagas]
  intro x hx
  simp at hx
  rw [hx]; show (1 : Int) ≠ 2; omega
theorem tkZ_facts {n1 n2 : Nat} {two : Bool} {d : DiskM} {lo : Nat} (hn1 : 1 ≤ n1 ∧ n1 ≤ 6) (hn2 : 1 ≤ n2 ∧ n2 ≤ 6) (hq : d.quiet) (hp : d.pend = none) (hl : d.blocks.length = 120) :
    (tkZ n1 n2 two d lo).inv ∧ (tkZ n1 n2 two d lo).fine 1000 ∧ (tkZ n1 n2 two d lo).sagas = [SagaM.new 1 (kSteps 1 n1), SagaM.new 2 (kSteps 2 n2)] ∧ PI 0 (tkZ n1 n2 two d lo) ∧ (tkZ n1 n2 two d lo).clock = 0 ∧ (tkZ n1 n2 two d lo).p.lo = lo := by
  have key : (tkZ n1 n2 two d lo).inv ∧ (tkZ n1 n2 two d lo).fine 1000 ∧ (tkZ n1 n2 two d lo).sagas = [SagaM.new 1 (kSteps 1 n1), SagaM.new 2 (kSteps 2 n2)] ∧ (tkZ n1 n2 two d lo).p = ⟨[], [], [], 0, lo⟩ ∧ (tkZ n1 n2 two d lo).clock = 0 := by
    cases two
    · obtain ⟨i1, i2⟩ := tkY_inv (two := false) (lo := lo) hn1 hn2 hq hp hl
      obtain ⟨j1, j2⟩ := submit_inv (id := 2) (l := kSteps 2 n2) i1 i2 (kSteps_whole 2 n2 (by omega) hn2) tkY_fresh (tkY_room hn1 hn2 hl)
      refine ⟨j1, j2, ?_, rfl, rfl⟩
      show insSaga (SagaM.new 2 (kSteps 2 n2)) (tkY n1 n2 false d lo).sagas = _
      rw [tkY_sagas]
      have : ¬ ((SagaM.new 2 (kSteps 2 n2)).id < (SagaM.new 1 (kSteps 1 n1)).id) := by show ¬ ((2 : Int) < 1); omega
      simp [insSaga, this]
    · obtain ⟨i1, i2⟩ := tkY_inv (two := true) (lo := lo) hn1 hn2 hq hp hl
      refine ⟨i1, i2, ?_, rfl, rfl⟩
      show (tkY n1 n2 true d lo).sagas = _
      rw [tkY_sagas]; rfl
  obtain ⟨k1, k2, k3, k4, k5⟩ := key
  refine ⟨k1, k2, k3, ⟨by rw [k4], ?_, ?_, by rw [k5]; omega⟩, k5, by rw [k4]⟩
  · rw [k3, k4]
    intro g hg
    simp at hg
    rcases hg with rfl | rfl
    · exact .inl ⟨rfl, 0, rfl, by show 0 < (kSteps _ _).length; rw [kSteps_len]; omega, .inl rfl⟩
    · exact .inl ⟨rfl, 0, rfl, by show 0 < (kSteps _ _).length; rw [kSteps_len]; omega, .inl rfl⟩
  · rw [k3]
    intro g hg
    simp at hg
    rcases hg with rfl | rfl
    · exact ⟨rfl, .inl ⟨by show 0 < (kSteps _ _).length; rw [kSteps_len]; omega, rfl, rfl⟩⟩
    · exact ⟨rfl, .inl ⟨by show 0 < (kSteps _ _).length; rw [kSteps_len]; omega, rfl, rfl⟩⟩
theorem tkZ_end {n1 n2 : Nat} {two : Bool} {d : DiskM} {lo : Nat} (hn1 : 1 ≤ n1 ∧ n1 ≤ 6) (hn2 : 1 ≤ n2 ∧ n2 ≤ 6) (hq : d.quiet) (hp : d.pend = none) (hl : d.blocks.length = 120) :
    ∃ g, ((tkZ n1 n2 two d lo).ticks 6).sagas[1]? = some g ∧ g.id = 2 ∧ g.steps.length = n2 ∧ g.st = 3 ∧ Agree n2 g.st g.step (mineOf ((tkZ n1 n2 two d lo).ticks 6).p.effs 2) ∧ ((tkZ n1 n2 two d lo).ticks 6).inv ∧ ((tkZ n1 n2 two d lo).ticks 6).fine 0 := by
  obtain ⟨k1, k2, k3, k4, _, _⟩ := tkZ_facts (two := two) (lo := lo) hn1 hn2 hq hp hl
  have hlen : (tkZ n1 n2 two d lo).sagas.length = 2 := by rw [k3]; rfl
  obtain ⟨p1, p2⟩ := pi_ticks k4 k1 6 (k2.mono (by rw [hlen]; omega))
  obtain ⟨t1, t2, _, _⟩ := ticks_inv (m := 0) k1 6 (k2.mono (by rw [hlen]; omega))
  obtain ⟨g, e1, e2, e3⟩ := p2 1 (SagaM.new 2 (kSteps 2 n2)) (by rw [k3]; rfl)
  have hmem := List.mem_of_getElem? e1
  have hid : g.id = 2 := e2
  have hst : g.steps.length = n2 := by rw [e3]; exact kSteps_len 2 n2
  have hag := p1.ag g hmem
  rw [hid, hst] at hag
  refine ⟨g, e1, hid, hst, ?_, hag, t1, t2⟩
  obtain ⟨_, ⟨h2, _⟩ | ⟨_, h3⟩⟩ := p1.at_ g hmem
  · omega
  · exact h3
end Go.Proofs.YtkafmfdipmhleaaGreatDoor

namespace Go.Proofs.YtkafmfdipmhleaaGreatDoor
open Go.RowKit Go.Maps Go.Shelf

attribute [local go_sem] Oper.semAt_some

/-- What a round of a loop over All keeps. -/
def KpA (n₀ : Nat) (W W' : World) : Prop := Below n₀ W W' ∧ FrK [0, 66, 39] W W'
theorem KpA.refl (n₀ : Nat) (W : World) : KpA n₀ W W := ⟨Below.refl _ _, FrK.refl _ _⟩
theorem KpA.trans {n₀ : Nat} {A B C : World} (h : KpA n₀ A B) (k : KpA n₀ B C) : KpA n₀ A C := ⟨h.1.trans k.1, h.2.trans k.2⟩
theorem grown_below {w w' : World} (h : Below w.heap.size w w') : w.grownBy w' none := ⟨h.os, h.tape, h.output, h.size, fun k hk _ => h.block k hk⟩
theorem abides_below {β : Type} {B : Nat} {J : β → World → Prop} (hJ : AbidesFrom B J) {x : β} {w w' : World} (h : J x w) (hb : Below w.heap.size w w') : J x w' :=
  hJ x w w' none h (grown_below hb) (fun r e => by cases e)
set_option maxHeartbeats 1000000 in
/-- x.All(): the receiver is boxed. -/
theorem all59 (n : Nat) (xb : Nat) (w : World) :
    CallsIn Fence.wide n Tryz.prog 59 #[.pointer (some ⟨xb, 0, none⟩)] w fun e w' => e = .returned (.func (.func 84) #[] #[.pointer (some ⟨w.heap.size, 0, none⟩)]) ∧ w' = w.alloc (.cells #[.pointer (some ⟨xb, 0, none⟩)] 28) := by
  refine callsIn_of_wp Tryz.func59 rfl trivial ?_ rfl
  simp only [Tryz.ntmps59, List.size_toArray, List.length_cons, List.length_nil, Nat.reduceAdd, Nat.reduceSub, Array.replicate_succ, Array.replicate_zero, List.push_toArray, List.append_toArray, List.nil_append, List.cons_append]
  gi_wp2
  go_ret
  exact ⟨rfl, rfl⟩
set_option maxRecDepth 100000 in
set_option maxHeartbeats 4000000 in
/-- The iterator: it goes through the sagas in the order of their numbers. -/
theorem all84 (n : Nat) (hn : 1 ≤ n) {w0 : World} {q : Pl} {bl : List Nat} {s : StM} (hs : StAt w0 q bl s) (ho : s.sagas.Pairwise (fun a b => a.id < b.id)) (hok : ∀ g ∈ s.sagas, 1 ≤ g.id ∧ g.id ≤ 1000) (hl : s.sagas.length ≤ 1000)
    (l Bn : Nat) (J Jx : List SagaM → World → Prop) (W : World) (hJ : AbidesFrom W.heap.size J)
    (hY : ∀ pre x W1, J pre W1 → pre.length < s.sagas.length → YieldAt Fence.wide (n - 1) Tryz.prog l #[.agg x.status] W1 fun e W' =>
      (e = .returned (.bool true) ∧ J (pre ++ [x]) W' ∧ KpA w0.heap.size W1 W') ∨ (e = .returned (.bool false) ∧ Jx (pre ++ [x]) W'))
    (hBn : W.heap[Bn]? = some (.cells #[.pointer (some ⟨q.xb, 0, none⟩)] 28 (0, 0))) (hB : Below w0.heap.size w0 W) (h0 : J [] W) :
    CallsIn Fence.wide n Tryz.prog 84 #[.func (.yield l) #[] #[], .pointer (some ⟨Bn, 0, none⟩)] W fun e W' => (∃ v, e = .returned v) ∧
      ((∃ ys, ys = s.sagas ∧ J ys W') ∨ (∃ pre, pre <+: s.sagas ∧ Jx pre W')) := by
  have Hs := Lib.hid hs
  have Ho := Lib.hid ho
  have Hok := Lib.hid hok
  have hs1 := hs.keepK (below_toK hB (Nat.le_refl _) []) (by simp)
  have hx := hs1.eng
  simp only [egCells] at hx
  have hz : Maps.size (dataOf (ilOf s.sagas bl)) = s.sagas.length := by
    rw [size_dataOf, ilOf, List.length_zip, List.length_map, hs.len]; omega
  have HK := Lib.hid (fun m => (callsIn_wide (n := m)).2 (Keys_calls (some q.mb) W))
  have HS := Lib.hid (fun m => (callsIn_wide (n := m)).2 (Sorted_calls q.mb s.sagas.length (dataOf (ilOf s.sagas bl)) ptrR W hs1.mp (by rw [hz]; unfold maxLen; omega) (by rw [hz]; omega)))
  have Hl := Lib.hid hl
  have HB := Lib.hid hB
  have HY := Lib.hid hY
  have HJ := Lib.hid hJ
  have H0 := Lib.hid h0
  have a1 : W.cell? ⟨Bn, 0, none⟩ = some (.pointer (some ⟨q.xb, 0, none⟩)) := by rw [cellv, hBn]; rfl
  have Hbn : Hid (W.heap[Bn]? = some (.cells #[.pointer (some ⟨q.xb, 0, none⟩)] 28 (0, 0))) := hBn
  clear hs ho hok hl hs1 hz hJ hY hB h0 hBn
  have hcv := cellv W
  refine callsIn_of_wp Tryz.func84 rfl trivial ?_ rfl
  simp only [Tryz.ntmps84, List.size_toArray, List.length_cons, List.length_nil, Nat.reduceAdd, Nat.reduceSub, Array.replicate_succ, Array.replicate_zero, List.push_toArray, List.append_toArray, List.nil_append, List.cons_append]
  gi_wp2_with (first
    | (gi_at_call 48; refine (HK.out _).mono ?_; rintro e w2 ⟨rfl, rfl⟩)
    | (refine ⟨trivial, ?_⟩; gi_at_call 48; refine (HK.out _).mono ?_; rintro e w2 ⟨rfl, rfl⟩)
    | (refine ⟨trivial, ?_⟩; refine (HK.out _).mono ?_; rintro e w2 ⟨rfl, rfl⟩)
    | (refine ⟨trivial, ?_⟩; refine (HS.out _).mono ?_; rintro e w3 ⟨v, ss, rfl, hperm, hown, hnil, hbel⟩; obtain ⟨va, vc, rfl, hva⟩ := ids_shape hown)
    | fail)
  have hb1 : Below W.heap.size W w3 := ((Below.refl _ W).alloc (Nat.le_refl _) (.cells #[.map (some q.mb)] 76)).trans (hbel.mono (by simp))
  have hb3 : Below w0.heap.size w0 w3 := HB.out.trans (hb1.mono HB.out.size)
  have hids := keys_sorted Hs.out.len Ho.out hperm
  rw [hids] at hown
  have hlen : ss.length = s.sagas.length := by
    have := congrArg List.length hids
    simpa using this
  rw [hlen] at hown hva ⊢
  have hbn3 := (hb1.block Bn (lt_of_hp Hbn.out)).trans Hbn.out
  have HJ3 := Lib.hid (abides_below HJ.out H0.out hb1)
  have HB3 := Lib.hid hb3
  have Hbn3 := Lib.hid hbn3
  have Hva := Lib.hid hva
  have Hown := Lib.hid hown
  clear hcv hx a1 hnil hbel hb1 hb3 hids hperm hva hlen hown hbn3 Hbn HJ H0 HK HS
  gi_loopw [12] (fun i wr => ∃ k : Nat, k ≤ s.sagas.length ∧ i = .int .i64 (k : Nat) ∧ J (s.sagas.take k) wr ∧ Below w0.heap.size w0 wr ∧ FrK [0, 66, 39] w3 wr) (fun i _ => s.sagas.length - (intOf i).toNat)
  case atStart => exact ⟨0, Nat.zero_le _, rfl, HJ3.out, HB3.out, FrK.refl _ _⟩
  case round =>
    obtain ⟨k, hk, rfl, hJk, hbl, hfk⟩ := hrel
    have Hbl := Lib.hid hbl
    have Hfk := Lib.hid hfk
    have HJk := Lib.hid hJk
    have hbn := hfk.block _ _ Hbn3.out (by simp [kindOf])
    clear hbl hfk hJk
    by_cases hkn : k < s.sagas.length
    · obtain ⟨g, hg⟩ : ∃ g, s.sagas[k]? = some g := ⟨s.sagas[k], List.getElem?_eq_getElem hkn⟩
      obtain ⟨b, hb, hbo⟩ := blk_of s.sagas bl Hs.out.len Ho.out k g hg
      have hokg := Hok.out g (List.mem_of_getElem? hg)
      have hsr := Hs.out.keepK (below_toK Hbl.out (Nat.le_refl _) []) (by simp)
      have hlk := look_some hsr.mp g.id (by omega) hbo
      have hsg := hsr.sg k g b hg hb
      have hx := hsr.eng
      obtain ⟨sv, hsb, _⟩ := hsg
      simp only [egCells] at hx
      simp only [sgCells] at hsb
      obtain ⟨ib, rfl⟩ : ∃ ib, va = some ⟨ib, 0, none⟩ := by
        rcases Hva.out with h | h
        · omega
        · exact h
      have hgid : (s.sagas.map (·.id))[k]? = some g.id := by rw [List.getElem?_map, hg]; rfl
      have hcell := ints_at (own_keepK Hown.out Hfk.out (by decide)) k g.id hgid
      have htk : s.sagas.take k ++ [g] = s.sagas.take (k + 1) := by
        rw [List.take_succ_eq_append_getElem hkn]
        congr 2
        rw [List.getElem?_eq_getElem hkn] at hg; exact (Option.some.inj hg).symm
      obtain ⟨fn, tmps, assign, body, hy, hR⟩ := HY.out (s.sagas.take k) g wr HJk.out (by rw [List.length_take]; omega)
      rw [htk] at hR
      have HR := Lib.hid hR
      have hkI : (k : Int) < s.sagas.length := by omega
      have Hkn := Lib.hid hkn
      simp only [SagaM.status] at hy
      have hl30 := Hl.out
      clear hb hbo hsr hgid htk hR hg hkn hokg
      have hcv := cellv wr
      have a1 : wr.cell? ⟨Bn, 0, none⟩ = some (.pointer (some ⟨q.xb, 0, none⟩)) := by rw [cellv, hbn]; rfl
      gi_wp2
      refine HR.out.mono ?_
      rintro e W3 (⟨rfl, hJ3, hk3⟩ | ⟨rfl, hJx3⟩)
      · gi_wp2
        go_roundw
        case rel => exact ⟨k + 1, Hkn.out, by go_num, hJ3, Hbl.out.trans hk3.1, Hfk.out.trans hk3.2⟩
        case measure => have := Hkn.out; simp [intOf]; omega
      · gi_wp2
        refine bodyPost_ret (results_none rfl _ _ _) rfl ?_
        exact ⟨⟨_, rfl⟩, .inr ⟨s.sagas.take (k + 1), List.take_prefix _ _, hJx3⟩⟩
    · obtain rfl : k = s.sagas.length := by omega
      have hnk : ¬ ((s.sagas.length : Int) < s.sagas.length) := by omega
      gi_wp2
      go_end0
      exact ⟨⟨_, rfl⟩, .inl (by have := HJk.out; rw [List.take_length] at this; exact this)⟩
end Go.Proofs.YtkafmfdipmhleaaGreatDoor

namespace Go.Proofs.YtkafmfdipmhleaaGreatDoor
open Go.RowKit Go.Maps Go.Shelf

attribute [local go_sem] Oper.semAt_some

theorem FrK.keepsFrom {K : List Nat} {W W' : World} (h : FrK K W W') (hK : 0 ∉ K) (B : Nat) : KeepsFrom B W W' :=
  ⟨h.size, fun k o _ hk ho => h.block k o hk (by cases o <;> first | exact hK | cases ho)⟩
theorem KpA.of {n₀ : Nat} {K : List Nat} {W W' : World} (h : FrK K W W') (hK : ∀ k ∈ K, k ∈ [0, 66, 39]) (hb : Below n₀ W W') : KpA n₀ W W' := ⟨hb, h.mono hK⟩
theorem KpA.put {n₀ : Nat} {w : World} (hn : n₀ ≤ w.heap.size) (W : World) (l : Nat) (o o' : Obj) (hl : w.heap.size ≤ l) (h : W.heap[l]? = some o) (hc : o.isCells = false) (hw : o.isWalk = false) : KpA n₀ W (W.putObj l o') :=
  ⟨belowK_b hn W l o o' hl h hc hw, rfl, rfl, rfl, by simp, fun k x hx hk => by
    have hg := grownBy_putObj' W l o'
    refine (hg.block k (lt_of_hp hx) (fun e => ?_)).trans hx
    cases e
    rw [h] at hx; cases hx
    exact hk (by cases o <;> simp_all [kindOf, Obj.isCells])⟩
theorem Tryz.info38z : (Tryz.prog.info? 38).map (fun i => (i.zero, i.size, i.bytes)) = some (some (.agg #[.int .i64 0, .int .i64 0, .int .i64 0, .int .i64 0, .int .i64 0, .int .i64 0]), 6, 48) := by kernel_rfl
def stCells (l : List SagaM) : List Value := l.flatMap (fun g => g.status.toList)
theorem stCells_len (l : List SagaM) : (stCells l).length = l.length * 6 := by
  induction l with
  | nil => rfl
  | cons a l ih => simp [stCells, SagaM.status] at ih ⊢; omega
theorem stCells_snoc (l : List SagaM) (g : SagaM) : stCells (l ++ [g]) = stCells l ++ g.status.toList := by simp [stCells]
theorem all_stops (n : Nat) (hn : 1 ≤ n) {w0 w : World} {q : Pl} {bl : List Nat} {s : StM} (hs : StAt w0 q bl s) (ho : s.sagas.Pairwise (fun a b => a.id < b.id)) (hok : ∀ g ∈ s.sagas, 1 ≤ g.id ∧ g.id ≤ 1000) (hl : s.sagas.length ≤ 1000)
    (Bn : Nat) (hBn : w.heap[Bn]? = some (.cells #[.pointer (some ⟨q.xb, 0, none⟩)] 28 (0, 0))) (hB : Below w0.heap.size w0 w) :
    SeqStopsK Fence.wide n Tryz.prog 84 #[.pointer (some ⟨Bn, 0, none⟩)] (fun g : SagaM => #[Value.agg g.status]) (KpA w0.heap.size) (fun ys => ys = s.sagas) (fun pre => pre <+: s.sagas) s.sagas.length w :=
  fun l J Jx W hW hJ _ hY h0 => all84 n hn hs ho hok hl l Bn J Jx W hJ hY ((hW.block Bn (lt_of_hp hBn)).trans hBn) (hB.trans (hW.mono hB.size)) h0
set_option maxRecDepth 100000 in
set_option maxHeartbeats 4000000 in
theorem All_calls {w : World} {q : Pl} {bl : List Nat} {s : StM} (hs : StAt w q bl s) (ho : s.sagas.Pairwise (fun a b => a.id < b.id)) (hok : ∀ g ∈ s.sagas, 1 ≤ g.id ∧ g.id ≤ 1000) (hl : s.sagas.length ≤ 100) :
    Calls Tryz.prog 32 #[.pointer (some ⟨q.xb, 0, none⟩), .int .i64 100] w fun e w' => ∃ v, e = .returned v ∧ w'.ownsRow w.heap.size 38 6 v s.sagas.length (stCells s.sagas) ∧ Below w.heap.size w w' := by
  refine (callsIn_wide (n := 10)).1 ?_
  obtain ⟨i0, hi, hz0, hz1, hz2⟩ := info_parts Tryz.info38z
  refine callsIn_of_wp_marks Tryz.func32 rfl trivial ?_ rfl
  simp only [Tryz.ntmps32, List.size_toArray, List.length_cons, List.length_nil, Nat.reduceAdd, Nat.reduceSub, Array.replicate_succ, Array.replicate_zero, List.push_toArray, List.append_toArray, List.nil_append, List.cons_append]
  have Hs := Lib.hid hs
  have Ho := Lib.hid ho
  have Hok := Lib.hid hok
  have Hl := Lib.hid hl
  clear hs ho hok hl
  gi_wp2_with (first
    | (refine ⟨trivial, ?_⟩; refine (all59 9 q.xb _).mono ?_; rintro e w' ⟨rfl, rfl⟩)
    | fail)
  have bM := ((Boxed.new w 3 (.int .i64 100)).alloc (.cells #[.slice none 0 0] 65)).alloc (.cells #[.pointer (some ⟨q.xb, 0, none⟩)] 28)
  have bO := (Boxed.new (w.alloc (.cells #[.int .i64 100] 3)) 65 (.slice none 0 0)).alloc (.cells #[.pointer (some ⟨q.xb, 0, none⟩)] 28)
  have bA := Boxed.new ((w.alloc (.cells #[.int .i64 100] 3)).alloc (.cells #[.slice none 0 0] 65)) 28 (.pointer (some ⟨q.xb, 0, none⟩))
  simp only [World.size_alloc] at bO bA
  have hB0 : Below w.heap.size w (((w.alloc (.cells #[.int .i64 100] 3)).alloc (.cells #[.slice none 0 0] 65)).alloc (.cells #[.pointer (some ⟨q.xb, 0, none⟩)] 28)) := (((Below.refl _ w).alloc (Nat.le_refl _) _).alloc (by simp) _).alloc (by simp; omega) _
  have hsz : (((w.alloc (.cells #[.int .i64 100] 3)).alloc (.cells #[.slice none 0 0] 65)).alloc (.cells #[.pointer (some ⟨q.xb, 0, none⟩)] 28)).heap.size = w.heap.size + 3 := by simp
  obtain ⟨W0, hW0⟩ : ∃ W0, ((w.alloc (.cells #[.int .i64 100] 3)).alloc (.cells #[.slice none 0 0] 65)).alloc (.cells #[.pointer (some ⟨q.xb, 0, none⟩)] 28) = W0 := ⟨_, rfl⟩
  rw [hW0] at bM bO bA hB0 hsz
  simp only [World.size_alloc, hW0]
  refine wpIn_rangeFunc_ownH rfl (by omega) (gf := 84) (lb := #[.pointer (some ⟨w.heap.size + 1 + 1, 0, none⟩)]) rfl trivial (enters_of Tryz.func84 (by kernel_rfl) rfl)
    (all_stops 9 (by omega) Hs.out Ho.out Hok.out (by have := Hl.out; omega) (w.heap.size + 1 + 1) bA hB0) KpA.trans (KpA.put (by omega)) (Below.refl _ _) (fun _ => rfl)
    (fun pre W => ((∃ v, Boxed W (w.heap.size + 1) 65 v ∧ W.ownsRow w.heap.size 38 6 v pre.length (stCells pre) ∧ (v = .slice none 0 0 ↔ pre = [])) ∧ Boxed W w.heap.size 3 (.int .i64 100)) ∧ Below w.heap.size w W)
    (fun _ _ _ => False)
    (OwnFrom.and (OwnFrom.and (Own.from (holdsRow_own w.heap.size (w.heap.size + 1) 65 38 6 (fun pre => pre.length) (fun pre => stCells pre) (fun pre v => v = .slice none 0 0 ↔ pre = [])) _) (Own.from (boxed_own _ _ _) _)) (ownFrom_below (Nat.le_refl _) (by omega)))
    (fun _ _ _ _ _ hs _ _ => hs)
    ⟨⟨⟨_, bO, World.ownsRow_nil _ _ _ _, by simp⟩, bM⟩, hB0⟩
    (fun x a' W => ∃ Bx, w.heap.size + 1 < Bx ∧ W.heap[Bx]? = some (.cells x.status 38 (0, 0)) ∧ a' = { tmps := #[.pointer (some ⟨q.xb, 0, none⟩), .int .i64 100, undef, .pointer (some ⟨w.heap.size, 0, none⟩), .slice none 0 0, .pointer (some ⟨w.heap.size + 1, 0, none⟩), .pointer (some ⟨Bx, 0, none⟩), .int .i64 100, .bool false, .pointer (some ⟨q.xb, 0, none⟩), .func (.func 84) #[] #[.pointer (some ⟨w.heap.size + 1 + 1, 0, none⟩)], .agg x.status, undef, undef, undef, undef, undef, undef, undef, undef, undef], defers := [] })
    (fun x a' _ X Y row hs hg hr => by
      obtain ⟨Bx, h1, h2, h3⟩ := hs
      refine ⟨Bx, h1, (hg.block Bx (lt_of_hp h2) (fun e => ?_)).trans h2, h3⟩
      obtain ⟨_, o, ho, hc⟩ := hr Bx e.symm
      rw [h2] at ho; cases ho; cases hc)
    ?assign ?body ?done ?stop
  case assign =>
    rintro l pre x W K ⟨⟨⟨v, hv, hrow, hnil⟩, bM1⟩, hB1⟩ hK
    have hst : Hid (#[Value.int .i64 x.id, Value.int .i64 x.st, Value.int .i64 x.step, Value.int .i64 x.steps.length, Value.int .i64 x.tries, Value.int .i64 x.due] = x.status) := rfl
    simp only [SagaM.status]
    gi_wp2
    rw [hst.out]
    exact hK _ _ (FrK.keepsFrom (K := []) (((Fr.refl (fun _ => False) W).alloc _).toK (fun _ _ f _ => f.elim)) (by simp) _)
      ⟨(Below.refl _ W).alloc hB1.size _, ((Fr.refl (fun _ => False) W).alloc _).toK (fun _ _ f _ => f.elim)⟩
      ⟨⟨⟨v, hv.alloc _, hrow.alloc _, hnil⟩, bM1.alloc _⟩, hB1.alloc hB1.size _⟩ ⟨W.heap.size, hv.lt, World.alloc_heap_new W _, rfl⟩
  case body =>
    rintro l pre x a' W hl ⟨r, hr⟩ ⟨⟨⟨v, hv, hrow, hnil⟩, bM1⟩, hB1⟩ ⟨Bx, hBx, bX, rfl⟩ hlt
    have hc := hv.cell
    have hm := bM1.cell
    have hne : ¬ ((pre.length : Int) = 100) := by have := Hl.out; omega
    obtain ⟨va, vc, rfl⟩ : ∃ va vc, v = .slice va pre.length vc := by
      rcases hrow.2 with ⟨h1, h2⟩ | ⟨g, cap, cur, h1, _⟩
      · exact ⟨none, 0, by rw [h1, h2]⟩
      · exact ⟨_, _, h1⟩
    have hst : Hid (#[Value.int .i64 x.id, Value.int .i64 x.st, Value.int .i64 x.step, Value.int .i64 x.steps.length, Value.int .i64 x.tries, Value.int .i64 x.due] = x.status) := rfl
    have Hrow := Lib.hid hrow
    have Hv := Lib.hid hv
    have HM1 := Lib.hid bM1
    have HB1 := Lib.hid hB1
    have Hnil := Lib.hid hnil
    simp only [SagaM.status] at bX ⊢
    have hoA := Lib.hid (hrow.alloc (.cells #[Value.int .i64 x.id, Value.int .i64 x.st, Value.int .i64 x.step, Value.int .i64 x.steps.length, Value.int .i64 x.tries, Value.int .i64 x.due] 38))
    have hnews : ∀ (j : Nat) (u : Value), [Value.int .i64 x.id, Value.int .i64 x.st, Value.int .i64 x.step, Value.int .i64 x.steps.length, Value.int .i64 x.tries, Value.int .i64 x.due][j]? = some u → (W.alloc (.cells #[Value.int .i64 x.id, Value.int .i64 x.st, Value.int .i64 x.step, Value.int .i64 x.steps.length, Value.int .i64 x.tries, Value.int .i64 x.due] 38)).cell? ((⟨W.heap.size, 0, none⟩ : Addr).add j) = some u := World.news_of_block (heap_alloc_new W _)
    have Hnews := Lib.hid hnews
    have hlt' := Lib.hid hlt
    clear hrow hv bM1 hB1 hnil hnews hlt hr
    have hcv := cellv W
    gi_wp2_with (first
      | (gi_at_builtin; refine wpListIn_append_own _ rfl _ _ 65 rfl w.heap.size 38 i0 (.agg #[.int .i64 0, .int .i64 0, .int .i64 0, .int .i64 0, .int .i64 0, .int .i64 0]) 6 48 Tryz.underlying65 hi hz0 hz1 hz2 rfl (by decide) _ _ _ rfl hoA.out ⟨W.heap.size, 0, none⟩ 1 1 [Value.int .i64 x.id, Value.int .i64 x.st, Value.int .i64 x.step, Value.int .i64 x.steps.length, Value.int .i64 x.tries, Value.int .i64 x.due] rfl rfl Hnews.out (by intro u hu; simp at hu; rcases hu with rfl | rfl | rfl | rfl | rfl | rfl <;> rfl) (by unfold maxLen; have := hlt'.out; have := Hl.out; omega) (by have := hlt'.out; have := Hl.out; omega) (by have := HB1.out.size; simp; omega) ?_; intro v' w1 hown' hgrow _; obtain ⟨g', cap', rfl⟩ := ownsRow_succ hown'; obtain ⟨hv1, hv2, hr2, hk2, hb2⟩ := Hv.out.appended (by decide) Hrow.out HB1.out.size (by omega) hown' hgrow; have hc1 := hv1.cell; have hf1 := hv1.frozen)
      | fail)
    have hg1 : (W.alloc (.cells #[Value.int .i64 x.id, Value.int .i64 x.st, Value.int .i64 x.step, Value.int .i64 x.steps.length, Value.int .i64 x.tries, Value.int .i64 x.due] 38)).grownBy w1 (Value.slice va pre.length vc).ownBlock := hgrow
    have hF : FrK [66, 39] W (w1.setCell ⟨w.heap.size + 1, 0, none⟩ (.slice (some ⟨g', 0, none⟩) (pre.length + 1) cap')) := by
      refine FrK.trans (b := W.alloc (.cells #[Value.int .i64 x.id, Value.int .i64 x.st, Value.int .i64 x.step, Value.int .i64 x.steps.length, Value.int .i64 x.tries, Value.int .i64 x.due] 38)) (((Fr.refl (fun _ => False) W).alloc _).toK (fun _ _ f _ => f.elim)) (FrK.trans (b := w1) ((Fr.ofGrown hg1).toK ?_) ((Fr.one (w.heap.size + 1) w1 0 _).toK ?_))
      · intro k o hk ho
        obtain ⟨o', ho', hk'⟩ := own_kind hoA.out hk
        rw [ho] at ho'; cases ho'
        simp [hk']
      · rintro k o rfl ho
        rw [show w1.heap[w.heap.size + 1]? = _ from hv1] at ho; cases ho
        simp [kindOf]
    refine ⟨hF.keepsFrom (by simp) _, KpA.of hF (by simp) hb2, ⟨⟨_, hv2, ?_, by simp⟩, hF.block _ _ HM1.out (by simp [kindOf])⟩, HB1.out.trans hb2⟩
    rw [stCells_snoc, List.length_append, List.length_singleton]
    exact hr2
  case done =>
    rintro D ys W hD rfl ⟨⟨⟨v, hv, hrow, hnil⟩, bM1⟩, hB1⟩ hK
    have hc := hv.cell
    obtain ⟨va, vc, rfl⟩ : ∃ va vc, v = .slice va s.sagas.length vc := by
      rcases hrow.2 with ⟨h1, h2⟩ | ⟨g, cap, cur, h1, _⟩
      · exact ⟨none, 0, by rw [h1, h2]⟩
      · exact ⟨_, _, h1⟩
    gi_wp2
    refine ⟨by simp, .inl ⟨_, _, rfl, run_takeDeferred hK, ?_⟩⟩
    exact ⟨_, results_tmp rfl _ _ _, _, rfl, ownsRow_putObj hrow _ hK rfl, hB1.trans (belowK_b (w := w) (Nat.le_refl _) W D _ _ (by omega) hK rfl rfl)⟩
  case stop =>
    rintro D c pre W _ _ h _
    exact h.elim
end Go.Proofs.YtkafmfdipmhleaaGreatDoor

namespace Go.Proofs.YtkafmfdipmhleaaGreatDoor
open Go.RowKit Go.Maps Go.Shelf

attribute [local go_sem] Oper.semAt_some

set_option maxRecDepth 100000 in
set_option maxHeartbeats 4000000 in
theorem All_gen {w : World} {M : Nat} {q : Pl} {bl : List Nat} {s : StM} (hs : StAt w q bl s) (ho : s.sagas.Pairwise (fun a b => a.id < b.id)) (hok : ∀ g ∈ s.sagas, 1 ≤ g.id ∧ g.id ≤ 1000) (hl : s.sagas.length ≤ M ∧ s.sagas.length ≤ 100) (hM : 1 ≤ M) :
    Calls Tryz.prog 32 #[.pointer (some ⟨q.xb, 0, none⟩), .int .i64 (M : Nat)] w fun e w' => ∃ v, e = .returned v ∧ w'.ownsRow w.heap.size 38 6 v s.sagas.length (stCells s.sagas) ∧ Below w.heap.size w w' := by
  refine (callsIn_wide (n := 10)).1 ?_
  obtain ⟨i0, hi, hz0, hz1, hz2⟩ := info_parts Tryz.info38z
  refine callsIn_of_wp_marks Tryz.func32 rfl trivial ?_ rfl
  simp only [Tryz.ntmps32, List.size_toArray, List.length_cons, List.length_nil, Nat.reduceAdd, Nat.reduceSub, Array.replicate_succ, Array.replicate_zero, List.push_toArray, List.append_toArray, List.nil_append, List.cons_append]
  have Hs := Lib.hid hs
  have Ho := Lib.hid ho
  have Hok := Lib.hid hok
  have Hl := Lib.hid hl
  have hM1 : ¬ ((M : Int) < 1) := by omega
  clear hs ho hok hl
  gi_wp2_with (first
    | (refine ⟨trivial, ?_⟩; refine (all59 9 q.xb _).mono ?_; rintro e w' ⟨rfl, rfl⟩)
    | fail)
  have bM := ((Boxed.new w 3 (.int .i64 (M : Nat))).alloc (.cells #[.slice none 0 0] 65)).alloc (.cells #[.pointer (some ⟨q.xb, 0, none⟩)] 28)
  have bO := (Boxed.new (w.alloc (.cells #[.int .i64 (M : Nat)] 3)) 65 (.slice none 0 0)).alloc (.cells #[.pointer (some ⟨q.xb, 0, none⟩)] 28)
  have bA := Boxed.new ((w.alloc (.cells #[.int .i64 (M : Nat)] 3)).alloc (.cells #[.slice none 0 0] 65)) 28 (.pointer (some ⟨q.xb, 0, none⟩))
  simp only [World.size_alloc] at bO bA
  have hB0 : Below w.heap.size w (((w.alloc (.cells #[.int .i64 (M : Nat)] 3)).alloc (.cells #[.slice none 0 0] 65)).alloc (.cells #[.pointer (some ⟨q.xb, 0, none⟩)] 28)) := (((Below.refl _ w).alloc (Nat.le_refl _) _).alloc (by simp) _).alloc (by simp; omega) _
  have hsz : (((w.alloc (.cells #[.int .i64 (M : Nat)] 3)).alloc (.cells #[.slice none 0 0] 65)).alloc (.cells #[.pointer (some ⟨q.xb, 0, none⟩)] 28)).heap.size = w.heap.size + 3 := by simp
  obtain ⟨W0, hW0⟩ : ∃ W0, ((w.alloc (.cells #[.int .i64 (M : Nat)] 3)).alloc (.cells #[.slice none 0 0] 65)).alloc (.cells #[.pointer (some ⟨q.xb, 0, none⟩)] 28) = W0 := ⟨_, rfl⟩
  rw [hW0] at bM bO bA hB0 hsz
  simp only [World.size_alloc, hW0]
  refine wpIn_rangeFunc_ownH rfl (by omega) (gf := 84) (lb := #[.pointer (some ⟨w.heap.size + 1 + 1, 0, none⟩)]) rfl trivial (enters_of Tryz.func84 (by kernel_rfl) rfl)
    (all_stops 9 (by omega) Hs.out Ho.out Hok.out (by have := Hl.out.2; omega) (w.heap.size + 1 + 1) bA hB0) KpA.trans (KpA.put (by omega)) (Below.refl _ _) (fun _ => rfl)
    (fun pre W => ((∃ v, Boxed W (w.heap.size + 1) 65 v ∧ W.ownsRow w.heap.size 38 6 v pre.length (stCells pre) ∧ (v = .slice none 0 0 ↔ pre = [])) ∧ Boxed W w.heap.size 3 (.int .i64 (M : Nat))) ∧ Below w.heap.size w W)
    (fun _ _ _ => False)
    (OwnFrom.and (OwnFrom.and (Own.from (holdsRow_own w.heap.size (w.heap.size + 1) 65 38 6 (fun pre => pre.length) (fun pre => stCells pre) (fun pre v => v = .slice none 0 0 ↔ pre = [])) _) (Own.from (boxed_own _ _ _) _)) (ownFrom_below (Nat.le_refl _) (by omega)))
    (fun _ _ _ _ _ hs _ _ => hs)
    ⟨⟨⟨_, bO, World.ownsRow_nil _ _ _ _, by simp⟩, bM⟩, hB0⟩
    (fun x a' W => ∃ Bx, w.heap.size + 1 < Bx ∧ W.heap[Bx]? = some (.cells x.status 38 (0, 0)) ∧ a' = { tmps := #[.pointer (some ⟨q.xb, 0, none⟩), .int .i64 (M : Nat), undef, .pointer (some ⟨w.heap.size, 0, none⟩), .slice none 0 0, .pointer (some ⟨w.heap.size + 1, 0, none⟩), .pointer (some ⟨Bx, 0, none⟩), .int .i64 (M : Nat), .bool false, .pointer (some ⟨q.xb, 0, none⟩), .func (.func 84) #[] #[.pointer (some ⟨w.heap.size + 1 + 1, 0, none⟩)], .agg x.status, undef, undef, undef, undef, undef, undef, undef, undef, undef], defers := [] })
    (fun x a' _ X Y row hs hg hr => by
      obtain ⟨Bx, h1, h2, h3⟩ := hs
      refine ⟨Bx, h1, (hg.block Bx (lt_of_hp h2) (fun e => ?_)).trans h2, h3⟩
      obtain ⟨_, o, ho, hc⟩ := hr Bx e.symm
      rw [h2] at ho; cases ho; cases hc)
    ?assign ?body ?done ?stop
  case assign =>
    rintro l pre x W K ⟨⟨⟨v, hv, hrow, hnil⟩, bM1⟩, hB1⟩ hK
    have hst : Hid (#[Value.int .i64 x.id, Value.int .i64 x.st, Value.int .i64 x.step, Value.int .i64 x.steps.length, Value.int .i64 x.tries, Value.int .i64 x.due] = x.status) := rfl
    simp only [SagaM.status]
    gi_wp2
    rw [hst.out]
    exact hK _ _ (FrK.keepsFrom (K := []) (((Fr.refl (fun _ => False) W).alloc _).toK (fun _ _ f _ => f.elim)) (by simp) _)
      ⟨(Below.refl _ W).alloc hB1.size _, ((Fr.refl (fun _ => False) W).alloc _).toK (fun _ _ f _ => f.elim)⟩
      ⟨⟨⟨v, hv.alloc _, hrow.alloc _, hnil⟩, bM1.alloc _⟩, hB1.alloc hB1.size _⟩ ⟨W.heap.size, hv.lt, World.alloc_heap_new W _, rfl⟩
  case body =>
    rintro l pre x a' W hl ⟨r, hr⟩ ⟨⟨⟨v, hv, hrow, hnil⟩, bM1⟩, hB1⟩ ⟨Bx, hBx, bX, rfl⟩ hlt
    have hc := hv.cell
    have hm := bM1.cell
    have hne : ¬ ((pre.length : Int) = (M : Int)) := by have := Hl.out.1; omega
    obtain ⟨va, vc, rfl⟩ : ∃ va vc, v = .slice va pre.length vc := by
      rcases hrow.2 with ⟨h1, h2⟩ | ⟨g, cap, cur, h1, _⟩
      · exact ⟨none, 0, by rw [h1, h2]⟩
      · exact ⟨_, _, h1⟩
    have hst : Hid (#[Value.int .i64 x.id, Value.int .i64 x.st, Value.int .i64 x.step, Value.int .i64 x.steps.length, Value.int .i64 x.tries, Value.int .i64 x.due] = x.status) := rfl
    have Hrow := Lib.hid hrow
    have Hv := Lib.hid hv
    have HM1 := Lib.hid bM1
    have HB1 := Lib.hid hB1
    have Hnil := Lib.hid hnil
    simp only [SagaM.status] at bX ⊢
    have hoA := Lib.hid (hrow.alloc (.cells #[Value.int .i64 x.id, Value.int .i64 x.st, Value.int .i64 x.step, Value.int .i64 x.steps.length, Value.int .i64 x.tries, Value.int .i64 x.due] 38))
    have hnews : ∀ (j : Nat) (u : Value), [Value.int .i64 x.id, Value.int .i64 x.st, Value.int .i64 x.step, Value.int .i64 x.steps.length, Value.int .i64 x.tries, Value.int .i64 x.due][j]? = some u → (W.alloc (.cells #[Value.int .i64 x.id, Value.int .i64 x.st, Value.int .i64 x.step, Value.int .i64 x.steps.length, Value.int .i64 x.tries, Value.int .i64 x.due] 38)).cell? ((⟨W.heap.size, 0, none⟩ : Addr).add j) = some u := World.news_of_block (heap_alloc_new W _)
    have Hnews := Lib.hid hnews
    have hlt' := Lib.hid hlt
    clear hrow hv bM1 hB1 hnil hnews hlt hr
    have hcv := cellv W
    gi_wp2_with (first
      | (gi_at_builtin; refine wpListIn_append_own _ rfl _ _ 65 rfl w.heap.size 38 i0 (.agg #[.int .i64 0, .int .i64 0, .int .i64 0, .int .i64 0, .int .i64 0, .int .i64 0]) 6 48 Tryz.underlying65 hi hz0 hz1 hz2 rfl (by decide) _ _ _ rfl hoA.out ⟨W.heap.size, 0, none⟩ 1 1 [Value.int .i64 x.id, Value.int .i64 x.st, Value.int .i64 x.step, Value.int .i64 x.steps.length, Value.int .i64 x.tries, Value.int .i64 x.due] rfl rfl Hnews.out (by intro u hu; simp at hu; rcases hu with rfl | rfl | rfl | rfl | rfl | rfl <;> rfl) (by unfold maxLen; have := hlt'.out; have := Hl.out.2; omega) (by have := hlt'.out; have := Hl.out.2; omega) (by have := HB1.out.size; simp; omega) ?_; intro v' w1 hown' hgrow _; obtain ⟨g', cap', rfl⟩ := ownsRow_succ hown'; obtain ⟨hv1, hv2, hr2, hk2, hb2⟩ := Hv.out.appended (by decide) Hrow.out HB1.out.size (by omega) hown' hgrow; have hc1 := hv1.cell; have hf1 := hv1.frozen)
      | fail)
    have hg1 : (W.alloc (.cells #[Value.int .i64 x.id, Value.int .i64 x.st, Value.int .i64 x.step, Value.int .i64 x.steps.length, Value.int .i64 x.tries, Value.int .i64 x.due] 38)).grownBy w1 (Value.slice va pre.length vc).ownBlock := hgrow
    have hF : FrK [66, 39] W (w1.setCell ⟨w.heap.size + 1, 0, none⟩ (.slice (some ⟨g', 0, none⟩) (pre.length + 1) cap')) := by
      refine FrK.trans (b := W.alloc (.cells #[Value.int .i64 x.id, Value.int .i64 x.st, Value.int .i64 x.step, Value.int .i64 x.steps.length, Value.int .i64 x.tries, Value.int .i64 x.due] 38)) (((Fr.refl (fun _ => False) W).alloc _).toK (fun _ _ f _ => f.elim)) (FrK.trans (b := w1) ((Fr.ofGrown hg1).toK ?_) ((Fr.one (w.heap.size + 1) w1 0 _).toK ?_))
      · intro k o hk ho
        obtain ⟨o', ho', hk'⟩ := own_kind hoA.out hk
        rw [ho] at ho'; cases ho'
        simp [hk']
      · rintro k o rfl ho
        rw [show w1.heap[w.heap.size + 1]? = _ from hv1] at ho; cases ho
        simp [kindOf]
    refine ⟨hF.keepsFrom (by simp) _, KpA.of hF (by simp) hb2, ⟨⟨_, hv2, ?_, by simp⟩, hF.block _ _ HM1.out (by simp [kindOf])⟩, HB1.out.trans hb2⟩
    rw [stCells_snoc, List.length_append, List.length_singleton]
    exact hr2
  case done =>
    rintro D ys W hD rfl ⟨⟨⟨v, hv, hrow, hnil⟩, bM1⟩, hB1⟩ hK
    have hc := hv.cell
    obtain ⟨va, vc, rfl⟩ : ∃ va vc, v = .slice va s.sagas.length vc := by
      rcases hrow.2 with ⟨h1, h2⟩ | ⟨g, cap, cur, h1, _⟩
      · exact ⟨none, 0, by rw [h1, h2]⟩
      · exact ⟨_, _, h1⟩
    gi_wp2
    refine ⟨by simp, .inl ⟨_, _, rfl, run_takeDeferred hK, ?_⟩⟩
    exact ⟨_, results_tmp rfl _ _ _, _, rfl, ownsRow_putObj hrow _ hK rfl, hB1.trans (belowK_b (w := w) (Nat.le_refl _) W D _ _ (by omega) hK rfl rfl)⟩
  case stop =>
    rintro D c pre W _ _ h _
    exact h.elim
end Go.Proofs.YtkafmfdipmhleaaGreatDoor

namespace Go.Proofs.YtkafmfdipmhleaaGreatDoor
open Go.RowKit Go.Maps

def subStr : ByteArray := ⟨#[115, 117, 98, 109, 105, 116]⟩
set_option maxRecDepth 100000 in
set_option maxHeartbeats 2000000 in
/-- A saga that is none. -/
theorem Submit_bad {w : World} {q : Pl} {bl : List Nat} {s : StM} {id : Int} {l : List (ByteArray × ByteArray)} {v : Value} (hs : StAt w q bl s) (hv : SlAt w v l) (hll : l.length ≤ 1000) (hw : wholeB id l = false) :
    Calls Tryz.prog 18 #[.pointer (some ⟨q.xb, 0, none⟩), .int .i64 id, v] w (FailPost w subStr 1) := by
  have hsh : ∃ a c, v = .slice a l.length c := by
    rcases hv with ⟨rfl, a, c, rfl⟩ | ⟨b, off, cap, _, e, _⟩
    · exact ⟨a, c, rfl⟩
    · exact ⟨_, _, e⟩
  have HW := Lib.hid (Whole_calls w id l v hv hll)
  obtain ⟨a, c, rfl⟩ := hsh
  rw [hw] at HW
  have hx := hs.eng
  simp only [egCells] at hx
  clear hs hv hll hw
  have hcv := cellv w
  go_enter Tryz.func18, Tryz.ntmps18
  go_wp2_with (first
    | (go_at_call 41; refine Calls.mono HW.out ?_; rintro e w2 ⟨rfl, hf2⟩)
    | (go_at_call 40; refine Calls.mono (fail_calls w2 subStr 1) ?_; rintro e w3 ⟨v, rfl, hv3, hf3⟩)
    | fail)
  go_ret
  obtain ⟨fb, h1, h2, h3⟩ := hv3
  exact ⟨v, rfl, ⟨fb, Nat.le_trans hf2.size h1, h2, h3⟩, hf2.trans hf3⟩
set_option maxRecDepth 100000 in
set_option maxHeartbeats 2000000 in
/-- A saga of this number is there: the same one, or another. -/
theorem Submit_there {w : World} {q : Pl} {bl : List Nat} {s : StM} {i : Nat} {g : SagaM} {l : List (ByteArray × ByteArray)} {v : Value} (hs : StAt w q bl s) (hi : s.inv) (hg : s.sagas[i]? = some g) (hv : StepsAt w v l) (hw : wholeB g.id l = true) :
    Calls Tryz.prog 18 #[.pointer (some ⟨q.xb, 0, none⟩), .int .i64 g.id, v] w fun e w' => New w w' ∧ (if l = g.steps then e = .returned .nilIface else ∃ x, e = .returned x ∧ FaultAt w w' subStr 2 x) := by
  have hws := whole_small hw
  obtain ⟨b, hb, hbo⟩ := blk_of s.sagas bl hs.len hi.ord i g hg
  have hgok := hi.ok g (List.mem_of_getElem? hg)
  obtain ⟨sa, sn, sc, rfl⟩ := hv.shape
  have HW := Lib.hid (Whole_calls w g.id l _ (.inr hv) (by have := hws.2.2.2.1; omega))
  rw [hw] at HW
  have HS := Lib.hid (fun (w2 : World) (hf : New w w2) => Same_calls ((hs.keepK (hf.toK (K := []) (fun _ _ f _ => f.elim)) (by simp)).sg i g b hg hb) l _ (hv.frame hf (fun _ f => f.elim)) (by have := hws.2.2.2.1; omega) (by have := hgok.2.2.1.2.1; omega))
  have HL := Lib.hid (fun (w2 : World) (hf : New w w2) => look_some (hs.keepK (hf.toK (K := []) (fun _ _ f _ => f.elim)) (by simp)).mp g.id (by omega) hbo)
  have Hx := Lib.hid hs.eng
  have hx := hs.eng
  simp only [egCells] at hx
  clear hs hi hg hv hw hb hbo hgok hws
  have hcv := cellv w
  go_enter Tryz.func18, Tryz.ntmps18
  go_upto_region 5 with (first
    | (go_at_call 41; refine Calls.mono HW.out ?_; rintro e w2 ⟨rfl, hf2⟩)
    | fail)
  have hx2 := hf2.get Hx.out (fun f => f)
  have hlk := HL.out w2 hf2
  have HS2 := Lib.hid (HS.out w2 hf2)
  have Hf2 := Lib.hid hf2
  simp only [egCells] at hx2
  clear hcv hx hf2
  have hcv := cellv w2
  by_cases he : l = g.steps
  · rw [decide_eq_true he] at HS2
    have He := Lib.hid he
    clear he
    go_wp2_with (first
      | (go_at_call 42; refine Calls.mono HS2.out ?_; rintro e w3 ⟨rfl, n3, rfl⟩)
      | fail)
    go_ret
    exact ⟨Hf2.out.drewN n3, rfl⟩
  · rw [decide_eq_false he] at HS2
    have He := Lib.hid he
    clear he
    go_wp2_with (first
      | (go_at_call 42; refine Calls.mono HS2.out ?_; rintro e w3 ⟨rfl, n3, rfl⟩)
      | (go_at_call 40; refine Calls.mono (fail_calls (w2.drewN n3) subStr 2) ?_; rintro e w4 ⟨v, rfl, hv4, hf4⟩)
      | fail)
    go_ret
    obtain ⟨fb, h1, h2, h3⟩ := hv4
    exact ⟨(Hf2.out.drewN n3).trans hf4, v, rfl, fb, Nat.le_trans Hf2.out.size h1, h2, h3⟩
end Go.Proofs.YtkafmfdipmhleaaGreatDoor

namespace Go.Proofs.YtkafmfdipmhleaaGreatDoor
open Go.RowKit Go.Maps

def sp0 (r : List Int) (B lo : Nat) : StM := StM.fresh B 1 ⟨[], [], rest300 r, 0, lo⟩
theorem spNeed_succ (c : Int) (j : Nat) : spNeed c (j + 1) = spNeed c j + 2 * manyM c ((j : Int) + 1) + 2 := by
  show spNeed c j + 2 * manyM c ((j + 1 : Nat) : Int) + 2 = _
  rw [show ((j + 1 : Nat) : Int) = (j : Int) + 1 by omega]
theorem sp_meas (j k : Nat) (h : j < k) : k + 1 - ((j : Int) + 1 + 1).toNat < k + 1 - ((j : Int) + 1).toNat := by omega
theorem sp_all {c : Int} {r : List Int} {lo B : Nat} (hr : r.length ≤ 60) (hB0 : 1 ≤ B ∧ B ≤ 1000) (j : Nat) (hj : j ≤ 12) (hB : spNeed c j ≤ B) : SpI c (rest300 r) lo B j (spM c (sp0 r B lo) j) := spI_all hr hB0 j hj hB
theorem sp_sub {w : World} {q : Pl} {lo B j : Nat} {bl : List Nat} {c : Int} {r : List Int} {v : Value} (hr : r.length ≤ 60) (hB : 1 ≤ B ∧ B ≤ 1000) (hj : j < 12) (hBn : spNeed c (j + 1) ≤ B)
    (hs : StAt w q bl (spM c (sp0 r B lo) j)) (hv : StepsAt w v (kSteps ((j + 1 : Nat) : Int) (spN c (j + 1)))) :
    Calls Tryz.prog 18 #[.pointer (some ⟨q.xb, 0, none⟩), .int .i64 ((j + 1 : Nat) : Int), v] w fun e w' => e = .returned .nilIface ∧ (∃ bl', StAt w' q bl' (spSub c (spM c (sp0 r B lo) j) (j + 1))) ∧ FrK [0, 103, 104, 133, 80] w w' ∧ Low lo w w' := by
  have hI := sp_all (c := c) (lo := lo) hr hB j (by omega) (by have := spNeed_mono c j (j + 1) (by omega); omega)
  have hN := spN_range c (j + 1)
  have := Submit_calls (id := ((j + 1 : Nat) : Int)) (l := kSteps ((j + 1 : Nat) : Int) (spN c (j + 1))) hs hI.inv hv (kSteps_whole _ _ (by omega) (by omega)) (spI_new hI) (spI_room hI hBn)
  rw [show (spM c (sp0 r B lo) j).p.lo = lo from hI.lo] at this
  exact this
theorem sp_tick {w : World} {q : Pl} {lo B j : Nat} {bl : List Nat} {c : Int} {r : List Int} (hr : r.length ≤ 60) (hB : 1 ≤ B ∧ B ≤ 1000) (hj : j < 12) (hBn : spNeed c (j + 1) ≤ B)
    (hs : StAt w q bl (spSub c (spM c (sp0 r B lo) j) (j + 1))) :
    Calls Tryz.prog 20 #[.pointer (some ⟨q.xb, 0, none⟩)] w fun e w' => e = .returned .nilIface ∧ StAt w' q bl (spM c (sp0 r B lo) (j + 1)) ∧ FrK KT w w' ∧ Low lo w w' := by
  have hI := sp_all (c := c) (lo := lo) hr hB j (by omega) (by have := spNeed_mono c j (j + 1) (by omega); omega)
  obtain ⟨i1, i2, i3, i4, i5, i6⟩ := spI_sub hI hj hBn
  have hlen : (spSub c (spM c (sp0 r B lo) j) (j + 1)).sagas.length = j + 1 := by have := congrArg List.length i3; simpa using this
  have hck : (spSub c (spM c (sp0 r B lo) j) (j + 1)).clock = (j : Int) := hI.clock
  have := Tick_calls (m := 0) hs i1 (StM.fine.mono i2 (by rw [hlen]; omega)) (by rw [hck]; omega)
  rw [show (spSub c (spM c (sp0 r B lo) j) (j + 1)).p.lo = lo from hI.lo] at this
  exact this
theorem sp_tick2 {w : World} {q : Pl} {lo B k t : Nat} {bl : List Nat} {c : Int} {r : List Int} (hr : r.length ≤ 60) (hB : 1 ≤ B ∧ B ≤ 1000) (hk : k ≤ 12) (hBn : spNeed c k ≤ B) (ht : t < 120)
    (hs : StAt w q bl ((spM c (sp0 r B lo) k).ticks t)) :
    Calls Tryz.prog 20 #[.pointer (some ⟨q.xb, 0, none⟩)] w fun e w' => e = .returned .nilIface ∧ StAt w' q bl ((spM c (sp0 r B lo) k).ticks (t + 1)) ∧ FrK KT w w' ∧ Low lo w w' := by
  have hI := sp_all (c := c) (lo := lo) hr hB k hk hBn
  have hlen := spI_len hI
  have hb : (t + 1) * (sp0 r B lo |> fun s => (spM c s k).sagas.length) ≤ 120 * 12 := by
    show (t + 1) * (spM c (sp0 r B lo) k).sagas.length ≤ _
    rw [show (spM c (sp0 r B lo) k).sagas.length = k from hlen]; exact Nat.mul_le_mul (by omega) hk
  have hb' : t * (spM c (sp0 r B lo) k).sagas.length + (spM c (sp0 r B lo) k).sagas.length ≤ 1440 := by
    have := hb
    simp only at this
    rw [Nat.add_mul, Nat.one_mul] at this; omega
  obtain ⟨a1, a2, a3, a4⟩ := ticks_inv (m := (spM c (sp0 r B lo) k).sagas.length) hI.inv t (StM.fine.mono hI.fine (by show (spM c (sp0 r B lo) k).sagas.length + t * (spM c (sp0 r B lo) k).sagas.length ≤ _; omega))
  have := Tick_calls (m := 0) hs a1 (by rw [a4, Nat.zero_add]; exact a2) (by rw [a3, hI.clock]; omega)
  rw [show ((spM c (sp0 r B lo) k).ticks t).p.lo = lo from (ticks_lo _ t).trans hI.lo] at this
  exact this
theorem stCells_at (l : List SagaM) (t o : Nat) (g : SagaM) (u : Value) (hg : l[t]? = some g) (hu : g.status.toList[o]? = some u) : (stCells l)[t * 6 + o]? = some u := by
  have hs : g.status.toList.length = 6 := rfl
  induction l generalizing t with
  | nil => simp at hg
  | cons a l ih =>
    have e : stCells (a :: l) = a.status.toList ++ stCells l := by simp [stCells]
    have ha : a.status.toList.length = 6 := rfl
    rw [e]
    cases t with
    | zero =>
      simp at hg
      subst hg
      have ho : o < a.status.toList.length := (List.getElem?_eq_some_iff.1 hu).1
      rw [Nat.zero_mul, Nat.zero_add, List.getElem?_append_left ho]; exact hu
    | succ t =>
      rw [List.getElem?_append_right (by omega), ha, show (t + 1) * 6 + o - 6 = t * 6 + o by omega]
      exact ih t (by simpa using hg)
theorem st_cells {w : World} {B gb n cap : Nat} {l : List SagaM} (h : w.ownsRow B 38 6 (.slice (some ⟨gb, 0, none⟩) n cap) n (stCells l)) (t : Nat) (g : SagaM) (hg : l[t]? = some g) :
    w.cell? ⟨gb, t * 6, none⟩ = some (.int .i64 g.id) ∧ w.cell? ⟨gb, t * 6 + 1, none⟩ = some (.int .i64 g.st) ∧ w.cell? ⟨gb, t * 6 + 2, none⟩ = some (.int .i64 g.step) ∧ w.cell? ⟨gb, t * 6 + 3, none⟩ = some (.int .i64 g.steps.length) ∧ w.cell? ⟨gb, t * 6 + 4, none⟩ = some (.int .i64 g.tries) ∧ w.cell? ⟨gb, t * 6 + 5, none⟩ = some (.int .i64 g.due) := by
  have key : ∀ (o : Nat) (u : Value), g.status.toList[o]? = some u → w.cell? ⟨gb, t * 6 + o, none⟩ = some u := by
    intro o u hu
    have hx := stCells_at l t o g u hg hu
    have := h.cellAt (t * 6 + o) (by have := h.1; have := (List.getElem?_eq_some_iff.1 hx).1; omega)
    rw [this]; exact hx
  exact ⟨key 0 _ rfl, key 1 _ rfl, key 2 _ rfl, key 3 _ rfl, key 4 _ rfl, key 5 _ rfl⟩
set_option maxRecDepth 100000 in
set_option maxHeartbeats 4000000 in
theorem Spare_calls {w : World} {c n : Int} {v : Value} {l : List Int} (hv : IntsIn w v l) (hc : i64 c) (hn : i64 n) :
    Calls Tryz.prog 6 #[.int .i64 c, v, .int .i64 n] w fun e w' => e = .returned (.bool true) ∧ Low w.heap.size w w' := by
  have HFew := Lib.hid (few_in hv 60 (by omega))
  have hkz : 1 ≤ 1 + pickM n 12 ∧ 1 + pickM n 12 ≤ 12 := by have := pickM_range n 12 (by omega); omega
  have hw2 : wrap64 (pickM n 12 + 1) = 1 + pickM n 12 := by rw [Int.add_comm]; exact wrap_in _ (by omega)
  have hw2' : wrap64 (1 + pickM n 12) = 1 + pickM n 12 := wrap_in _ (by omega)
  have Hc := Lib.hid hc
  have Hn := Lib.hid hn
  clear hv hc hn
  go_enter Tryz.func6, Tryz.ntmps6
  go_upto_region 2 with (first
    | (go_at_call 14; refine Calls.mono HFew.out ?_; rintro e w1 ⟨v1, rfl, hown1, hf1⟩)
    | (refine wpl_append_zeros rfl (.tmp 22) (.const (.int .i64 300)) rfl w.heap.size v1 (l.take 60).length 300 ((l.take 60).map encZ) rfl hown1 rfl (by omega) (by rw [List.length_take]; omega) hf1.size ?_; intro v2 w2 hown2 hg2)
    | fail)
  have hown2' : w2.ownsRow w.heap.size 3 1 v2 (rest300 (l.take 60)).length ((rest300 (l.take 60)).map encZ) := by
    have e1 : (rest300 (l.take 60)).length = (l.take 60).length + 300 := by rw [rest300, List.length_append, List.length_replicate]
    have e2 : (rest300 (l.take 60)).map encZ = (l.take 60).map encZ ++ List.replicate 300 (.int .i64 0) := by rw [rest300, List.map_append, List.map_replicate]
    rw [e1, e2]; exact hown2
  have hL2 : Low w.heap.size w w2 := (hf1.low (Nat.le_refl _) (fun _ f => f.elim)).trans ((Fr.ofGrown hg2).low hf1.size (fun k hk => (hown1.lt k hk).1))
  have hr60 : (l.take 60).length ≤ 60 := by rw [List.length_take]; omega
  have Hown2 := Lib.hid hown2'
  have HL2 := Lib.hid hL2
  have Hr60 := Lib.hid hr60
  clear hown1 hf1 hown2 hg2 hown2' hL2 hr60
  generalize l.take 60 = r at Hown2 Hr60
  have hlenR : (rest300 r).length ≤ 1000 := by rw [rest300, List.length_append, List.length_replicate]; have := Hr60.out; omega
  have HNP := Lib.hid (NewPartner_calls (own_ints Hown2.out) hlenR w.heap.size HL2.out.size)
  clear hlenR
  generalize hRR : rest300 r = R at HNP Hown2
  have HRR := Lib.hid hRR
  clear hRR
  go_upto_region 3 with (first
    | (go_at_call 15; refine Calls.mono HNP.out ?_; rintro e w3 ⟨pb, rfl, hpb, hp3, hf3⟩)
    | fail)
  have HP2 := Lib.hid (pick_calls w3 n 12 Hn.out (by omega))
  have Hp3 := Lib.hid hp3
  have HL3 := Lib.hid (HL2.out.trans (hf3.low HL2.out.size (fun _ f => f.elim)))
  clear hp3 hf3 hpb HFew HNP
  go_upto_region 4 with (first
    | (go_at_call 16; refine Calls.mono HP2.out ?_; rintro e w4 ⟨rfl, rfl⟩)
    | fail)
  obtain ⟨k, hk⟩ : ∃ k : Nat, 1 + pickM n 12 = (k : Int) := ⟨(1 + pickM n 12).toNat, by omega⟩
  have hk12 : Hid (1 ≤ k ∧ k ≤ 12) := by show _ ∧ _; omega
  rw [hk]
  clear hw2 hw2' hkz hk HP2
  go_wp2_with fail
  go_loopw [10, 11] (fun nd i wr => ∃ j : Nat, j ≤ k ∧ i = .int .i64 ((j : Int) + 1) ∧ nd = .int .i64 (spNeed c j) ∧ wr = w4) (fun _ i _ => k + 1 - (intOf i).toNat)
  case atStart => exact ⟨0, Nat.zero_le _, rfl, rfl, rfl⟩
  case round =>
    obtain ⟨j, hj, rfl, rfl, rfl⟩ := hrel
    have Hj := Lib.hid hj
    clear hj
    by_cases hjk : j < k
    · have hlt : ((j : Int) + 1) ≤ k := by omega
      have HM := Lib.hid (many_calls wr c ((j : Int) + 1) Hc.out (by have := hk12.out; omega))
      have hm6 := manyM_range c ((j : Int) + 1)
      have hnr := spNeed_range c j
      have hw3 : wrap64 (2 * manyM c ((j : Int) + 1)) = 2 * manyM c ((j : Int) + 1) := wrap_in _ (by omega)
      have hw4 : wrap64 (spNeed c j + 2 * manyM c ((j : Int) + 1)) = spNeed c j + 2 * manyM c ((j : Int) + 1) := wrap_in _ (by have := hk12.out; omega)
      have hw5 : wrap64 (spNeed c j + 2 * manyM c ((j : Int) + 1) + 2) = spNeed c j + 2 * manyM c ((j : Int) + 1) + 2 := wrap_in _ (by have := hk12.out; omega)
      have hw6 : wrap64 (((j : Int) + 1) + 1) = (j : Int) + 1 + 1 := wrap_in _ (by have := hk12.out; omega)
      have Hjk := Lib.hid hjk
      clear hm6 hnr hjk
      go_wp2_with (first
        | (go_at_call 24; refine Calls.mono HM.out ?_; rintro e w4 ⟨rfl, rfl⟩)
        | fail)
      go_roundw
      case rel => exact ⟨j + 1, Hjk.out, by simp [hw6], by simp only [hw3, hw4, hw5, spNeed_succ], by first | rfl | trivial⟩
      case measure =>
        have h9 := Hjk.out
        generalize wrap64 ((j : Int) + 1 + 1) = z at hw6 ⊢
        subst hw6
        clear hw3 hw4 hw5 hlt
        exact sp_meas j k h9
    · obtain rfl : j = k := by have := Hj.out; omega
      have hnlt : ¬ (((j : Int) + 1) ≤ j) := by omega
      have hnr := spNeed_range c j
      have hn8 : ¬ (spNeed c j < 8) := by have := hk12.out; omega
      obtain ⟨B, hB⟩ : ∃ B : Nat, spNeed c j = (B : Int) := ⟨(spNeed c j).toNat, by have := hk12.out; omega⟩
      have hB8 : Hid (8 ≤ B ∧ B ≤ 400 ∧ spNeed c j ≤ B) := by show _ ∧ _; have := hk12.out; omega
      have HB := Lib.hid (begun_calls (n := B) Hp3.out (by have := hB8.out; omega) (pause := 1) (by omega))
      rw [hB] at hn8 ⊢
      clear hnr hjk
      have hB' := Lib.hid hB
      clear hB
      go_upto_region 14 with (first
        | (go_at_call 17; refine Calls.mono HB.out ?_; rintro e w6 ⟨q, hqp, rfl, hs6, hl6, hz6⟩)
        | fail)
      have HL6 := Lib.hid (HL3.out.trans hl6)
      have hs6' : StAt w6 q [] (spM c (sp0 r B w.heap.size) 0) := by
        show StAt w6 q [] (StM.fresh B 1 ⟨[], [], rest300 r, 0, w.heap.size⟩)
        rw [HRR.out]; exact hs6
      have Hs6 := Lib.hid hs6'
      clear hs6 hs6' hl6 hz6 hn8 hnlt
      have Hqp := Lib.hid hqp
      clear hqp
      have hk12' := Lib.hid hk12.out
      go_wp2_with fail
      go_loopw [14] (fun i wr => ∃ m : Nat, m ≤ j ∧ i = .int .i64 ((m : Int) + 1) ∧ (∃ bl, StAt wr q bl (spM c (sp0 r B w.heap.size) m)) ∧ Low w.heap.size w wr) (fun i _ => j + 1 - (intOf i).toNat)
      case atStart => exact ⟨0, Nat.zero_le _, rfl, ⟨_, Hs6.out⟩, HL6.out⟩
      case round =>
        obtain ⟨m, hm, rfl, ⟨bl, hsm⟩, hlm⟩ := hrel
        have Hsm := Lib.hid hsm
        have Hlm := Lib.hid hlm
        have Hm := Lib.hid hm
        clear hsm hlm hm
        by_cases hmj : m < j
        · have Hmj := Lib.hid hmj
          have hlt : (m : Int) + 1 ≤ j := by omega
          have hnum : Hid (spNeed c (m + 1) ≤ B) := by
            have h1 := spNeed_mono c (m + 1) j Hmj.out
            have h2 := hB8.out.2.2
            show _ ≤ _; omega
          have hsn := (spN_range c (m + 1)).2.2
          rw [show ((m + 1 : Nat) : Int) = (m : Int) + 1 by omega] at hsn
          have HM := Lib.hid (many_calls wr c ((m : Int) + 1) Hc.out (by have := hk12.out; omega))
          have HS := Lib.hid (steps_calls wr ((m : Int) + 1) (spN c (m + 1)) (by have := hk12.out; omega) (by have := spN_range c (m + 1); omega))
          have HSub := Lib.hid (fun (w7 : World) (v : Value) (hf7 : New wr w7) (hv : StepsAt w7 v (kSteps ((m + 1 : Nat) : Int) (spN c (m + 1)))) => sp_sub Hr60.out (by have := hB8.out; omega) (by have := hk12.out; have := Hmj.out; omega) hnum.out (Hsm.out.keepK (hf7.toK (K := []) (fun _ _ f _ => f.elim)) (by simp)) hv)
          rw [show ((m + 1 : Nat) : Int) = (m : Int) + 1 by omega] at HSub
          have HT := Lib.hid (fun (w8 : World) (bl' : List Nat) (hs8 : StAt w8 q bl' (spSub c (spM c (sp0 r B w.heap.size) m) (m + 1))) => sp_tick Hr60.out (by have := hB8.out; omega) (by have := hk12.out; have := Hmj.out; omega) hnum.out hs8)
          have hsn' := Lib.hid hsn
          clear hmj
          rw [hsn] at HS
          clear hsn
          go_upto_region 16 with (first
            | (go_at_call 24; refine Calls.mono HM.out ?_; rintro e w7 ⟨rfl, rfl⟩)
            | (go_at_call 19; refine Calls.mono HS.out ?_; rintro e w7 ⟨sv, rfl, hsv, hf7⟩; obtain ⟨sa, sn, sc, rfl⟩ := own_slice hsv)
            | (go_at_call 18; refine Calls.mono (HSub.out _ _ hf7 (hsv.at (by rw [kSteps_len]; have := spN_range c (m + 1); omega))) ?_; rintro e w8 ⟨rfl, ⟨bl', hs8⟩, hk8, hl8⟩)
            | (go_at_call 20; refine Calls.mono (HT.out _ _ hs8) ?_; rintro e w9 ⟨rfl, hs9, hk9, hl9⟩)
            | fail)
          have HL9 := Lib.hid ((Hlm.out.trans (hf7.low Hlm.out.size (fun _ f => f.elim))).trans (hl8.trans hl9))
          have Hs9 := Lib.hid hs9
          have hw6 : wrap64 ((m : Int) + 1 + 1) = (m : Int) + 1 + 1 := wrap_in _ (by have := hk12.out; have := Hmj.out; omega)
          clear hf7 hsv hs8 hk8 hl8 hs9 hk9 hl9
          go_wp2_with fail
          go_roundw
          case rel => exact ⟨m + 1, Hmj.out, by simp [hw6], ⟨bl', Hs9.out⟩, HL9.out⟩
          case measure =>
            have h9 := Hmj.out
            generalize wrap64 ((m : Int) + 1 + 1) = z at hw6 ⊢
            subst hw6
            clear hlt
            exact sp_meas m j h9
        · obtain rfl : m = j := by have := Hm.out; omega
          have hnlt : ¬ ((m : Int) + 1 ≤ m) := by omega
          have hI := sp_all (c := c) (r := r) (lo := w.heap.size) (B := B) Hr60.out (by have := hB8.out; omega) m (by have := hk12.out; omega) hB8.out.2.2
          have HI := Lib.hid hI
          have HEnd := Lib.hid (spI_end Hr60.out hI (by have := hk12.out; omega))
          have HTk := Lib.hid (fun (t : Nat) (w8 : World) (ht : t < 120) (hs8 : StAt w8 q bl ((spM c (sp0 r B w.heap.size) m).ticks t)) => sp_tick2 Hr60.out (by have := hB8.out; omega) (by have := hk12.out; omega) hB8.out.2.2 ht hs8)
          generalize hSS : spM c (sp0 r B w.heap.size) m = S0 at Hsm HI HEnd HTk
          clear hI hSS hmj
          go_wp2_with fail
          go_loopw [16] (fun i wr => ∃ t : Nat, t ≤ 120 ∧ i = .int .i64 (t : Nat) ∧ StAt wr q bl (S0.ticks t) ∧ Low w.heap.size w wr) (fun i _ => 120 - (intOf i).toNat)
          case atStart => exact ⟨0, Nat.zero_le _, rfl, Hsm.out, Hlm.out⟩
          case round =>
            obtain ⟨t, ht, rfl, hst, hlt⟩ := hrel
            have Hst := Lib.hid hst
            have Hlt := Lib.hid hlt
            have Ht := Lib.hid ht
            clear hst hlt ht
            by_cases htT : t < 120
            · have HTk1 := Lib.hid (HTk.out t _ htT Hst.out)
              have htI : (t : Int) < 120 := by omega
              have htl := Lib.hid htT
              clear htT
              go_wp2_with (first
                | (go_at_call 20; refine Calls.mono HTk1.out ?_; rintro e w9 ⟨rfl, hs9, hk9, hl9⟩)
                | fail)
              go_roundw
              case rel => exact ⟨t + 1, htl.out, by go_num, hs9, Hlt.out.trans hl9⟩
              case measure => have := htl.out; simp [intOf]; omega
            · obtain rfl : t = 120 := by have := Ht.out; omega
              obtain ⟨e1, e2, e3, e4, e5, e6⟩ := HEnd.out
              generalize S0.ticks 120 = S at Hst e1 e2 e3 e4 e5 e6
              have Htl := Lib.hid (show S.sagas.length ≤ 12 by rw [e5]; exact hk12.out.2)
              have HA := Lib.hid (All_calls Hst.out e3.ord (fun g hg => ⟨(e3.ok g hg).1, (e3.ok g hg).2.1⟩) (by have := Htl.out; omega))
              have E1 := Lib.hid e1
              have E2 := Lib.hid e2
              have E3 := Lib.hid e3
              have E4 := Lib.hid e4
              have E5 := Lib.hid e5
              have E6 := Lib.hid e6
              clear e1 e2 e3 e4 e5 e6 htT
              go_upto_region 30 with (first
                | (go_at_call 32; refine Calls.mono HA.out ?_; rintro e w10 ⟨lv, rfl, hown, hbel⟩; obtain ⟨va, vc, rfl, hva⟩ : ∃ va vc, lv = .slice va S.sagas.length vc ∧ (S.sagas.length = 0 ∨ ∃ g, va = some ⟨g, 0, none⟩) := (by
                    rcases hown.2 with ⟨h1, h2⟩ | ⟨g, cap, cur, h1, _⟩
                    · exact ⟨none, 0, by rw [h1, h2], .inl h2⟩
                    · exact ⟨some ⟨g, 0, none⟩, cap, h1, .inr ⟨g, rfl⟩⟩))
                | fail)
              have hs10 := Hst.out.keepK (below_toK hbel (Nat.le_refl _) []) (by simp)
              have hpt := hs10.pt
              rw [Hqp.out] at hpt
              have Hpt := Lib.hid hpt
              have Hdk := Lib.hid hs10.dk
              have HL10 := Lib.hid (Hlt.out.trans (show Low w.heap.size _ w10 from ⟨hbel.os, hbel.tape, hbel.output, hbel.size, fun k hk => hbel.block k (by have := Hlt.out.size; omega)⟩))
              have Hown := Lib.hid hown
              have Hva := Lib.hid hva
              clear hs10 hpt hown hva hbel
              go_wp2_with fail
              go_loopw [19] (fun i wr => ∃ t : Nat, t ≤ S.sagas.length ∧ i = .int .i64 (t : Nat) ∧ New w10 wr) (fun i _ => S.sagas.length - (intOf i).toNat)
              case atStart => exact ⟨0, Nat.zero_le _, rfl, Fr.refl _ _⟩
              case round =>
                obtain ⟨t, ht, rfl, hf11⟩ := hrel
                have Ht2 := Lib.hid ht
                have Hf11 := Lib.hid hf11
                clear ht hf11
                by_cases htl : t < S.sagas.length
                · obtain ⟨gb, rfl⟩ : ∃ gb, va = some ⟨gb, 0, none⟩ := by
                    rcases Hva.out with h | h
                    · omega
                    · exact h
                  obtain ⟨g, hg⟩ : ∃ g, S.sagas[t]? = some g := ⟨S.sagas[t], List.getElem?_eq_getElem htl⟩
                  have htI : (t : Int) < S.sagas.length := by omega
                  obtain ⟨c0, c1, c2, c3, c4, c5⟩ := st_cells (own_New Hown.out Hf11.out) t g hg
                  have hmem := List.mem_of_getElem? hg
                  have hrch : reachedM S.p.effs g.id g.st g.steps.length = true := agree_reached (E1.out.ag g hmem)
                  have hst3 := E2.out g hmem
                  have heff : S.p.effs.length < 2 ^ 30 := by have := E4.out.2.1; omega
                  have HRch := Lib.hid (fun (w' : World) (hf : New wr w') => reached_calls (w := w') (p := S.p) (Hpt.out.keep (Nat.le_trans Hf11.out.size hf.size) (fun _ _ ho _ => hf.get (Hf11.out.get ho (fun f => f)) (fun f => f))) heff g.id g.st g.step g.steps.length g.tries g.due)
                  rw [hrch] at HRch
                  have HRc := Lib.hid (HRch.out wr (Fr.refl _ _))
                  have Hc1 := Lib.hid c1
                  have Htl2 := Lib.hid htl
                  clear hmem hrch heff hg htl
                  have hnst : ¬ (g.st < 3) := by omega
                  clear hst3
                  go_upto_region 32 with (first
                    | (go_at_call 23; refine Calls.mono HRc.out ?_; rintro e w13 ⟨rfl, hf13⟩; have d1 : w13.cell? ⟨gb, t * 6 + 1, none⟩ = some (.int .i64 g.st) := (World.cell?_of_block (hf13.block gb (World.block_lt_of_cell? wr _ Hc1.out) (fun f => f))).trans Hc1.out)
                    | fail)
                  have HN13 := Lib.hid (Hf11.out.trans hf13)
                  clear hf13 c0 c1 c2 c3 c4 c5 d1
                  have hl12 := Htl.out
                  go_wp2_with fail
                  go_roundw
                  case rel => exact ⟨t + 1, Htl2.out, by go_num, HN13.out⟩
                  case measure => have := Htl2.out; simp [intOf]; omega
                · obtain rfl : t = S.sagas.length := by have := Ht2.out; omega
                  have hnt : ¬ ((S.sagas.length : Int) < S.sagas.length) := by omega
                  have HTd := Lib.hid (Told_calls (Hdk.out.new Hf11.out))
                  rw [E6.out] at HTd
                  have hlm : (S.sagas.length : Int) = m := by rw [E5.out]
                  have HLf := Lib.hid (HL10.out.trans (Hf11.out.low HL10.out.size (fun _ f => f.elim)))
                  go_wp2_with (first
                    | (go_at_call 33; refine Calls.mono HTd.out ?_; rintro e w14 ⟨rfl, rfl⟩)
                    | fail)
                  go_ret
                  exact ⟨rfl, HLf.out⟩
end Go.Proofs.YtkafmfdipmhleaaGreatDoor
