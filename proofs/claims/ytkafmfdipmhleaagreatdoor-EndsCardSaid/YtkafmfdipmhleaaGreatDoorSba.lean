/-
  What is proved: what a Submit that is taken makes of the engine's state. (No program in sight.)
-/
import Derived.Test.YtkafmfdipmhleaaGreatDoorTk
namespace Go.Proofs.YtkafmfdipmhleaaGreatDoor
open Go.RowKit Go.Maps

def insSaga (g : SagaM) : List SagaM → List SagaM
  | [] => [g]
  | x :: r => if g.id < x.id then g :: x :: r else x :: insSaga g r
def insBl (id : Int) (sb : Nat) : List SagaM → List Nat → List Nat
  | x :: r, y :: bl => if id < x.id then sb :: y :: bl else y :: insBl id sb r bl
  | _, _ => [sb]
theorem insSaga_len (g : SagaM) (l : List SagaM) : (insSaga g l).length = l.length + 1 := by
  induction l with
  | nil => rfl
  | cons x r ih => unfold insSaga; split <;> simp [ih]
theorem insBl_len (id : Int) (sb : Nat) (l : List SagaM) (bl : List Nat) (h : bl.length = l.length) : (insBl id sb l bl).length = l.length + 1 := by
  induction l generalizing bl with
  | nil => cases bl <;> simp [insBl]
  | cons x r ih =>
    cases bl with
    | nil => simp at h
    | cons y bl => unfold insBl; split <;> simp [ih bl (by simpa using h)] <;> simpa using h
theorem insIL_of (g : SagaM) (sb : Nat) (l : List SagaM) (bl : List Nat) (h : bl.length = l.length) : ilOf (insSaga g l) (insBl g.id sb l bl) = insIL (g.id, sb) (ilOf l bl) := by
  induction l generalizing bl with
  | nil => cases bl <;> simp [insBl, insSaga, ilOf, insIL]
  | cons x r ih =>
    cases bl with
    | nil => simp at h
    | cons y bl =>
      have := ih bl (by simpa using h)
      unfold insSaga insBl
      by_cases hx : g.id < x.id
      · simp [hx, ilOf, insIL]
      · simp only [hx, if_false, ilOf, List.map_cons, List.zip_cons_cons, insIL] at this ⊢
        rw [this]
theorem insSaga_mem {g x : SagaM} {l : List SagaM} : x ∈ insSaga g l ↔ x = g ∨ x ∈ l := by
  induction l with
  | nil => simp [insSaga]
  | cons y r ih =>
    unfold insSaga
    split
    · simp
    · simp only [List.mem_cons, ih]
      constructor
      · rintro (h | h | h) <;> simp [h]
      · rintro (h | h | h) <;> simp [h]
theorem insSaga_sum (g : SagaM) (l : List SagaM) : leftSum (insSaga g l) = g.left + leftSum l := by
  induction l with
  | nil => simp [insSaga, leftSum]
  | cons y r ih =>
    unfold insSaga
    split
    · simp [leftSum]
    · simp only [leftSum, List.map_cons, List.sum_cons] at ih ⊢
      rw [ih]; omega
theorem insSaga_ord (g : SagaM) (l : List SagaM) (h : l.Pairwise (fun a b => a.id < b.id)) (hn : ∀ x ∈ l, x.id ≠ g.id) : (insSaga g l).Pairwise (fun a b => a.id < b.id) := by
  induction l with
  | nil => simp [insSaga]
  | cons y r ih =>
    have hp := List.pairwise_cons.1 h
    unfold insSaga
    split
    · rename_i hx
      refine List.pairwise_cons.2 ⟨fun a ha => ?_, h⟩
      simp only [List.mem_cons] at ha
      rcases ha with rfl | ha
      · exact hx
      · have := hp.1 a ha; omega
    · rename_i hx
      refine List.pairwise_cons.2 ⟨fun a ha => ?_, ih hp.2 (fun x hx => hn x (by simp [hx]))⟩
      rcases insSaga_mem.1 ha with rfl | ha
      · have := hn y (by simp); omega
      · exact hp.1 a ha
theorem insSaga_at {g g' : SagaM} {sb b' : Nat} {l : List SagaM} {bl : List Nat} (h : bl.length = l.length) (i : Nat) (h1 : (insSaga g l)[i]? = some g') (h2 : (insBl g.id sb l bl)[i]? = some b') :
    (g' = g ∧ b' = sb) ∨ ∃ j : Nat, l[j]? = some g' ∧ bl[j]? = some b' := by
  induction l generalizing bl i with
  | nil =>
    cases bl with
    | cons y bl => simp at h
    | nil =>
      simp only [insSaga, insBl] at h1 h2
      cases i with
      | zero => simp at h1 h2; exact .inl ⟨h1.symm, h2.symm⟩
      | succ i => simp at h1
  | cons x r ih =>
    cases bl with
    | nil => simp at h
    | cons y bl =>
      unfold insSaga at h1
      unfold insBl at h2
      by_cases hx : g.id < x.id
      · rw [if_pos hx] at h1 h2
        cases i with
        | zero => simp at h1 h2; exact .inl ⟨h1.symm, h2.symm⟩
        | succ i => exact .inr ⟨i, by simpa using h1, by simpa using h2⟩
      · rw [if_neg hx] at h1 h2
        cases i with
        | zero => exact .inr ⟨0, by simpa using h1, by simpa using h2⟩
        | succ i =>
          rcases ih (by simpa using h) i (by simpa using h1) (by simpa using h2) with h | ⟨j, a, b⟩
          · exact .inl h
          · exact .inr ⟨j + 1, by simpa using a, by simpa using b⟩
theorem insBl_mem {id : Int} {sb x : Nat} {l : List SagaM} {bl : List Nat} (h : x ∈ insBl id sb l bl) : x = sb ∨ x ∈ bl := by
  induction l generalizing bl with
  | nil => simp [insBl] at h; exact .inl h
  | cons y r ih =>
    cases bl with
    | nil => simp [insBl] at h; exact .inl h
    | cons z bl =>
      unfold insBl at h
      split at h
      · simpa using h
      · simp only [List.mem_cons] at h ⊢
        rcases h with h | h
        · exact .inr (.inl h)
        · rcases ih h with h | h
          · exact .inl h
          · exact .inr (.inr h)
theorem insBl_nd {id : Int} {sb : Nat} {l : List SagaM} {bl : List Nat} (h : bl.Nodup) (hn : sb ∉ bl) : (insBl id sb l bl).Nodup := by
  induction l generalizing bl with
  | nil => simp [insBl]
  | cons y r ih =>
    cases bl with
    | nil => simp [insBl]
    | cons z bl =>
      unfold insBl
      split
      · exact List.nodup_cons.2 ⟨hn, h⟩
      · have hp := List.nodup_cons.1 h
        simp only [List.mem_cons, not_or] at hn
        refine List.nodup_cons.2 ⟨fun hm => ?_, ih hp.2 hn.2⟩
        rcases insBl_mem hm with h | h
        · exact hn.1 h.symm
        · exact hp.1 h
def bodyRec (id : Int) (l : List (ByteArray × ByteArray)) : RecM := ⟨2, 0, 0, id.toNat, 0, l⟩
def takenRec (id : Int) : RecM := ⟨3, 0, 0, id.toNat, 0, []⟩
def StM.submit (s : StM) (id : Int) (l : List (ByteArray × ByteArray)) : StM :=
  { s with sagas := insSaga (SagaM.new id l) s.sagas, j := ⟨s.j.epoch, s.j.en + 2, false⟩, d := (settleD s.j s.d).append s.j.epoch s.j.en [bodyRec id l, takenRec id] }
theorem whole_small {id : Int} {l : List (ByteArray × ByteArray)} (h : wholeB id l = true) : 1 ≤ id ∧ id ≤ 1000 ∧ smallSteps l := by
  simp only [wholeB, Bool.and_eq_true, decide_eq_true_eq, Bool.not_eq_true', anyLong] at h
  obtain ⟨⟨⟨⟨h1, h2⟩, h3⟩, h4⟩, h5⟩ := h
  refine ⟨h1, h2, h3, h4, fun s hs => ?_⟩
  have := List.any_eq_false.1 h5 s hs
  simp [longB] at this
  omega
theorem new_ok {id : Int} {l : List (ByteArray × ByteArray)} (h : wholeB id l = true) : (SagaM.new id l).ok := by
  obtain ⟨h1, h2, h3⟩ := whole_small h
  exact ⟨h1, h2, h3, by simp [SagaM.new], .inl ⟨.inl rfl, by simp [SagaM.new], by have := h3.1; simp only [SagaM.new]; omega⟩⟩
theorem new_left (id : Int) (l : List (ByteArray × ByteArray)) : (SagaM.new id l).left = 2 * l.length - 1 := by simp [SagaM.left, SagaM.new]
theorem submit_inv {s : StM} {m : Nat} {id : Int} {l : List (ByteArray × ByteArray)} (h : s.inv) (hf : s.fine m) (hw : wholeB id l = true) (hn : ∀ x ∈ s.sagas, x.id ≠ id) (hroom : (s.j.en : Int) + (2 + (2 * l.length - 1) + leftSum s.sagas) ≤ s.d.blocks.length) :
    (s.submit id l).inv ∧ (s.submit id l).fine m := by
  have hlen : ((settleD s.j s.d).append s.j.epoch s.j.en [bodyRec id l, takenRec id]).blocks.length = s.d.blocks.length := by rw [append_len, settle_len _ _ h.pend]
  constructor
  · refine ⟨(settle_quiet _ _ h.quiet).append _ _ _, append_pend _ _ _ _ (settle_pend _ _ h.pend), h.epoch, ?_, insSaga_ord _ _ h.ord hn, ?_, ?_, h.pause⟩
    · intro g hg
      rcases insSaga_mem.1 hg with rfl | hg
      · exact new_ok hw
      · exact h.ok g hg
    · simp only [StM.submit]
      rw [hlen, insSaga_sum, new_left]; omega
    · simp only [StM.submit]; rw [hlen]; exact h.size
  · obtain ⟨b1, b2, b3, b4, b5, b6⟩ := hf
    refine ⟨b1, b2, b3, b4, b5, ?_⟩
    intro g hg
    rcases insSaga_mem.1 hg with rfl | hg
    · simp [SagaM.new, StM.submit]
    · exact b6 g hg
/-- What is still to be summed. -/
def restSum (l : List SagaM) (left : Lit → Bool) : Int := (l.map fun g => cond (left (.int .i64 g.id)) g.left 0).sum
theorem rest_all (l : List SagaM) (left : Lit → Bool) (h : ∀ g ∈ l, left (.int .i64 g.id) = true) : restSum l left = leftSum l := by
  unfold restSum leftSum
  congr 1
  exact List.map_congr_left (fun g hg => by rw [h g hg]; rfl)
theorem rest_none (l : List SagaM) (left : Lit → Bool) (h : ∀ kl, left kl = false) : restSum l left = 0 := by
  unfold restSum
  induction l with
  | nil => rfl
  | cons a l ih => simp [h] at ih ⊢; exact ih
theorem rest_step (l : List SagaM) (left : Lit → Bool) (ho : l.Pairwise (fun a b => a.id < b.id)) (g : SagaM) (hg : g ∈ l) (hl : left (.int .i64 g.id) = true) :
    restSum l left = restSum l (fun z => left z && !z.sameKey (.int .i64 g.id)) + g.left := by
  induction l with
  | nil => simp at hg
  | cons a l ih =>
    have hp := List.pairwise_cons.1 ho
    simp only [List.mem_cons] at hg
    rcases hg with rfl | hg
    · have h2 : restSum l left = restSum l (fun z => left z && !z.sameKey (.int .i64 g.id)) := by
        unfold restSum
        congr 1
        refine List.map_congr_left (fun x hx => ?_)
        have : (Lit.int .i64 x.id).sameKey (.int .i64 g.id) = false := by
          have := hp.1 x hx
          simp [Lit.sameKey]; omega
        simp [this]
      have h3 : (Lit.int .i64 g.id).sameKey (.int .i64 g.id) = true := by simp [Lit.sameKey]
      simp only [restSum, List.map_cons, List.sum_cons] at h2 ⊢
      rw [h2, hl, h3]
      simp; omega
    · have h1 := ih hp.2 hg
      have hne : (Lit.int .i64 a.id).sameKey (.int .i64 g.id) = false := by
        have := hp.1 g hg
        simp [Lit.sameKey]; omega
      simp only [restSum, List.map_cons, List.sum_cons] at h1 ⊢
      rw [h1, hne]
      simp; omega
theorem rest_nonneg (l : List SagaM) (left : Lit → Bool) (h : ∀ g ∈ l, g.ok) : 0 ≤ restSum l left := by
  unfold restSum
  induction l with
  | nil => simp
  | cons a l ih =>
    have h1 := (h a (by simp)).left_nonneg
    have h2 := ih (fun g hg => h g (by simp [hg]))
    simp only [List.map_cons, List.sum_cons]
    cases left (.int .i64 a.id) <;> simp only [cond_true, cond_false] <;> omega
theorem leftSum_le (l : List SagaM) (h : ∀ g ∈ l, g.ok) : leftSum l ≤ 12 * l.length := by
  induction l with
  | nil => simp [leftSum]
  | cons a l ih =>
    have h1 := (h a (by simp))
    have h2 := ih (fun g hg => h g (by simp [hg]))
    have h3 : a.left ≤ 12 := by
      obtain ⟨_, _, hsm, _, h⟩ := h1
      have := hsm.1
      have := hsm.2.1
      unfold SagaM.left
      split
      · rcases h with h | h <;> omega
      · split
        · rcases h with h | h <;> omega
        · omega
    simp only [leftSum, List.map_cons, List.sum_cons, List.length_cons] at h2 ⊢
    omega
/-- A key of the map is a saga's. -/
theorem il_find (l : List SagaM) (bl : List Nat) (hl : bl.length = l.length) (id : Int) (b : Nat) (h : blkOfId (ilOf l bl) id = some b) : ∃ (i : Nat) (g : SagaM), l[i]? = some g ∧ bl[i]? = some b ∧ g.id = id := by
  induction l generalizing bl with
  | nil => simp [blkOfId, ilOf] at h
  | cons x r ih =>
    cases bl with
    | nil => simp at hl
    | cons y bl =>
      by_cases hx : x.id = id
      · simp [blkOfId, ilOf, hx] at h
        exact ⟨0, x, rfl, by simp [h], hx⟩
      · have : blkOfId (ilOf r bl) id = some b := by simpa [blkOfId, ilOf, hx] using h
        obtain ⟨i, g, h1, h2, h3⟩ := ih bl (by simpa using hl) this
        exact ⟨i + 1, g, by simpa using h1, by simpa using h2, h3⟩
theorem il_none (l : List SagaM) (bl : List Nat) (id : Int) (h : ∀ x ∈ l, x.id ≠ id) : blkOfId (ilOf l bl) id = none := by
  simp only [blkOfId, Option.map_eq_none_iff, List.find?_eq_none, ilOf]
  intro p hp
  have := List.of_mem_zip hp
  simp only [List.mem_map] at this
  obtain ⟨⟨x, hx, e⟩, _⟩ := this
  simp only [decide_eq_true_eq]
  rw [← e]; exact h x hx
end Go.Proofs.YtkafmfdipmhleaaGreatDoor
