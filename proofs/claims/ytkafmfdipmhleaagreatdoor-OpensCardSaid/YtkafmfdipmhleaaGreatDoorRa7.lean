/-
  What is proved: a saga's state agrees with what its partner has done, whatever is replied. (No program in sight.) a saga's turn keeps the engine's state in order. (No program in sight.) one saga ends, as often as it is ticked. (No program in sight.) the contract of a Tick, on a disk that tells no errors. what a Submit that is taken makes of the engine's state. (No program in sight.)
-/
import Derived.Test.YtkafmfdipmhleaaGreatDoorRa6
import Derived.Deep.CutBlock

namespace Go.Proofs.YtkafmfdipmhleaaGreatDoor
open Go.RowKit Go.Maps

/-- What was done for a saga: which step, and whether it was taken back. -/
def mineOf (effs : List CallM) (id : Int) : List (Int × Bool) := (effs.filter (fun c => c.saga == id)).map fun c => (c.step, c.back)
def fw (m : Nat) : List (Int × Bool) := (List.range m).map fun (i : Nat) => ((i : Int) + 1, false)
/-- m of them taken back, from the k-th on. -/
def bw (k m : Nat) : List (Int × Bool) := (List.range m).map fun (j : Nat) => ((k : Int) - (j : Int), true)
theorem fw_succ (m : Nat) : fw (m + 1) = fw m ++ [((m : Int) + 1, false)] := by simp [fw, List.range_succ]
theorem bw_succ (k m : Nat) : bw k (m + 1) = bw k m ++ [((k : Int) - m, true)] := by simp [bw, List.range_succ]
def Agree (n : Nat) (st step : Int) (mine : List (Int × Bool)) : Prop :=
  (st = 1 ∧ ∃ i : Nat, step = (i : Int) + 1 ∧ i < n ∧ (mine = fw i ∨ mine = fw (i + 1))) ∨
  (st = 2 ∧ ∃ k i m : Nat, k < n ∧ step = (i : Int) + 1 ∧ k = i + 1 + m ∧ (mine = fw k ++ bw k m ∨ mine = fw k ++ bw k (m + 1))) ∨
  (st = 3 ∧ mine = fw n) ∨ (st = 4 ∧ ∃ k : Nat, k < n ∧ mine = fw k ++ bw k k)
theorem mem_fw {m : Nat} {s : Int} : (s, false) ∈ fw m ↔ 1 ≤ s ∧ s ≤ m := by
  simp only [fw, List.mem_map, List.mem_range, Prod.mk.injEq, and_true]
  constructor
  · rintro ⟨i, hi, rfl⟩; omega
  · intro h; exact ⟨(s - 1).toNat, by omega, by omega⟩
theorem mem_fw_true {m : Nat} {s : Int} : ¬ (s, true) ∈ fw m := by simp [fw]
theorem mem_bw {k m : Nat} {s : Int} : (s, true) ∈ bw k m ↔ (k : Int) - m < s ∧ s ≤ k := by
  simp only [bw, List.mem_map, List.mem_range, Prod.mk.injEq, and_true]
  constructor
  · rintro ⟨i, hi, rfl⟩; omega
  · intro h; exact ⟨(k - s).toNat, by omega, by omega⟩
theorem mem_mine {effs : List CallM} {c : CallM} : (effs.any fun e => sameCall e c) = true ↔ (c.step, c.back) ∈ mineOf effs c.saga := by
  simp only [List.any_eq_true, sameCall, mineOf, List.mem_map, List.mem_filter, Prod.mk.injEq, Bool.and_eq_true, beq_iff_eq]
  constructor
  · rintro ⟨e, h1, h2, h3, h4⟩; exact ⟨e, ⟨h1, h2⟩, h3, h4⟩
  · rintro ⟨e, ⟨h1, h2⟩, h3, h4⟩; exact ⟨e, h1, h2, h3, h4⟩
theorem mine_snoc (effs : List CallM) (c : CallM) (id : Int) : mineOf (effs ++ [c]) id = if c.saga = id then mineOf effs id ++ [(c.step, c.back)] else mineOf effs id := by
  by_cases h : c.saga = id <;> simp [mineOf, List.filter_append, h]
/-- Another saga's turn. -/
theorem mine_other (p : PartM) (c : CallM) (id : Int) (h : c.saga ≠ id) : mineOf (p.ask c).effs id = mineOf p.effs id := by
  simp only [PartM.ask]
  split
  · rfl
  · rw [mine_snoc, if_neg h]
theorem replyM_dn (b : Bool) (k : Int) : replyM true b k = 0 ∨ replyM true b k = 1 := by
  unfold replyM; by_cases h : k = 3 ∨ k = 4 <;> simp [h]
theorem replyM_no (b : Bool) (k : Int) (h3 : k ≠ 3) (h5 : k ≠ 5) : replyM false b k = 0 ∨ replyM false b k = 1 := by
  unfold replyM; by_cases h : k = 4 <;> simp [h, h3, h5]
theorem replyM_late (k : Int) (h : k = 3 ∨ k = 5) : replyM false true k = 1 := by
  unfold replyM; rcases h with rfl | rfl <;> simp
/-- What a turn does to a saga that was asked. -/
theorem agree_ask (g : SagaM) (p : PartM) (h : Agree g.steps.length g.st g.step (mineOf p.effs g.id)) (hst : g.st = 1 ∨ g.st = 2) :
    Agree g.steps.length g.st g.step (mineOf (p.ask g.call).effs g.id) ∧
    (g.moves (g.reply p) = true → Agree g.steps.length (g.moved (g.reply p)).st (g.moved (g.reply p)).step (mineOf (p.ask g.call).effs g.id)) ∧
    (g.reply p = 2 → g.st = 1) ∧ (g.reply p = 0 ∨ g.reply p = 1 ∨ g.reply p = 2) := by
  have hcs : g.call.saga = g.id := rfl
  have hct : g.call.step = g.step := rfl
  have hm : ∀ l, (l = mineOf p.effs g.id) → ((g.step, decide (g.st = 2)) ∈ l ↔ p.knows g.call = true) := by
    intro l hl
    rw [PartM.knows, mem_mine, hl]
    rfl
  have he : (p.ask g.call).effs = if p.knows g.call = true ∨ p.k = 3 ∨ p.k = 5 then p.effs else p.effs ++ [g.call] := rfl
  have hback : g.call.back = decide (g.st = 2) := rfl
  have hrep : g.reply p = replyM (p.knows g.call) (decide (g.st = 2)) p.k := rfl
  generalize p.k = k at he hrep
  have hsn : mineOf (p.effs ++ [g.call]) g.id = mineOf p.effs g.id ++ [(g.step, decide (g.st = 2))] := by
    rw [mine_snoc, if_pos hcs]; rfl
  have hme : mineOf (p.ask g.call).effs g.id = if p.knows g.call = true ∨ k = 3 ∨ k = 5 then mineOf p.effs g.id else mineOf p.effs g.id ++ [(g.step, decide (g.st = 2))] := by
    rw [he]; split
    · rfl
    · exact hsn
  have hm := hm _ rfl
  generalize mineOf p.effs g.id = mine at *
  generalize mineOf (p.ask g.call).effs g.id = mine' at *
  generalize p.knows g.call = dn at *
  generalize g.reply p = rp at *
  clear he hsn hback hct hcs
  obtain ⟨id, st, step, tries, due, steps⟩ := g
  simp only at *
  rcases hst with rfl | rfl
  · rcases h with ⟨_, i, rfl, hi, hmm⟩ | ⟨h, _⟩ | ⟨h, _⟩ | ⟨h, _⟩
    rotate_left
    · omega
    · omega
    · omega
    simp only [Int.reduceEq, decide_false, show ((1 : Int) = 2) = False by simp] at *
    have hdn : dn = true → mine = fw (i + 1) := by
      intro hd
      rcases hmm with rfl | rfl
      · have := hm.2 hd
        rw [mem_fw] at this; omega
      · rfl
    have hdn' : dn = false → mine = fw i := by
      intro hd
      rcases hmm with rfl | rfl
      · rfl
      · have : dn = true := hm.1 (by rw [mem_fw]; omega)
        rw [hd] at this; cases this
    have hmv : rp = 0 → mine' = fw (i + 1) → Agree steps.length (SagaM.moved ⟨id, 1, (i : Int) + 1, tries, due, steps⟩ rp).st (SagaM.moved ⟨id, 1, (i : Int) + 1, tries, due, steps⟩ rp).step mine' := by
      rintro rfl hmine
      by_cases hl : (steps.length : Int) < (i : Int) + 1 + 1
      · have : i + 1 = steps.length := by omega
        simp only [SagaM.moved, SagaM.forward, hl, if_true]
        exact .inr (.inr (.inl ⟨rfl, by rw [hmine, this]⟩))
      · simp only [SagaM.moved, SagaM.forward, hl, if_true, if_false]
        exact .inl ⟨rfl, i + 1, by omega, by omega, .inl hmine⟩
    cases dn with
    | true =>
      have hm1 := hdn rfl
      simp only [true_or, if_true] at hme
      have hr01 : rp = 0 ∨ rp = 1 := by rw [hrep]; exact replyM_dn _ _
      refine ⟨.inl ⟨rfl, i, rfl, hi, .inr (hme.trans hm1)⟩, fun hmo => ?_, fun _ => trivial, by omega⟩
      have : rp = 0 := by
        rcases hr01 with h | h
        · exact h
        · subst h; simp [SagaM.moves] at hmo
      exact hmv this (hme.trans hm1)
    | false =>
      have hm1 := hdn' rfl
      simp only [Bool.false_eq_true, false_or] at hme
      by_cases h3 : k = 3
      · subst h3
        simp [replyM] at hrep
        simp at hme
        subst hrep
        exact ⟨.inl ⟨rfl, i, rfl, hi, .inl (hme.trans hm1)⟩, fun hmo => by simp [SagaM.moves] at hmo, fun _ => trivial, by omega⟩
      · by_cases h5 : k = 5
        · subst h5
          simp [replyM] at hrep
          simp at hme
          subst hrep
          refine ⟨.inl ⟨rfl, i, rfl, hi, .inl (hme.trans hm1)⟩, fun hmo => ?_, fun _ => trivial, by omega⟩
          by_cases hi0 : i = 0
          · subst hi0
            simp only [SagaM.moved, SagaM.forward, SagaM.backward]
            simp
            exact .inr (.inr (.inr ⟨rfl, 0, hi, by rw [hme, hm1]; simp [bw]⟩))
          · have hne : ¬ ((i : Int) + 1 - 1 = 0) := by omega
            simp only [SagaM.moved, SagaM.forward, SagaM.backward, hne, if_true, if_false, show ¬ ((2 : Int) = 0) by decide]
            refine .inr (.inl ⟨rfl, i, i - 1, 0, hi, by omega, by omega, .inl ?_⟩)
            rw [hme, hm1]; simp [bw]
        · simp only [h3, h5, or_self, if_false] at hme
          have hmm' : mine' = fw (i + 1) := by rw [hme, hm1, fw_succ]
          have hr : rp = 0 ∨ rp = 1 := by rw [hrep]; exact replyM_no _ _ h3 h5
          refine ⟨.inl ⟨rfl, i, rfl, hi, .inr hmm'⟩, fun hmo => ?_, fun _ => trivial, by omega⟩
          have : rp = 0 := by
            rcases hr with h | h
            · exact h
            · subst h; simp [SagaM.moves] at hmo
          exact hmv this hmm'
  · rcases h with ⟨h, _⟩ | ⟨_, K, i, m, hK, rfl, hkm, hmm⟩ | ⟨h, _⟩ | ⟨h, _⟩
    · omega
    rotate_left
    · omega
    · omega
    simp only [decide_true] at *
    have hdn : dn = true → mine = fw K ++ bw K (m + 1) := by
      intro hd
      rcases hmm with rfl | rfl
      · have := hm.2 hd
        rw [List.mem_append, mem_bw] at this
        rcases this with h | h
        · exact absurd h mem_fw_true
        · omega
      · rfl
    have hdn' : dn = false → mine = fw K ++ bw K m := by
      intro hd
      rcases hmm with rfl | rfl
      · rfl
      · have : dn = true := hm.1 (by rw [List.mem_append, mem_bw]; right; omega)
        rw [hd] at this; cases this
    have hmv : rp = 0 → mine' = fw K ++ bw K (m + 1) → Agree steps.length (SagaM.moved ⟨id, 2, (i : Int) + 1, tries, due, steps⟩ rp).st (SagaM.moved ⟨id, 2, (i : Int) + 1, tries, due, steps⟩ rp).step mine' := by
      rintro rfl hmine
      by_cases hi0 : i = 0
      · subst hi0
        simp only [SagaM.moved, SagaM.backward]
        simp
        exact .inr (.inr (.inr ⟨rfl, K, hK, by rw [hmine, show m + 1 = K by omega]⟩))
      · have hne : ¬ ((i : Int) + 1 - 1 = 0) := by omega
        simp only [SagaM.moved, SagaM.backward, hne, if_true, if_false, show ¬ ((2 : Int) = 1) by decide]
        exact .inr (.inl ⟨rfl, K, i - 1, m + 1, hK, by omega, by omega, .inl hmine⟩)
    cases dn with
    | true =>
      have hm1 := hdn rfl
      simp only [true_or, if_true] at hme
      have hr01 : rp = 0 ∨ rp = 1 := by rw [hrep]; exact replyM_dn _ _
      refine ⟨.inr (.inl ⟨rfl, K, i, m, hK, rfl, hkm, .inr (hme.trans hm1)⟩), fun hmo => ?_, fun h2 => by omega, by omega⟩
      have : rp = 0 := by
        rcases hr01 with h | h
        · exact h
        · subst h; simp [SagaM.moves] at hmo
      exact hmv this (hme.trans hm1)
    | false =>
      have hm1 := hdn' rfl
      simp only [Bool.false_eq_true, false_or] at hme
      by_cases h35 : k = 3 ∨ k = 5
      · have hrp : rp = 1 := by rw [hrep]; exact replyM_late _ h35
        rw [if_pos h35] at hme
        subst hrp
        exact ⟨.inr (.inl ⟨rfl, K, i, m, hK, rfl, hkm, .inl (hme.trans hm1)⟩), fun hmo => by simp [SagaM.moves] at hmo, fun h => by omega, by omega⟩
      · rw [if_neg h35] at hme
        have hmm' : mine' = fw K ++ bw K (m + 1) := by
          rw [hme, hm1, bw_succ, List.append_assoc, show ((i : Int) + 1) = (K : Int) - m by omega]
        have hr : rp = 0 ∨ rp = 1 := by rw [hrep]; exact replyM_no _ _ (fun e => h35 (.inl e)) (fun e => h35 (.inr e))
        refine ⟨.inr (.inl ⟨rfl, K, i, m, hK, rfl, hkm, .inr hmm'⟩), fun hmo => ?_, fun h2 => by omega, by omega⟩
        have : rp = 0 := by
          rcases hr with h | h
          · exact h
          · subst h; simp [SagaM.moves] at hmo
        exact hmv this hmm'
/-- What is counted. -/
def countF (effs : List CallM) (id : Int) : Nat := (mineOf effs id).countP fun p => !p.2
def countB (effs : List CallM) (id : Int) : Nat := (mineOf effs id).countP fun p => p.2
theorem count_fw (m : Nat) : (fw m).countP (fun p => !p.2) = m ∧ (fw m).countP (fun p => p.2) = 0 := by
  induction m with
  | zero => simp [fw]
  | succ m ih => rw [fw_succ]; simp [List.countP_append, ih]
theorem count_bw (k m : Nat) : (bw k m).countP (fun p => !p.2) = 0 ∧ (bw k m).countP (fun p => p.2) = m := by
  induction m with
  | zero => simp [bw]
  | succ m ih => rw [bw_succ]; simp [List.countP_append, ih]
def reachedM (effs : List CallM) (id st n : Int) : Bool :=
  if st = 3 then decide ((countF effs id : Int) = n) && decide ((countB effs id : Int) = 0) else decide (st ≠ 4) || (decide ((countF effs id : Int) = countB effs id) && decide ((countF effs id : Int) < n))
theorem agree_reached {effs : List CallM} {id st step : Int} {n : Nat} (h : Agree n st step (mineOf effs id)) : reachedM effs id st n = true := by
  unfold reachedM countF countB
  rcases h with ⟨rfl, _⟩ | ⟨rfl, _⟩ | ⟨rfl, h⟩ | ⟨rfl, k, hk, h⟩
  · simp
  · simp
  · rw [h]; simp [count_fw]
  · rw [h]; simp [List.countP_append, count_fw, count_bw]; exact hk
/-- The form that Straight asks for. -/
theorem agree_shape {n : Nat} {st step : Int} {mine : List (Int × Bool)} (h : Agree n st step mine) : ∃ k m, mine = fw k ++ bw k m ∧ k ≤ n ∧ m ≤ k ∧ (m = 0 ∨ k < n) := by
  rcases h with ⟨_, i, _, hi, h | h⟩ | ⟨_, k, i, m, hk, _, hkm, h | h⟩ | ⟨_, h⟩ | ⟨_, k, hk, h⟩
  · exact ⟨i, 0, by rw [h]; simp [bw], by omega, by omega, .inl rfl⟩
  · exact ⟨i + 1, 0, by rw [h]; simp [bw], by omega, by omega, .inl rfl⟩
  · exact ⟨k, m, h, by omega, by omega, .inr hk⟩
  · exact ⟨k, m + 1, h, by omega, by omega, .inr hk⟩
  · exact ⟨n, 0, by rw [h]; simp [bw], by omega, by omega, .inl rfl⟩
  · exact ⟨k, k, h, by omega, by omega, .inr hk⟩
end Go.Proofs.YtkafmfdipmhleaaGreatDoor

namespace Go.Proofs.YtkafmfdipmhleaaGreatDoor
open Go.RowKit Go.Maps

theorem SagaM.ok.left_nonneg {g : SagaM} (h : g.ok) : 0 ≤ g.left := by
  obtain ⟨_, _, _, _, h⟩ := h
  unfold SagaM.left
  split
  · rcases h with h | h <;> omega
  · split
    · rcases h with h | h <;> omega
    · omega
theorem SagaM.ok.left_pos {g : SagaM} (h : g.ok) (hs : g.st = 1 ∨ g.st = 2) : 1 ≤ g.left := by
  obtain ⟨_, _, hsm, _, h⟩ := h
  have := hsm.1
  unfold SagaM.left
  rcases hs with e | e
  · rw [if_pos e]
    rcases h with h | h <;> omega
  · rw [if_neg (by omega), if_pos e]
    rcases h with h | h <;> omega
theorem SagaM.ok.moved {g : SagaM} (h : g.ok) (hs : g.st = 1 ∨ g.st = 2) (rp : Int) : (g.moved rp).ok ∧ (g.moved rp).left + 1 ≤ g.left := by
  obtain ⟨h1, h2, hsm, h4, h⟩ := h
  have hn := hsm.1
  obtain ⟨id, st, step, tries, due, steps⟩ := g
  simp only at *
  have hstep : 1 ≤ step ∧ step ≤ steps.length := by
    rcases h with h | h
    · exact h.2
    · omega
  rcases hs with rfl | rfl
  · by_cases hr : rp = 0
    · by_cases hl : (steps.length : Int) < step + 1
      · have e : SagaM.moved ⟨id, 1, step, tries, due, steps⟩ rp = ⟨id, 3, 0, 0, 0, steps⟩ := by simp [SagaM.moved, SagaM.forward, hr, hl]
        rw [e]
        exact ⟨⟨h1, h2, hsm, by simp, .inr ⟨.inl rfl, rfl⟩⟩, by simp [SagaM.left] <;> omega⟩
      · have e : SagaM.moved ⟨id, 1, step, tries, due, steps⟩ rp = ⟨id, 1, step + 1, 0, 0, steps⟩ := by simp [SagaM.moved, SagaM.forward, hr, hl]
        rw [e]
        exact ⟨⟨h1, h2, hsm, by simp, .inl ⟨.inl rfl, by simp only; omega, by simp only; omega⟩⟩, by simp [SagaM.left] <;> omega⟩
    · by_cases hz : step - 1 = 0
      · have e : SagaM.moved ⟨id, 1, step, tries, due, steps⟩ rp = ⟨id, 4, step - 1, 0, 0, steps⟩ := by simp [SagaM.moved, SagaM.forward, SagaM.backward, hr, hz]
        rw [e]
        exact ⟨⟨h1, h2, hsm, by simp, .inr ⟨.inr rfl, hz⟩⟩, by simp [SagaM.left] <;> omega⟩
      · have e : SagaM.moved ⟨id, 1, step, tries, due, steps⟩ rp = ⟨id, 2, step - 1, 0, 0, steps⟩ := by simp [SagaM.moved, SagaM.forward, SagaM.backward, hr, hz]
        rw [e]
        exact ⟨⟨h1, h2, hsm, by simp, .inl ⟨.inr rfl, by simp only; omega, by simp only; omega⟩⟩, by simp [SagaM.left] <;> omega⟩
  · by_cases hz : step - 1 = 0
    · have e : SagaM.moved ⟨id, 2, step, tries, due, steps⟩ rp = ⟨id, 4, step - 1, 0, 0, steps⟩ := by simp [SagaM.moved, SagaM.backward, hz]
      rw [e]
      exact ⟨⟨h1, h2, hsm, by simp, .inr ⟨.inr rfl, hz⟩⟩, by simp [SagaM.left] <;> omega⟩
    · have e : SagaM.moved ⟨id, 2, step, tries, due, steps⟩ rp = ⟨id, 2, step - 1, 0, 0, steps⟩ := by simp [SagaM.moved, SagaM.backward, hz]
      rw [e]
      exact ⟨⟨h1, h2, hsm, by simp, .inl ⟨.inr rfl, by simp only; omega, by simp only; omega⟩⟩, by simp [SagaM.left] <;> omega⟩
theorem leftSum_set (l : List SagaM) (k : Nat) (g g' : SagaM) (hg : l[k]? = some g) : leftSum (l.set k g') = leftSum l - g.left + g'.left := by
  induction l generalizing k with
  | nil => simp at hg
  | cons a l ih =>
    cases k with
    | zero =>
      simp at hg
      subst hg
      simp [leftSum]; omega
    | succ k =>
      have := ih k (by simpa using hg)
      simp [leftSum] at this ⊢
      omega
theorem leftSum_nonneg (l : List SagaM) (h : ∀ g ∈ l, g.ok) : 0 ≤ leftSum l := by
  induction l with
  | nil => simp [leftSum]
  | cons a l ih =>
    have h1 := (h a (by simp)).left_nonneg
    have h2 := ih (fun g hg => h g (by simp [hg]))
    simp [leftSum] at h2 ⊢
    omega
theorem leftSum_mem (l : List SagaM) (h : ∀ g ∈ l, g.ok) (g : SagaM) (hg : g ∈ l) : g.left ≤ leftSum l := by
  induction l with
  | nil => simp at hg
  | cons a l ih =>
    have h1 := (h a (by simp)).left_nonneg
    have h2 := leftSum_nonneg l (fun g hg => h g (by simp [hg]))
    simp only [List.mem_cons] at hg
    rcases hg with rfl | hg
    · simp [leftSum] at h2 ⊢; omega
    · have := ih (fun g hg => h g (by simp [hg])) hg
      simp [leftSum] at this ⊢; omega
/-- There is room in the numbers for m more questions. -/
def StM.fine (s : StM) (m : Nat) : Prop := s.p.log.length + m < 2 ^ 30 ∧ s.p.effs.length + m < 2 ^ 30 ∧ s.p.l.length < 2 ^ 30 ∧ 0 ≤ s.p.at_ ∧ s.p.at_ + m < 2 ^ 30 ∧ ∀ g ∈ s.sagas, g.tries ≤ s.p.log.length
theorem StM.fine.small {s : StM} {m : Nat} (h : s.fine m) : s.p.small := by
  obtain ⟨h1, h2, h3, h4, h5, _⟩ := h
  exact ⟨by omega, by omega, h3, h4, by omega⟩
theorem ask_fine {p : PartM} {c : CallM} {m : Nat} (h1 : p.log.length + (m + 1) < 2 ^ 30) (h2 : p.effs.length + (m + 1) < 2 ^ 30) (h4 : 0 ≤ p.at_) (h5 : p.at_ + (m + 1 : Nat) < 2 ^ 30) :
    (p.ask c).log.length + m < 2 ^ 30 ∧ (p.ask c).effs.length + m < 2 ^ 30 ∧ (p.ask c).l = p.l ∧ 0 ≤ (p.ask c).at_ ∧ (p.ask c).at_ + m < 2 ^ 30 ∧ (p.ask c).log.length = p.log.length + 1 := by
  refine ⟨by simp [PartM.ask]; omega, ?_, rfl, ?_, ?_, by simp [PartM.ask]⟩
  · simp only [PartM.ask]; split
    · omega
    · simp; omega
  · simp only [PartM.ask, PartM.next]; split <;> omega
  · simp only [PartM.ask, PartM.next]; split <;> omega
theorem mem_set_cases {l : List SagaM} {k : Nat} {g' g : SagaM} (h : g ∈ l.set k g') : g = g' ∨ g ∈ l := by
  rcases List.mem_or_eq_of_mem_set h with h | h
  · exact .inr h
  · exact .inl h
theorem ord_set {l : List SagaM} {k : Nat} {g g' : SagaM} (h : l.Pairwise (fun a b => a.id < b.id)) (hg : l[k]? = some g) (hid : g'.id = g.id) : (l.set k g').Pairwise (fun a b => a.id < b.id) := by
  have e : (l.set k g').map (·.id) = l.map (·.id) := by
    rw [List.map_set]
    apply List.ext_getElem?
    intro i
    by_cases e : i = k
    · subst e
      have hl := (List.getElem?_eq_some_iff.1 hg).1
      rw [List.getElem?_set_self (by simpa using hl)]
      simp [hg, hid]
    · rw [List.getElem?_set_ne (fun h => e h.symm)]
  have h1 : (l.map (·.id)).Pairwise (· < ·) := List.pairwise_map.2 h
  rw [← e] at h1
  exact List.pairwise_map.1 h1
theorem stepOne_inv {s : StM} {k m : Nat} (h : s.inv) (hf : s.fine (m + 1)) : (s.stepOne k).inv ∧ (s.stepOne k).fine m ∧ (s.stepOne k).clock = s.clock ∧ (s.stepOne k).sagas.length = s.sagas.length := by
  have hf0 : s.fine m := by
    obtain ⟨h1, h2, h3, h4, h5, h6⟩ := hf
    exact ⟨by omega, by omega, h3, h4, by omega, h6⟩
  cases hg : s.sagas[k]? with
  | none => simp only [StM.stepOne, hg]; exact ⟨h, hf0, trivial, trivial⟩
  | some g =>
    by_cases hw : g.waits s.clock = false
    · simp only [StM.stepOne, hg, hw, if_true]; exact ⟨h, hf0, trivial, trivial⟩
    · have hmem : g ∈ s.sagas := List.mem_of_getElem? hg
      have hok := h.ok g hmem
      have hst : g.st = 1 ∨ g.st = 2 := by
        simp [SagaM.waits] at hw
        obtain ⟨_, _, _, _, h | h⟩ := hok
        · exact h.1
        · omega
      obtain ⟨f1, f2, f3, f4, f5, f6⟩ := hf
      obtain ⟨a1, a2, a3, a4, a5, a6⟩ := ask_fine (c := g.call) f1 f2 f4 f5
      have hlen : (settleD s.j s.d).blocks.length = s.d.blocks.length := settle_len _ _ h.pend
      by_cases hm : g.moves (g.reply s.p) = false
      · have e : s.stepOne k = { s with sagas := s.sagas.set k (g.paused s.clock s.pause), j := { s.j with fresh := false }, d := settleD s.j s.d, p := s.p.ask g.call } := by
          simp [StM.stepOne, hg, hw, hm]
        have ht := f6 g hmem
        have htr : (g.paused s.clock s.pause).tries = g.tries + 1 := by
          show wrap64 (g.tries + 1) = _
          have := hok.2.2.2.1
          exact wrap_in _ (by omega)
        have hpok : (g.paused s.clock s.pause).ok := by
          obtain ⟨b1, b2, b3, b4, b5⟩ := hok
          exact ⟨b1, b2, b3, by rw [htr]; omega, b5⟩
        rw [e]
        refine ⟨⟨settle_quiet _ _ h.quiet, settle_pend _ _ h.pend, h.epoch, ?_, ord_set h.ord hg rfl, ?_, by simp only; rw [hlen]; exact h.size, h.pause⟩, ⟨a1, a2, by simp only; rw [a3]; exact f3, a4, a5, ?_⟩, rfl, by simp⟩
        · intro x hx
          rcases mem_set_cases hx with rfl | hx
          · exact hpok
          · exact h.ok x hx
        · simp only
          rw [leftSum_set _ _ g _ hg, hlen]
          have e2 : (g.paused s.clock s.pause).left = g.left := rfl
          rw [e2]
          have := h.room
          omega
        · intro x hx
          simp only
          rw [a6]
          rcases mem_set_cases hx with rfl | hx
          · rw [htr]; omega
          · have := f6 x hx; omega
      · have e : s.stepOne k = { s with sagas := s.sagas.set k (g.moved (g.reply s.p)), j := ⟨s.j.epoch, s.j.en + 1, false⟩, d := (settleD s.j s.d).append s.j.epoch s.j.en [⟨4, 0, 0, g.id.toNat, (g.reply s.p).toNat, []⟩], p := s.p.ask g.call } := by
          simp [StM.stepOne, hg, hw, hm]
        obtain ⟨hmo, hml⟩ := hok.moved hst (g.reply s.p)
        rw [e]
        refine ⟨⟨(settle_quiet _ _ h.quiet).append _ _ _, append_pend _ _ _ _ (settle_pend _ _ h.pend), h.epoch, ?_, ord_set h.ord hg (moved_id g _), ?_, by simp only; rw [append_len, hlen]; exact h.size, h.pause⟩, ⟨a1, a2, by simp only; rw [a3]; exact f3, a4, a5, ?_⟩, rfl, by simp⟩
        · intro x hx
          rcases mem_set_cases hx with rfl | hx
          · exact hmo
          · exact h.ok x hx
        · simp only
          rw [leftSum_set _ _ g _ hg, append_len, hlen]
          have := h.room
          omega
        · intro x hx
          simp only
          rw [a6]
          rcases mem_set_cases hx with rfl | hx
          · have : (g.moved (g.reply s.p)).tries = 0 := by
              by_cases h1 : g.st = 1 <;> by_cases h2 : g.reply s.p = 0 <;> by_cases h3 : (g.steps.length : Int) < g.step + 1 <;> simp [SagaM.moved, SagaM.forward, SagaM.backward, h1, h2, h3]
            rw [this]; omega
          · have := f6 x hx; omega
/-- A saga whose turn it is has room for its record. -/
theorem inv_room {s : StM} (h : s.inv) {k : Nat} {g : SagaM} (hg : s.sagas[k]? = some g) (hw : g.waits s.clock = true) : s.j.en + 1 ≤ s.d.blocks.length ∧ (g.st = 1 ∨ g.st = 2) := by
  have hmem : g ∈ s.sagas := List.mem_of_getElem? hg
  have hok := h.ok g hmem
  have hst : g.st = 1 ∨ g.st = 2 := by
    simp [SagaM.waits] at hw
    obtain ⟨_, _, _, _, h | h⟩ := hok
    · exact h.1
    · omega
  have h1 := hok.left_pos hst
  have h2 := leftSum_mem s.sagas h.ok g hmem
  have := h.room
  exact ⟨by omega, hst⟩
end Go.Proofs.YtkafmfdipmhleaaGreatDoor

namespace Go.Proofs.YtkafmfdipmhleaaGreatDoor
open Go.RowKit Go.Maps

def StM.tick (s : StM) : StM := (List.range s.sagas.length).foldl StM.stepOne { s with clock := s.clock + 1 }
def StM.ticks (s : StM) : Nat → StM
  | 0 => s
  | n + 1 => (s.ticks n).tick
theorem fold_inv {m : Nat} (l : List Nat) (s : StM) (h : s.inv) (hf : s.fine (m + l.length)) :
    (l.foldl StM.stepOne s).inv ∧ (l.foldl StM.stepOne s).fine m ∧ (l.foldl StM.stepOne s).clock = s.clock ∧ (l.foldl StM.stepOne s).sagas.length = s.sagas.length := by
  induction l generalizing s with
  | nil => exact ⟨h, hf, rfl, rfl⟩
  | cons a l ih =>
    obtain ⟨h1, h2, h3, h4⟩ := stepOne_inv (k := a) (m := m + l.length) h (by simpa [Nat.add_assoc] using hf)
    obtain ⟨e1, e2, e3, e4⟩ := ih (s.stepOne a) h1 h2
    exact ⟨e1, e2, e3.trans h3, e4.trans h4⟩
theorem inv_clock {s : StM} (h : s.inv) (c : Int) : ({ s with clock := c } : StM).inv := ⟨h.quiet, h.pend, h.epoch, h.ok, h.ord, h.room, h.size, h.pause⟩
theorem tick_inv {s : StM} {m : Nat} (h : s.inv) (hf : s.fine (m + s.sagas.length)) : s.tick.inv ∧ s.tick.fine m ∧ s.tick.clock = s.clock + 1 ∧ s.tick.sagas.length = s.sagas.length := by
  have := fold_inv (m := m) (List.range s.sagas.length) { s with clock := s.clock + 1 } (inv_clock h _) (by rw [List.length_range]; exact hf)
  exact this
theorem ticks_inv {s : StM} {m : Nat} (h : s.inv) (t : Nat) (hf : s.fine (m + t * s.sagas.length)) : (s.ticks t).inv ∧ (s.ticks t).fine m ∧ (s.ticks t).clock = s.clock + t ∧ (s.ticks t).sagas.length = s.sagas.length := by
  induction t generalizing m with
  | zero => exact ⟨h, by simpa [StM.ticks] using hf, by simp [StM.ticks], rfl⟩
  | succ t ih =>
    obtain ⟨h1, h2, h3, h4⟩ := ih (m := m + s.sagas.length) (by rw [Nat.add_mul, Nat.one_mul] at hf; rw [show m + s.sagas.length + t * s.sagas.length = m + (t * s.sagas.length + s.sagas.length) by omega]; exact hf)
    have := tick_inv (s := s.ticks t) (m := m) h1 (by rw [h4]; exact h2)
    exact ⟨this.1, this.2.1, by rw [StM.ticks, this.2.2.1, h3]; omega, this.2.2.2.trans h4⟩

structure EI (rest : List Int) (n : Nat) (s : StM) (g : SagaM) : Prop where
  sg : s.sagas = [g]
  st : g.steps.length = n
  ag : Agree n g.st g.step (mineOf s.p.effs g.id)
  nv1 : g.st = 1 ∨ g.st = 3 → ∀ x ∈ s.p.log, x.2 ≠ 2
  nv2 : g.st = 2 ∨ g.st = 4 → ∃ x ∈ s.p.log, x.2 = 2
  pl : s.p.l = rest
  at_ : s.p.at_ = s.p.log.length
  sum : (s.p.log.length : Int) + g.left ≤ 2 * n + min s.p.log.length 20
  due : g.due ≤ s.clock + s.pause
  ok : g.ok
  clk : 0 ≤ s.clock ∧ s.clock < 2 ^ 40
  tries : g.tries < 2 ^ 40
def psi (s : StM) (g : SagaM) : Int := (((20 - s.p.log.length : Nat) : Int) + g.left) * (s.pause + 1) + max 0 (g.due - s.clock)
theorem agree_st {n : Nat} {st step : Int} {m : List (Int × Bool)} (h : Agree n st step m) : st = 1 ∨ st = 2 ∨ st = 3 ∨ st = 4 := by
  rcases h with ⟨h, _⟩ | ⟨h, _⟩ | ⟨h, _⟩ | ⟨h, _⟩ <;> simp [h]
theorem moved_st (g : SagaM) (rp : Int) (hst : g.st = 1 ∨ g.st = 2) (hok : g.ok) (hr : rp = 0 ∨ rp = 2) (h2 : rp = 2 → g.st = 1) :
    ((g.moved rp).st = 1 ∨ (g.moved rp).st = 3 → g.st = 1 ∧ rp = 0) ∧ ((g.moved rp).st = 2 ∨ (g.moved rp).st = 4 → g.st = 2 ∨ rp = 2) ∧ (g.moved rp).due = 0 ∧ (g.moved rp).tries = 0 := by
  obtain ⟨id, st, step, tries, due, steps⟩ := g
  simp only at *
  rcases hst with rfl | rfl
  · rcases hr with rfl | rfl
    · by_cases hl : (steps.length : Int) < step + 1 <;> simp [SagaM.moved, SagaM.forward, hl]
    · by_cases hl : step - 1 = 0 <;> simp [SagaM.moved, SagaM.forward, SagaM.backward, hl]
  · rcases hr with rfl | rfl
    · by_cases hl : step - 1 = 0 <;> simp [SagaM.moved, SagaM.backward, hl]
    · exact absurd (h2 rfl) (by decide)
theorem app_ne {r : List Int} (Z : Nat) (hZ : 1 ≤ Z) : r ++ List.replicate Z 0 ≠ [] := by
  intro h
  have := (List.append_eq_nil_iff.1 h).2
  rw [List.replicate_eq_nil_iff] at this
  omega
theorem k_zero' {rest r : List Int} {A Z : Nat} (hr : rest = r ++ List.replicate Z 0) (hrl : r.length ≤ A) (hZ : 1 ≤ Z) (p : PartM) (hl : p.l = rest) (h1 : (A : Int) ≤ p.at_) (h2 : p.at_ < Z) : p.k = 0 := by
  have hlen : rest.length = r.length + Z := by rw [hr, List.length_append, List.length_replicate]
  have hne : rest ≠ [] := by rw [hr]; exact app_ne Z hZ
  have he : (rest.getD (p.at_.toNat % rest.length) 0) = 0 := by
    rw [Nat.mod_eq_of_lt (by omega), hr, List.getD_eq_getElem?_getD, List.getElem?_append_right (by omega), List.getElem?_replicate]
    split <;> rfl
  simp only [PartM.k, hl]
  rw [if_neg hne, he]
  rfl
theorem k_zero {rest r : List Int} (hr : rest = r ++ List.replicate 200 0) (hrl : r.length ≤ 20) (p : PartM) (hl : p.l = rest) (h1 : 20 ≤ p.at_) (h2 : p.at_ < 200) : p.k = 0 :=
  k_zero' hr hrl (by omega) p hl h1 h2
theorem at_next {p : PartM} {c : CallM} (h : p.l ≠ []) : (p.ask c).at_ = p.at_ + 1 := by simp [PartM.ask, PartM.next, h]
/-- One tick. -/
theorem ei_tick {rest r : List Int} {n : Nat} {s : StM} {g : SagaM} (hr : rest = r ++ List.replicate 200 0) (hrl : r.length ≤ 20) (h : EI rest n s g) (hn : n ≤ 6) (hi : s.inv) (hck : s.clock + 1 < 2 ^ 40) (htr : g.tries + 1 < 2 ^ 40) :
    s.tick.pause = s.pause ∧ ∃ g', EI rest n s.tick g' ∧ g'.steps = g.steps ∧ g'.id = g.id ∧ g'.tries ≤ g.tries + 1 ∧ ((g.st = 1 ∨ g.st = 2) → (g'.st = 3 ∨ g'.st = 4) ∨ psi s.tick g' + 1 ≤ psi s g) ∧ ((g.st = 3 ∨ g.st = 4) → g'.st = g.st) := by
  have hne : s.p.l ≠ [] := by rw [h.pl, hr]; exact app_ne 200 (by omega)
  have ht : s.tick = ({ s with clock := s.clock + 1 } : StM).stepOne 0 := by
    unfold StM.tick; rw [h.sg]; rfl
  have hg0 : ({ s with clock := s.clock + 1 } : StM).sagas[0]? = some g := by show s.sagas[0]? = _; rw [h.sg]; rfl
  have hleft := h.ok.left_nonneg
  have hsum := h.sum
  have hdue := h.due
  have hp := hi.pause
  have hset : ∀ g', s.sagas.set 0 g' = [g'] := fun g' => by rw [h.sg]; rfl
  cases hw : g.waits (s.clock + 1)
  · have e : s.tick = { s with clock := s.clock + 1 } := by
      rw [ht]; simp only [StM.stepOne, hg0, hw, if_true]
    rw [e]
    refine ⟨rfl, g, ⟨h.sg, h.st, h.ag, h.nv1, h.nv2, h.pl, h.at_, hsum, by simp only; omega, h.ok, ⟨by have := h.clk; simp only; omega, hck⟩, h.tries⟩, rfl, rfl, by omega, fun hst => .inr ?_, fun _ => rfl⟩
    simp only [SagaM.waits, Bool.and_eq_false_iff, decide_eq_false_iff_not] at hw
    have hd : s.clock + 1 < g.due := by omega
    simp only [psi]
    generalize (((20 - s.p.log.length : Nat) : Int) + g.left) * (s.pause + 1) = X
    omega
  · have hst : g.st = 1 ∨ g.st = 2 := by
      simp [SagaM.waits] at hw
      obtain ⟨_, _, _, _, h | h⟩ := h.ok
      · exact h.1
      · omega
    have hdc : g.due ≤ s.clock + 1 := by simp [SagaM.waits] at hw; exact hw.2
    obtain ⟨a1, a2, a3, a4⟩ := agree_ask g s.p (by rw [h.st]; exact h.ag) hst
    have hpos := h.ok.left_pos hst
    have hat : (s.p.ask g.call).at_ = s.p.at_ + 1 := at_next hne
    have hlog : (s.p.ask g.call).log = s.p.log ++ [(g.call, g.reply s.p)] := rfl
    have hll : (s.p.ask g.call).log.length = s.p.log.length + 1 := by rw [hlog]; simp
    have hb : s.p.log.length < 200 := by omega
    cases hm : g.moves (g.reply s.p)
    · have hr1 : g.reply s.p = 1 := by
        rcases a4 with e | e | e
        · rw [e] at hm; simp [SagaM.moves] at hm
        · exact e
        · have := a3 e; rw [e] at hm; simp [SagaM.moves, this] at hm
      have hlt : s.p.log.length < 20 := by
        refine Nat.lt_of_not_le (fun hge => ?_)
        have hk := k_zero hr hrl s.p h.pl (by rw [h.at_]; omega) (by rw [h.at_]; omega)
        have : g.reply s.p = 0 := by
          simp only [SagaM.reply, replyM, hk]
          cases s.p.knows g.call <;> simp
        omega
      have hwr : wrap64 (g.tries + 1) = g.tries + 1 := wrap_in _ (by have := h.ok.2.2.2.1; omega)
      have hmn : 1 ≤ min ((2 : Int) ^ (min g.tries 20).toNat) s.pause ∧ min ((2 : Int) ^ (min g.tries 20).toNat) s.pause ≤ s.pause := by
        have : (1 : Int) ≤ 2 ^ (min g.tries 20).toNat := by
          have h2 : 1 ≤ (2 : Nat) ^ (min g.tries 20).toNat := Nat.one_le_two_pow
          have h3 : (((2 : Nat) ^ (min g.tries 20).toNat : Nat) : Int) = (2 : Int) ^ (min g.tries 20).toNat := by simp
          omega
        omega
      have hdw : wrap64 (s.clock + 1 + min ((2 : Int) ^ (min g.tries 20).toNat) s.pause) = s.clock + 1 + min ((2 : Int) ^ (min g.tries 20).toNat) s.pause := wrap_in _ (by have := h.clk; omega)
      have e : s.tick = { s with clock := s.clock + 1, sagas := [g.paused (s.clock + 1) s.pause], j := { s.j with fresh := false }, d := settleD s.j s.d, p := s.p.ask g.call } := by
        rw [ht]; simp only [StM.stepOne, hg0, hw, hm, if_true, hset]; rfl
      have hpd : (g.paused (s.clock + 1) s.pause).due = s.clock + 1 + min ((2 : Int) ^ (min g.tries 20).toNat) s.pause := hdw
      have hpt : (g.paused (s.clock + 1) s.pause).tries = g.tries + 1 := hwr
      have hpl : (g.paused (s.clock + 1) s.pause).left = g.left := rfl
      rw [e]
      refine ⟨rfl, g.paused (s.clock + 1) s.pause, ⟨rfl, h.st, ?_, ?_, ?_, h.pl, ?_, ?_, ?_, ?_, ⟨by have := h.clk; simp only; omega, hck⟩, ?_⟩, rfl, rfl, by rw [hpt]; omega, fun _ => .inr ?_, fun h3 => by omega⟩
      · have := a1; rw [h.st] at this; exact this
      · intro hs x hx
        simp only [hlog, List.mem_append, List.mem_singleton] at hx
        rcases hx with hx | rfl
        · exact h.nv1 hs x hx
        · simp only; omega
      · intro hs
        obtain ⟨x, hx, h2⟩ := h.nv2 hs
        exact ⟨x, by simp [hlog, hx], h2⟩
      · simp only [hat, hll, h.at_]; omega
      · simp only [hll, hpl]; omega
      · simp only [hpd]; omega
      · obtain ⟨b1, b2, b3, b4, b5⟩ := h.ok
        exact ⟨b1, b2, b3, by rw [hpt]; omega, b5⟩
      · rw [hpt]; omega
      · simp only [psi, hll, hpl, hpd]
        have e1 : ((20 - s.p.log.length : Nat) : Int) = ((20 - (s.p.log.length + 1) : Nat) : Int) + 1 := by omega
        rw [e1]
        generalize ((20 - (s.p.log.length + 1) : Nat) : Int) = Y
        have : (Y + 1 + g.left) * (s.pause + 1) = (Y + g.left) * (s.pause + 1) + (s.pause + 1) := by
          rw [show Y + 1 + g.left = (Y + g.left) + 1 by omega, Int.add_mul, Int.one_mul]
        rw [this]
        generalize (Y + g.left) * (s.pause + 1) = X
        omega
    · have hr02 : g.reply s.p = 0 ∨ g.reply s.p = 2 := by
        simp [SagaM.moves] at hm
        exact hm.imp id (fun h => h.1)
      obtain ⟨hmo, hml⟩ := h.ok.moved hst (g.reply s.p)
      obtain ⟨m1, m2, m3, m4⟩ := moved_st g (g.reply s.p) hst h.ok hr02 a3
      have e : s.tick = { s with clock := s.clock + 1, sagas := [g.moved (g.reply s.p)], j := ⟨s.j.epoch, s.j.en + 1, false⟩, d := (settleD s.j s.d).append s.j.epoch s.j.en [⟨4, 0, 0, g.id.toNat, (g.reply s.p).toNat, []⟩], p := s.p.ask g.call } := by
        rw [ht]; simp [StM.stepOne, hg0, hw, hm, hset]
      have hsteps : (g.moved (g.reply s.p)).steps = g.steps := by
        by_cases h1 : g.st = 1 <;> by_cases h2 : g.reply s.p = 0 <;> by_cases h3 : (g.steps.length : Int) < g.step + 1 <;> simp [SagaM.moved, SagaM.forward, SagaM.backward, h1, h2, h3]
      have hid := moved_id g (g.reply s.p)
      have hlg := hmo.left_nonneg
      rw [e]
      refine ⟨rfl, g.moved (g.reply s.p), ⟨rfl, by rw [hsteps]; exact h.st, ?_, ?_, ?_, h.pl, ?_, ?_, ?_, hmo, ⟨by have := h.clk; simp only; omega, hck⟩, by rw [m4]; omega⟩, hsteps, hid, by rw [m4]; have := h.ok.2.2.2.1; omega, fun _ => .inr ?_, fun h3 => by omega⟩
      · have := a2 hm; rw [h.st] at this; rw [hid]; exact this
      · intro hs x hx
        obtain ⟨q1, q2⟩ := m1 hs
        simp only [hlog, List.mem_append, List.mem_singleton] at hx
        rcases hx with hx | rfl
        · exact h.nv1 (.inl q1) x hx
        · simp only; omega
      · intro hs
        rcases m2 hs with q | q
        · obtain ⟨x, hx, h2⟩ := h.nv2 (.inl q)
          exact ⟨x, by simp [hlog, hx], h2⟩
        · exact ⟨(g.call, g.reply s.p), by simp [hlog], q⟩
      · simp only [hat, hll, h.at_]; omega
      · simp only [hll]; omega
      · simp only [m3]; have := h.clk; omega
      · simp only [psi, hll, m3]
        have hnn : 0 ≤ ((20 - s.p.log.length : Nat) : Int) := by omega
        have hle : ((20 - (s.p.log.length + 1) : Nat) : Int) + (g.moved (g.reply s.p)).left + 1 ≤ ((20 - s.p.log.length : Nat) : Int) + g.left := by omega
        have hmul := Int.mul_le_mul_of_nonneg_right hle (show 0 ≤ s.pause + 1 by omega)
        rw [Int.add_mul, Int.one_mul] at hmul
        generalize (((20 - (s.p.log.length + 1) : Nat) : Int) + (g.moved (g.reply s.p)).left) * (s.pause + 1) = X at *
        generalize (((20 - s.p.log.length : Nat) : Int) + g.left) * (s.pause + 1) = Y at *
        have := h.clk
        omega
theorem ei_ticks {rest r : List Int} {n : Nat} {s : StM} {g : SagaM} (hr : rest = r ++ List.replicate 200 0) (hrl : r.length ≤ 20) (h : EI rest n s g) (hn : n ≤ 6) (hi : s.inv) (t : Nat) (hf : s.fine t) (hck : s.clock + t < 2 ^ 40) (htr : g.tries + t < 2 ^ 40) :
    (s.ticks t).pause = s.pause ∧ ∃ g', EI rest n (s.ticks t) g' ∧ g'.steps = g.steps ∧ g'.id = g.id ∧ g'.tries ≤ g.tries + t ∧ ((g'.st = 3 ∨ g'.st = 4) ∨ psi (s.ticks t) g' + t ≤ psi s g) := by
  induction t with
  | zero => exact ⟨rfl, g, h, rfl, rfl, by omega, .inr (by simp [StM.ticks])⟩
  | succ t ih =>
    have hl1 : s.sagas.length = 1 := by rw [h.sg]; rfl
    have hf1 : s.fine t := by
      obtain ⟨b1, b2, b3, b4, b5, b6⟩ := hf
      exact ⟨by omega, by omega, b3, b4, by omega, b6⟩
    obtain ⟨e0, g1, h1, h2, h3, h4, h5⟩ := ih hf1 (by omega) (by omega)
    obtain ⟨i1, _, i3, _⟩ := ticks_inv (m := 0) hi t (by rw [hl1]; simpa using hf1)
    obtain ⟨f0, g2, k1, k2, k3, k4, k5, k6⟩ := ei_tick hr hrl h1 hn i1 (by rw [i3]; omega) (by omega)
    refine ⟨f0.trans e0, g2, k1, k2.trans h2, k3.trans h3, by omega, ?_⟩
    rcases h5 with h5 | h5
    · left; rw [k6 h5]; exact h5
    · have := agree_st h1.ag
      rcases this with q | q | q | q
      · rcases k5 (.inl q) with z | z
        · exact .inl z
        · right; show psi (s.ticks t).tick g2 + _ ≤ _; omega
      · rcases k5 (.inr q) with z | z
        · exact .inl z
        · right; show psi (s.ticks t).tick g2 + _ ≤ _; omega
      · left; rw [k6 (.inl q)]; exact .inl q
      · left; rw [k6 (.inr q)]; exact .inr q
/-- So many ticks are enough. -/
theorem ei_ends {rest r : List Int} {n : Nat} {s : StM} {g : SagaM} (hr : rest = r ++ List.replicate 200 0) (hrl : r.length ≤ 20) (h : EI rest n s g) (hn : n ≤ 6) (hi : s.inv) (hl0 : s.p.log = []) (hd0 : g.due = 0) (ht0 : g.tries = 0) (hc0 : s.clock = 0) (hleft : g.left ≤ 2 * n)
    (t : Nat) (ht : (t : Int) = (20 + 2 * n + 2) * (s.pause + 1)) (hf : s.fine t) : ∃ g', EI rest n (s.ticks t) g' ∧ g'.steps = g.steps ∧ g'.id = g.id ∧ (g'.st = 3 ∨ g'.st = 4) := by
  have hp := hi.pause
  have htb : (t : Int) ≤ 34 * 65 := by
    rw [ht]
    exact Int.mul_le_mul (by omega) (by omega) (by omega) (by omega)
  obtain ⟨e0, g', h1, h2, h3, _, h5⟩ := ei_ticks hr hrl h hn hi t hf (by omega) (by omega)
  refine ⟨g', h1, h2, h3, ?_⟩
  rcases h5 with h5 | h5
  · exact h5
  · rcases agree_st h1.ag with q | q | q | q
    · exfalso
      have hpos := h1.ok.left_nonneg
      have : 0 ≤ psi (s.ticks t) g' := by
        unfold psi
        have := Int.mul_nonneg (show 0 ≤ (((20 - (s.ticks t).p.log.length : Nat) : Int) + g'.left) by omega) (show 0 ≤ (s.ticks t).pause + 1 by omega)
        omega
      have hs : psi s g ≤ (20 + 2 * n) * (s.pause + 1) := by
        unfold psi
        rw [hl0, hd0, hc0]
        have := Int.mul_le_mul_of_nonneg_right (show (((20 - ([] : List (CallM × Int)).length : Nat) : Int) + g.left) ≤ 20 + 2 * n by simp; omega) (show 0 ≤ s.pause + 1 by omega)
        omega
      rw [show (20 + 2 * (n : Int) + 2) = (20 + 2 * n) + 2 by omega, Int.add_mul] at ht
      omega
    · exfalso
      have hpos := h1.ok.left_nonneg
      have : 0 ≤ psi (s.ticks t) g' := by
        unfold psi
        have := Int.mul_nonneg (show 0 ≤ (((20 - (s.ticks t).p.log.length : Nat) : Int) + g'.left) by omega) (show 0 ≤ (s.ticks t).pause + 1 by omega)
        omega
      have hs : psi s g ≤ (20 + 2 * n) * (s.pause + 1) := by
        unfold psi
        rw [hl0, hd0, hc0]
        have := Int.mul_le_mul_of_nonneg_right (show (((20 - ([] : List (CallM × Int)).length : Nat) : Int) + g.left) ≤ 20 + 2 * n by simp; omega) (show 0 ≤ s.pause + 1 by omega)
        omega
      rw [show (20 + 2 * (n : Int) + 2) = (20 + 2 * n) + 2 by omega, Int.add_mul] at ht
      omega
    · exact .inl q
    · exact .inr q
end Go.Proofs.YtkafmfdipmhleaaGreatDoor

namespace Go.Proofs.YtkafmfdipmhleaaGreatDoor
open Go.RowKit Go.Maps

theorem below_toK {B : Nat} {w w' : World} (h : Below B w w') (hB : w.heap.size ≤ B) (K : List Nat) : FrK K w w' :=
  ⟨h.os, h.tape, h.output, h.size, fun k o ho _ => (h.block k (Nat.lt_of_lt_of_le (lt_of_hp ho) hB)).trans ho⟩
theorem StAt.keepK {w w' : World} {K : List Nat} {q : Pl} {bl : List Nat} {s : StM} (h : StAt w q bl s) (hf : FrK K w w') (hK : ∀ k ∈ [80, 133, 103, 104, 108, 45, 47, 49, 4, 0, 89, 55], k ∉ K) : StAt w' q bl s :=
  ⟨hf.block _ _ h.eng (hK 80 (by simp)), h.jn.keepK hf (hK _ (by simp)), h.dk.keepK hf (hK _ (by simp)) (hK _ (by simp)) (hK _ (by simp)), h.pt.keepK hf (hK _ (by simp)) (hK _ (by simp)) (hK _ (by simp)) (hK _ (by simp)),
   map_keepK h.mp hf (hK _ (by simp)), h.len, sgs_keepK h.sg hf (hK _ (by simp)) (hK _ (by simp)), h.nd, h.lo⟩
/-- The keys, in order, are the sagas' numbers. -/
theorem keys_sorted {l : List SagaM} {bl : List Nat} (hl : bl.length = l.length) (ho : l.Pairwise (fun a b => a.id < b.id)) {ss : List Int} (hp : ss.Perm (intKeys (dataOf (ilOf l bl)))) :
    ss.mergeSort (fun x y => decide (x ≤ y)) = l.map (·.id) := by
  have e : intKeys (dataOf (ilOf l bl)) = l.map (·.id) := by
    rw [intKeys_dataOf]
    unfold ilOf
    exact List.map_fst_zip (l₁ := l.map (·.id)) (l₂ := bl) (by simp; omega)
  rw [e] at hp
  have h1 : (l.map (·.id)).Pairwise (· ≤ ·) := (List.pairwise_map.2 (ho.imp (fun h => Int.le_of_lt h)))
  have h2 : (ss.mergeSort (fun x y => decide (x ≤ y))).Pairwise (fun a b => decide (a ≤ b) = true) := List.pairwise_mergeSort (by intro a b c; simp; omega) (by intro a b; simp; omega) ss
  exact List.Perm.eq_of_pairwise (le := (· ≤ ·)) (fun a b _ _ h1 h2 => Int.le_antisymm h1 h2) (h2.imp (fun h => by simpa using h)) h1 ((List.mergeSort_perm ss _).trans hp)
theorem ints_at {w : World} {B g n cap : Nat} {ids : List Int} (h : w.ownsRow B 3 1 (.slice (some ⟨g, 0, none⟩) n cap) n (ids.map encZ)) (k : Nat) (x : Int) (hx : ids[k]? = some x) : w.cell? ⟨g, k, none⟩ = some (.int .i64 x) := by
  have := h.cellAt k (by have := h.1; simp at this; have := (List.getElem?_eq_some_iff.1 hx).1; omega)
  rw [this, List.getElem?_map, hx]; rfl
theorem len_of_ord (l : List SagaM) (a N : Int) (ho : l.Pairwise (fun x y => x.id < y.id)) (h : ∀ g ∈ l, a < g.id ∧ g.id ≤ N) (hN : a ≤ N) : (l.length : Int) ≤ N - a := by
  induction l generalizing a with
  | nil => simp; omega
  | cons x l ih =>
    have hx := h x (by simp)
    have hp := List.pairwise_cons.1 ho
    have := ih x.id hp.2 (fun g hg => ⟨hp.1 g hg, (h g (by simp [hg])).2⟩) hx.2
    simp only [List.length_cons]
    omega
theorem inv_len {s : StM} (h : s.inv) : s.sagas.length ≤ 1000 := by
  have := len_of_ord s.sagas 0 1000 h.ord (fun g hg => by have := h.ok g hg; exact ⟨by have := this.1; omega, this.2.1⟩) (by omega)
  omega
theorem blk_of (l : List SagaM) (bl : List Nat) (hl : bl.length = l.length) (ho : l.Pairwise (fun a b => a.id < b.id)) (k : Nat) (g : SagaM) (hg : l[k]? = some g) : ∃ b, bl[k]? = some b ∧ blkOfId (ilOf l bl) g.id = some b := by
  induction l generalizing bl k with
  | nil => simp at hg
  | cons x l ih =>
    cases bl with
    | nil => simp at hl
    | cons y bl =>
      have hp := List.pairwise_cons.1 ho
      cases k with
      | zero =>
        simp at hg
        subst hg
        exact ⟨y, rfl, by simp [blkOfId, ilOf]⟩
      | succ k =>
        have hg' : l[k]? = some g := by simpa using hg
        obtain ⟨b, h1, h2⟩ := ih bl (by simpa using hl) hp.2 k hg'
        refine ⟨b, by simpa using h1, ?_⟩
        have hne : x.id ≠ g.id := by have := hp.1 g (List.mem_of_getElem? hg'); omega
        simp only [blkOfId, ilOf, List.map_cons, List.zip_cons_cons, List.find?_cons, decide_eq_false hne] at h2 ⊢
        exact h2
theorem step_ids (s : StM) (k : Nat) : (s.stepOne k).sagas.map (·.id) = s.sagas.map (·.id) := by
  have key : ∀ (g g' : SagaM), s.sagas[k]? = some g → g'.id = g.id → (s.sagas.set k g').map (·.id) = s.sagas.map (·.id) := by
    intro g g' hg hid
    apply List.ext_getElem?
    intro i
    by_cases e : i = k
    · subst e
      have hl := (List.getElem?_eq_some_iff.1 hg).1
      rw [List.getElem?_map, List.getElem?_map, List.getElem?_set_self hl, hg]
      simp [hid]
    · rw [List.getElem?_map, List.getElem?_map, List.getElem?_set_ne (fun h => e h.symm)]
  cases hg : s.sagas[k]? with
  | none => simp only [StM.stepOne, hg]
  | some g =>
    by_cases hw : g.waits s.clock = false
    · simp only [StM.stepOne, hg, hw, if_true]
    · by_cases hm : g.moves (g.reply s.p) = false
      · simp only [StM.stepOne, hg, hw, hm, if_true, if_false]
        exact key g _ hg rfl
      · simp only [StM.stepOne, hg, hw, hm, if_false]
        exact key g _ hg (moved_id g _)
theorem fold_ids (l : List Nat) (s : StM) : (l.foldl StM.stepOne s).sagas.map (·.id) = s.sagas.map (·.id) := by
  induction l generalizing s with
  | nil => rfl
  | cons a l ih => rw [List.foldl_cons, ih, step_ids]
theorem step_lo (s : StM) (k : Nat) : (s.stepOne k).p.lo = s.p.lo := by
  unfold StM.stepOne
  cases s.sagas[k]? with
  | none => rfl
  | some g =>
    simp only
    split
    · rfl
    · split <;> rfl
theorem fold_lo (l : List Nat) (s : StM) : (l.foldl StM.stepOne s).p.lo = s.p.lo := by
  induction l generalizing s with
  | nil => rfl
  | cons a l ih => rw [List.foldl_cons, ih, step_lo]
theorem tick_lo (s : StM) : s.tick.p.lo = s.p.lo := fold_lo _ { s with clock := s.clock + 1 }
theorem own_keepK {w w' : World} {K : List Nat} {B e size n : Nat} {v : Value} {xs : List Value} (h : w.ownsRow B e size v n xs) (hf : FrK K w w') (he : e + 1 ∉ K) : w'.ownsRow B e size v n xs := by
  obtain ⟨h1, h2⟩ := h
  refine ⟨h1, ?_⟩
  rcases h2 with h2 | ⟨g, cap, cur, hv, hg, hh, r⟩
  · exact .inl h2
  · exact .inr ⟨g, cap, cur, hv, hg, hf.block g _ hh he, r⟩
theorem ids_shape {w : World} {B n : Nat} {v : Value} {xs : List Value} (h : w.ownsRow B 3 1 v n xs) : ∃ va vc, v = .slice va n vc ∧ (n = 0 ∨ ∃ g, va = some ⟨g, 0, none⟩) := by
  rcases h.2 with ⟨h1, h2⟩ | ⟨g, cap, cur, h1, _⟩
  · exact ⟨none, 0, by rw [h1, h2], .inl h2⟩
  · exact ⟨some ⟨g, 0, none⟩, cap, h1, .inr ⟨g, rfl⟩⟩
set_option maxRecDepth 100000 in
set_option maxHeartbeats 4000000 in
theorem Tick_calls {w : World} {q : Pl} {bl : List Nat} {s : StM} {m : Nat} (hs : StAt w q bl s) (hi : s.inv) (hf : s.fine (m + s.sagas.length)) (hck : -9223372036854775808 ≤ s.clock + 1 ∧ s.clock + 1 ≤ 9223372036854775807) :
    Calls Tryz.prog 20 #[.pointer (some ⟨q.xb, 0, none⟩)] w fun e w' => e = .returned .nilIface ∧ StAt w' q bl s.tick ∧ FrK KT w w' ∧ Low s.p.lo w w' := by
  have hx := hs.eng
  have Hs := Lib.hid hs
  have Hi := Lib.hid hi
  have Hf := Lib.hid hf
  have Hck := Lib.hid hck
  have hwr : wrap64 (s.clock + 1) = s.clock + 1 := wrap_in _ (by omega)
  have Hx := Lib.hid hx
  simp only [egCells] at hx
  clear hs hi hf hck
  have hcv := cellv w
  have hfv := frozv w
  go_enter Tryz.func20, Tryz.ntmps20
  go_upto_region 4 with fail
  have hF0 : FrK KT w (w.setCell ⟨q.xb, 4, none⟩ (.int .i64 (s.clock + 1))) := (Fr.one q.xb w 4 (.int .i64 (s.clock + 1))).toK (by
    rintro k o rfl ho
    rw [Hx.out] at ho; cases ho; simp [kindOf])
  have hs1 : StAt (w.setCell ⟨q.xb, 4, none⟩ (.int .i64 (s.clock + 1))) q bl { s with clock := s.clock + 1 } := by
    have hk : FrK [80] w (w.setCell ⟨q.xb, 4, none⟩ (.int .i64 (s.clock + 1))) := (Fr.one q.xb w 4 (.int .i64 (s.clock + 1))).toK (by
      rintro k o rfl ho
      rw [Hx.out] at ho; cases ho; simp [kindOf])
    have h0 := Hs.out
    refine ⟨?_, h0.jn.keepK hk (by decide), h0.dk.keepK hk (by decide) (by decide) (by decide), h0.pt.keepK hk (by decide) (by decide) (by decide) (by decide), map_keepK h0.mp hk (by decide), h0.len, sgs_keepK h0.sg hk (by decide) (by decide), h0.nd, h0.lo⟩
    rw [hp_setCell, if_pos rfl, Hx.out]; simp [egCells]
  have HO0 : Hid (Low s.p.lo w (w.setCell ⟨q.xb, 4, none⟩ (.int .i64 (s.clock + 1)))) := (Fr.one q.xb w 4 (.int .i64 (s.clock + 1))).low Hs.out.size (by
    rintro k rfl
    exact Hs.out.lo.1)
  have HF0 := Lib.hid hF0
  have Hs1 := Lib.hid hs1
  clear hcv hfv hF0 hs1
  generalize w.setCell ⟨q.xb, 4, none⟩ (.int .i64 (s.clock + 1)) = w1 at HF0 HO0 Hs1 ⊢
  have hx := Hs1.out.eng
  simp only [egCells] at hx
  have hcv := cellv w1
  have hlen30 : s.sagas.length ≤ 1000 := inv_len Hi.out
  have hz : Maps.size (dataOf (ilOf s.sagas bl)) = s.sagas.length := by
    rw [size_dataOf, ilOf, List.length_zip, List.length_map, Hs.out.len]; omega
  have HS := Lib.hid (Sorted_calls q.mb s.sagas.length (dataOf (ilOf s.sagas bl)) ptrR w1 Hs1.out.mp (by rw [hz]; unfold maxLen; omega) (by rw [hz]; omega))
  clear hlen30 hz
  go_upto_region 5 with (first
    | (go_at_call 48; refine Calls.mono (Keys_calls (some q.mb) w1) ?_; rintro e w2 ⟨rfl, rfl⟩)
    | (go_at_call 47; refine Calls.mono HS.out ?_; rintro e w3 ⟨v, ss, rfl, hperm, hown, hnil, hbel⟩; obtain ⟨va, vc, rfl, hva⟩ := ids_shape hown)
    | fail)
  have hk3 : FrK [] w1 w3 := ((Fr.refl (fun _ => False) w1).alloc (.cells #[.map (some q.mb)] 76)).toK (fun _ _ f _ => f.elim) |>.trans (below_toK hbel (Nat.le_refl _) [])
  have hs3 := Hs1.out.keepK hk3 (by simp)
  have hids := keys_sorted Hs.out.len (Hi.out).ord hperm
  rw [hids] at hown
  have hlen : ss.length = s.sagas.length := by
    have := congrArg List.length hids
    simpa using this
  rw [hlen] at hown
  have HF3 := Lib.hid (HF0.out.trans (hk3.mono (by simp)))
  have HO3 := Lib.hid (HO0.out.trans ((((Fr.refl (fun _ => False) w1).alloc (.cells #[.map (some q.mb)] 76)).low Hs1.out.size (fun _ f => f.elim)).trans
    (show Low s.p.lo _ w3 from ⟨hbel.os, hbel.tape, hbel.output, hbel.size, fun k hk => hbel.block k (by have := Hs1.out.size; have hz : s.p.lo ≤ w1.heap.size := Hs1.out.size; simp; omega)⟩)))
  have Hs3 := Lib.hid hs3
  rw [hlen] at hva
  have Hva := Lib.hid hva
  have Hlen := Lib.hid hlen
  clear hcv hx hnil hbel hk3 hs3 hids hperm hva
  have Hown := Lib.hid hown
  clear hown
  rw [hlen]
  clear hlen
  go_wp2_with fail
  go_loopw [28] (fun i wr => ∃ k : Nat, k ≤ s.sagas.length ∧ i = .int .i64 (k : Nat) ∧ StAt wr q bl ((List.range k).foldl StM.stepOne { s with clock := s.clock + 1 }) ∧ FrK KT w3 wr ∧ Low s.p.lo w3 wr) (fun i _ => s.sagas.length - (intOf i).toNat)
  case atStart => exact ⟨0, Nat.zero_le _, rfl, Hs3.out, FrK.refl _ _, Low.refl _ _⟩
  case round =>
    obtain ⟨k, hk, rfl, hsk, hfk, hok45⟩ := hrel
    have Hok45 := Lib.hid hok45
    clear hok45
    by_cases hkn : k < s.sagas.length
    · have hstep : (List.range (k + 1)).foldl StM.stepOne { s with clock := s.clock + 1 } = ((List.range k).foldl StM.stepOne { s with clock := s.clock + 1 }).stepOne k := by
        rw [List.range_succ, List.foldl_append]; rfl
      obtain ⟨t1, t2, t3, t4⟩ := fold_inv (m := m + (s.sagas.length - k)) (List.range k) { s with clock := s.clock + 1 } (inv_clock Hi.out _) (by
        rw [List.length_range, show m + (s.sagas.length - k) + k = m + s.sagas.length by omega]; exact Hf.out)
      have t5 := fold_ids (List.range k) { s with clock := s.clock + 1 }
      have t6 : ((List.range k).foldl StM.stepOne { s with clock := s.clock + 1 }).p.lo = s.p.lo := fold_lo (List.range k) { s with clock := s.clock + 1 }
      have Hstep := Lib.hid hstep
      clear hstep
      generalize (List.range k).foldl StM.stepOne { s with clock := s.clock + 1 } = t at Hstep hsk t1 t2 t3 t4 t5 t6
      have Ht6 := Lib.hid t6
      clear t6
      obtain ⟨g, hg⟩ : ∃ g, t.sagas[k]? = some g := ⟨t.sagas[k], List.getElem?_eq_getElem (by rw [t4]; exact hkn)⟩
      obtain ⟨b, hb, hbo⟩ := blk_of t.sagas bl hsk.len t1.ord k g hg
      have hok := t1.ok g (List.mem_of_getElem? hg)
      have hgid : (s.sagas.map (·.id))[k]? = some g.id := by
        have : (t.sagas.map (·.id))[k]? = some g.id := by rw [List.getElem?_map, hg]; rfl
        rw [t5] at this; exact this
      obtain ⟨ib, rfl⟩ : ∃ ib, va = some ⟨ib, 0, none⟩ := by
        rcases Hva.out with h | h
        · omega
        · exact h
      have hcell := ints_at (own_keepK Hown.out hfk (by decide)) k g.id hgid
      have Hfk := Lib.hid hfk
      have Ht1 := Lib.hid t1
      have Ht2 := Lib.hid t2
      have Ht3 := Lib.hid t3
      clear t1 t2 t3 t4 t5 hfk hgid
      have hkI : (k : Int) < s.sagas.length := by omega
      have hl30 := inv_len Hi.out
      go_upto_block 1 with fail
      by_cases hw : g.waits t.clock = false
      · refine tick_idle q bl t k g b ib s.sagas.length vc wr hsk hg hb hbo ⟨hok.1, hok.2.1⟩ hcell hkn hw ?_
        intros
        have e : t.stepOne k = t := by simp only [StM.stepOne, hg, hw, if_true]
        clear hcell hb hbo hok hg hw
        go_wp2_with fail
        go_roundw
        case rel => exact ⟨k + 1, hkn, by go_num, by rw [Hstep.out, e]; exact hsk, Hfk.out, Hok45.out⟩
        case measure => simp [intOf]; omega
      · have hw : g.waits t.clock = true := by simpa using hw
        obtain ⟨hroom, hst⟩ := inv_room Ht1.out hg hw
        have hsm := Ht2.out.small
        by_cases hm : g.moves (g.reply t.p) = false
        · refine tick_vain q bl t k g b ib s.sagas.length vc wr hsk Ht1.out hg hb hbo ⟨hok.1, hok.2.1⟩ hcell hkn hw hok hst hsm hm ?_
          intros
          rename_i w' hs' hf' ho'
          clear hcell hb hbo hok hg hw hroom hst hsm hm hsk
          have Hs' := Lib.hid hs'
          have Hf' := Lib.hid hf'
          have Ho' := Lib.hid ho'
          rw [Ht6.out] at Ho'
          clear hs' hf' ho'
          go_wp2_with fail
          go_roundw
          case rel => exact ⟨k + 1, hkn, by go_num, by rw [Hstep.out]; exact Hs'.out, Hfk.out.trans Hf'.out, Hok45.out.trans Ho'.out⟩
          case measure => simp [intOf]; omega
        · have hm : g.moves (g.reply t.p) = true := by simpa using hm
          refine tick_moved q bl t k g b ib s.sagas.length vc wr hsk Ht1.out hg hb hbo ⟨hok.1, hok.2.1⟩ hcell hkn hw hok hst hsm hroom hm ?_
          intros
          rename_i w' hs' hf' ho'
          clear hcell hb hbo hok hg hw hroom hst hsm hm hsk
          have Hs' := Lib.hid hs'
          have Hf' := Lib.hid hf'
          have Ho' := Lib.hid ho'
          rw [Ht6.out] at Ho'
          clear hs' hf' ho'
          go_wp2_with fail
          go_roundw
          case rel => exact ⟨k + 1, hkn, by go_num, by rw [Hstep.out]; exact Hs'.out, Hfk.out.trans Hf'.out, Hok45.out.trans Ho'.out⟩
          case measure => simp [intOf]; omega
    · obtain rfl : k = s.sagas.length := by omega
      have Hsk := Lib.hid hsk
      have Hfk := Lib.hid hfk
      have hnk : ¬ ((s.sagas.length : Int) < s.sagas.length) := by omega
      clear hsk hfk
      go_wp2_with fail
      go_ret
      exact ⟨rfl, Hsk.out, HF3.out.trans Hfk.out, HO3.out.trans Hok45.out⟩
end Go.Proofs.YtkafmfdipmhleaaGreatDoor

namespace Go.Proofs.YtkafmfdipmhleaaGreatDoor
open Go.RowKit Go.Maps

def insSaga (g : SagaM) : List SagaM → List SagaM
  | [] => [g]
  | x :: r => if g.id < x.id then g :: x :: r else x :: insSaga g r
def insBl (id : Int) (sb : Nat) : List SagaM → List Nat → List Nat
  | x :: r, y :: bl => if id < x.id then sb :: y :: bl else y :: insBl id sb r bl
  | _, _ => [sb]
theorem insSaga_len (g : SagaM) (l : List SagaM) : (insSaga g l).length = l.length + 1 := by
  induction l with
  | nil => rfl
  | cons x r ih => unfold insSaga; split <;> simp [ih]
theorem insBl_len (id : Int) (sb : Nat) (l : List SagaM) (bl : List Nat) (h : bl.length = l.length) : (insBl id sb l bl).length = l.length + 1 := by
  induction l generalizing bl with
  | nil => cases bl <;> simp [insBl]
  | cons x r ih =>
    cases bl with
    | nil => simp at h
    | cons y bl => unfold insBl; split <;> simp [ih bl (by simpa using h)] <;> simpa using h
theorem insIL_of (g : SagaM) (sb : Nat) (l : List SagaM) (bl : List Nat) (h : bl.length = l.length) : ilOf (insSaga g l) (insBl g.id sb l bl) = insIL (g.id, sb) (ilOf l bl) := by
  induction l generalizing bl with
  | nil => cases bl <;> simp [insBl, insSaga, ilOf, insIL]
  | cons x r ih =>
    cases bl with
    | nil => simp at h
    | cons y bl =>
      have := ih bl (by simpa using h)
      unfold insSaga insBl
      by_cases hx : g.id < x.id
      · simp [hx, ilOf, insIL]
      · simp only [hx, if_false, ilOf, List.map_cons, List.zip_cons_cons, insIL] at this ⊢
        rw [this]
theorem insSaga_mem {g x : SagaM} {l : List SagaM} : x ∈ insSaga g l ↔ x = g ∨ x ∈ l := by
  induction l with
  | nil => simp [insSaga]
  | cons y r ih =>
    unfold insSaga
    split
    · simp
    · simp only [List.mem_cons, ih]
      constructor
      · rintro (h | h | h) <;> simp [h]
      · rintro (h | h | h) <;> simp [h]
theorem insSaga_sum (g : SagaM) (l : List SagaM) : leftSum (insSaga g l) = g.left + leftSum l := by
  induction l with
  | nil => simp [insSaga, leftSum]
  | cons y r ih =>
    unfold insSaga
    split
    · simp [leftSum]
    · simp only [leftSum, List.map_cons, List.sum_cons] at ih ⊢
      rw [ih]; omega
theorem insSaga_ord (g : SagaM) (l : List SagaM) (h : l.Pairwise (fun a b => a.id < b.id)) (hn : ∀ x ∈ l, x.id ≠ g.id) : (insSaga g l).Pairwise (fun a b => a.id < b.id) := by
  induction l with
  | nil => simp [insSaga]
  | cons y r ih =>
    have hp := List.pairwise_cons.1 h
    unfold insSaga
    split
    · rename_i hx
      refine List.pairwise_cons.2 ⟨fun a ha => ?_, h⟩
      simp only [List.mem_cons] at ha
      rcases ha with rfl | ha
      · exact hx
      · have := hp.1 a ha; omega
    · rename_i hx
      refine List.pairwise_cons.2 ⟨fun a ha => ?_, ih hp.2 (fun x hx => hn x (by simp [hx]))⟩
      rcases insSaga_mem.1 ha with rfl | ha
      · have := hn y (by simp); omega
      · exact hp.1 a ha
theorem insSaga_at {g g' : SagaM} {sb b' : Nat} {l : List SagaM} {bl : List Nat} (h : bl.length = l.length) (i : Nat) (h1 : (insSaga g l)[i]? = some g') (h2 : (insBl g.id sb l bl)[i]? = some b') :
    (g' = g ∧ b' = sb) ∨ ∃ j : Nat, l[j]? = some g' ∧ bl[j]? = some b' := by
  induction l generalizing bl i with
  | nil =>
    cases bl with
    | cons y bl => simp at h
    | nil =>
      simp only [insSaga, insBl] at h1 h2
      cases i with
      | zero => simp at h1 h2; exact .inl ⟨h1.symm, h2.symm⟩
      | succ i => simp at h1
  | cons x r ih =>
    cases bl with
    | nil => simp at h
    | cons y bl =>
      unfold insSaga at h1
      unfold insBl at h2
      by_cases hx : g.id < x.id
      · rw [if_pos hx] at h1 h2
        cases i with
        | zero => simp at h1 h2; exact .inl ⟨h1.symm, h2.symm⟩
        | succ i => exact .inr ⟨i, by simpa using h1, by simpa using h2⟩
      · rw [if_neg hx] at h1 h2
        cases i with
        | zero => exact .inr ⟨0, by simpa using h1, by simpa using h2⟩
        | succ i =>
          rcases ih (by simpa using h) i (by simpa using h1) (by simpa using h2) with h | ⟨j, a, b⟩
          · exact .inl h
          · exact .inr ⟨j + 1, by simpa using a, by simpa using b⟩
theorem insBl_mem {id : Int} {sb x : Nat} {l : List SagaM} {bl : List Nat} (h : x ∈ insBl id sb l bl) : x = sb ∨ x ∈ bl := by
  induction l generalizing bl with
  | nil => simp [insBl] at h; exact .inl h
  | cons y r ih =>
    cases bl with
    | nil => simp [insBl] at h; exact .inl h
    | cons z bl =>
      unfold insBl at h
      split at h
      · simpa using h
      · simp only [List.mem_cons] at h ⊢
        rcases h with h | h
        · exact .inr (.inl h)
        · rcases ih h with h | h
          · exact .inl h
          · exact .inr (.inr h)
theorem insBl_nd {id : Int} {sb : Nat} {l : List SagaM} {bl : List Nat} (h : bl.Nodup) (hn : sb ∉ bl) : (insBl id sb l bl).Nodup := by
  induction l generalizing bl with
  | nil => simp [insBl]
  | cons y r ih =>
    cases bl with
    | nil => simp [insBl]
    | cons z bl =>
      unfold insBl
      split
      · exact List.nodup_cons.2 ⟨hn, h⟩
      · have hp := List.nodup_cons.1 h
        simp only [List.mem_cons, not_or] at hn
        refine List.nodup_cons.2 ⟨fun hm => ?_, ih hp.2 hn.2⟩
        rcases insBl_mem hm with h | h
        · exact hn.1 h.symm
        · exact hp.1 h
def bodyRec (id : Int) (l : List (ByteArray × ByteArray)) : RecM := ⟨2, 0, 0, id.toNat, 0, l⟩
def takenRec (id : Int) : RecM := ⟨3, 0, 0, id.toNat, 0, []⟩
def StM.submit (s : StM) (id : Int) (l : List (ByteArray × ByteArray)) : StM :=
  { s with sagas := insSaga (SagaM.new id l) s.sagas, j := ⟨s.j.epoch, s.j.en + 2, false⟩, d := (settleD s.j s.d).append s.j.epoch s.j.en [bodyRec id l, takenRec id] }
theorem whole_small {id : Int} {l : List (ByteArray × ByteArray)} (h : wholeB id l = true) : 1 ≤ id ∧ id ≤ 1000 ∧ smallSteps l := by
  simp only [wholeB, Bool.and_eq_true, decide_eq_true_eq, Bool.not_eq_true', anyLong] at h
  obtain ⟨⟨⟨⟨h1, h2⟩, h3⟩, h4⟩, h5⟩ := h
  refine ⟨h1, h2, h3, h4, fun s hs => ?_⟩
  have := List.any_eq_false.1 h5 s hs
  simp [longB] at this
  omega
theorem new_ok {id : Int} {l : List (ByteArray × ByteArray)} (h : wholeB id l = true) : (SagaM.new id l).ok := by
  obtain ⟨h1, h2, h3⟩ := whole_small h
  exact ⟨h1, h2, h3, by simp [SagaM.new], .inl ⟨.inl rfl, by simp [SagaM.new], by have := h3.1; simp only [SagaM.new]; omega⟩⟩
theorem new_left (id : Int) (l : List (ByteArray × ByteArray)) : (SagaM.new id l).left = 2 * l.length - 1 := by simp [SagaM.left, SagaM.new]
theorem submit_inv {s : StM} {m : Nat} {id : Int} {l : List (ByteArray × ByteArray)} (h : s.inv) (hf : s.fine m) (hw : wholeB id l = true) (hn : ∀ x ∈ s.sagas, x.id ≠ id) (hroom : (s.j.en : Int) + (2 + (2 * l.length - 1) + leftSum s.sagas) ≤ s.d.blocks.length) :
    (s.submit id l).inv ∧ (s.submit id l).fine m := by
  have hlen : ((settleD s.j s.d).append s.j.epoch s.j.en [bodyRec id l, takenRec id]).blocks.length = s.d.blocks.length := by rw [append_len, settle_len _ _ h.pend]
  constructor
  · refine ⟨(settle_quiet _ _ h.quiet).append _ _ _, append_pend _ _ _ _ (settle_pend _ _ h.pend), h.epoch, ?_, insSaga_ord _ _ h.ord hn, ?_, ?_, h.pause⟩
    · intro g hg
      rcases insSaga_mem.1 hg with rfl | hg
      · exact new_ok hw
      · exact h.ok g hg
    · simp only [StM.submit]
      rw [hlen, insSaga_sum, new_left]; omega
    · simp only [StM.submit]; rw [hlen]; exact h.size
  · obtain ⟨b1, b2, b3, b4, b5, b6⟩ := hf
    refine ⟨b1, b2, b3, b4, b5, ?_⟩
    intro g hg
    rcases insSaga_mem.1 hg with rfl | hg
    · simp [SagaM.new, StM.submit]
    · exact b6 g hg
/-- What is still to be summed. -/
def restSum (l : List SagaM) (left : Lit → Bool) : Int := (l.map fun g => cond (left (.int .i64 g.id)) g.left 0).sum
theorem rest_all (l : List SagaM) (left : Lit → Bool) (h : ∀ g ∈ l, left (.int .i64 g.id) = true) : restSum l left = leftSum l := by
  unfold restSum leftSum
  congr 1
  exact List.map_congr_left (fun g hg => by rw [h g hg]; rfl)
theorem rest_none (l : List SagaM) (left : Lit → Bool) (h : ∀ kl, left kl = false) : restSum l left = 0 := by
  unfold restSum
  induction l with
  | nil => rfl
  | cons a l ih => simp [h] at ih ⊢; exact ih
theorem rest_step (l : List SagaM) (left : Lit → Bool) (ho : l.Pairwise (fun a b => a.id < b.id)) (g : SagaM) (hg : g ∈ l) (hl : left (.int .i64 g.id) = true) :
    restSum l left = restSum l (fun z => left z && !z.sameKey (.int .i64 g.id)) + g.left := by
  induction l with
  | nil => simp at hg
  | cons a l ih =>
    have hp := List.pairwise_cons.1 ho
    simp only [List.mem_cons] at hg
    rcases hg with rfl | hg
    · have h2 : restSum l left = restSum l (fun z => left z && !z.sameKey (.int .i64 g.id)) := by
        unfold restSum
        congr 1
        refine List.map_congr_left (fun x hx => ?_)
        have : (Lit.int .i64 x.id).sameKey (.int .i64 g.id) = false := by
          have := hp.1 x hx
          simp [Lit.sameKey]; omega
        simp [this]
      have h3 : (Lit.int .i64 g.id).sameKey (.int .i64 g.id) = true := by simp [Lit.sameKey]
      simp only [restSum, List.map_cons, List.sum_cons] at h2 ⊢
      rw [h2, hl, h3]
      simp; omega
    · have h1 := ih hp.2 hg
      have hne : (Lit.int .i64 a.id).sameKey (.int .i64 g.id) = false := by
        have := hp.1 g hg
        simp [Lit.sameKey]; omega
      simp only [restSum, List.map_cons, List.sum_cons] at h1 ⊢
      rw [h1, hne]
      simp; omega
theorem rest_nonneg (l : List SagaM) (left : Lit → Bool) (h : ∀ g ∈ l, g.ok) : 0 ≤ restSum l left := by
  unfold restSum
  induction l with
  | nil => simp
  | cons a l ih =>
    have h1 := (h a (by simp)).left_nonneg
    have h2 := ih (fun g hg => h g (by simp [hg]))
    simp only [List.map_cons, List.sum_cons]
    cases left (.int .i64 a.id) <;> simp only [cond_true, cond_false] <;> omega
theorem leftSum_le (l : List SagaM) (h : ∀ g ∈ l, g.ok) : leftSum l ≤ 12 * l.length := by
  induction l with
  | nil => simp [leftSum]
  | cons a l ih =>
    have h1 := (h a (by simp))
    have h2 := ih (fun g hg => h g (by simp [hg]))
    have h3 : a.left ≤ 12 := by
      obtain ⟨_, _, hsm, _, h⟩ := h1
      have := hsm.1
      have := hsm.2.1
      unfold SagaM.left
      split
      · rcases h with h | h <;> omega
      · split
        · rcases h with h | h <;> omega
        · omega
    simp only [leftSum, List.map_cons, List.sum_cons, List.length_cons] at h2 ⊢
    omega
/-- A key of the map is a saga's. -/
theorem il_find (l : List SagaM) (bl : List Nat) (hl : bl.length = l.length) (id : Int) (b : Nat) (h : blkOfId (ilOf l bl) id = some b) : ∃ (i : Nat) (g : SagaM), l[i]? = some g ∧ bl[i]? = some b ∧ g.id = id := by
  induction l generalizing bl with
  | nil => simp [blkOfId, ilOf] at h
  | cons x r ih =>
    cases bl with
    | nil => simp at hl
    | cons y bl =>
      by_cases hx : x.id = id
      · simp [blkOfId, ilOf, hx] at h
        exact ⟨0, x, rfl, by simp [h], hx⟩
      · have : blkOfId (ilOf r bl) id = some b := by simpa [blkOfId, ilOf, hx] using h
        obtain ⟨i, g, h1, h2, h3⟩ := ih bl (by simpa using hl) this
        exact ⟨i + 1, g, by simpa using h1, by simpa using h2, h3⟩
theorem il_none (l : List SagaM) (bl : List Nat) (id : Int) (h : ∀ x ∈ l, x.id ≠ id) : blkOfId (ilOf l bl) id = none := by
  simp only [blkOfId, Option.map_eq_none_iff, List.find?_eq_none, ilOf]
  intro p hp
  have := List.of_mem_zip hp
  simp only [List.mem_map] at this
  obtain ⟨⟨x, hx, e⟩, _⟩ := this
  simp only [decide_eq_true_eq]
  rw [← e]; exact h x hx
end Go.Proofs.YtkafmfdipmhleaaGreatDoor
