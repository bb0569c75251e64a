/-
  What is proved: a saga's state agrees with what its partner has done, whatever is replied. (No program in sight.)
-/
import Derived.Test.YtkafmfdipmhleaaGreatDoorTr
namespace Go.Proofs.YtkafmfdipmhleaaGreatDoor
open Go.RowKit Go.Maps

/-- What was done for a saga: which step, and whether it was taken back. -/
def mineOf (effs : List CallM) (id : Int) : List (Int × Bool) := (effs.filter (fun c => c.saga == id)).map fun c => (c.step, c.back)
def fw (m : Nat) : List (Int × Bool) := (List.range m).map fun (i : Nat) => ((i : Int) + 1, false)
/-- m of them taken back, from the k-th on. -/
def bw (k m : Nat) : List (Int × Bool) := (List.range m).map fun (j : Nat) => ((k : Int) - (j : Int), true)
theorem fw_succ (m : Nat) : fw (m + 1) = fw m ++ [((m : Int) + 1, false)] := by simp [fw, List.range_succ]
theorem bw_succ (k m : Nat) : bw k (m + 1) = bw k m ++ [((k : Int) - m, true)] := by simp [bw, List.range_succ]
def Agree (n : Nat) (st step : Int) (mine : List (Int × Bool)) : Prop :=
  (st = 1 ∧ ∃ i : Nat, step = (i : Int) + 1 ∧ i < n ∧ (mine = fw i ∨ mine = fw (i + 1))) ∨
  (st = 2 ∧ ∃ k i m : Nat, k < n ∧ step = (i : Int) + 1 ∧ k = i + 1 + m ∧ (mine = fw k ++ bw k m ∨ mine = fw k ++ bw k (m + 1))) ∨
  (st = 3 ∧ mine = fw n) ∨ (st = 4 ∧ ∃ k : Nat, k < n ∧ mine = fw k ++ bw k k)
theorem mem_fw {m : Nat} {s : Int} : (s, false) ∈ fw m ↔ 1 ≤ s ∧ s ≤ m := by
  simp only [fw, List.mem_map, List.mem_range, Prod.mk.injEq, and_true]
  constructor
  · rintro ⟨i, hi, rfl⟩; omega
  · intro h; exact ⟨(s - 1).toNat, by omega, by omega⟩
theorem mem_fw_true {m : Nat} {s : Int} : ¬ (s, true) ∈ fw m := by simp [fw]
theorem mem_bw {k m : Nat} {s : Int} : (s, true) ∈ bw k m ↔ (k : Int) - m < s ∧ s ≤ k := by
  simp only [bw, List.mem_map, List.mem_range, Prod.mk.injEq, and_true]
  constructor
  · rintro ⟨i, hi, rfl⟩; omega
  · intro h; exact ⟨(k - s).toNat, by omega, by omega⟩
theorem mem_mine {effs : List CallM} {c : CallM} : (effs.any fun e => sameCall e c) = true ↔ (c.step, c.back) ∈ mineOf effs c.saga := by
  simp only [List.any_eq_true, sameCall, mineOf, List.mem_map, List.mem_filter, Prod.mk.injEq, Bool.and_eq_true, beq_iff_eq]
  constructor
  · rintro ⟨e, h1, h2, h3, h4⟩; exact ⟨e, ⟨h1, h2⟩, h3, h4⟩
  · rintro ⟨e, ⟨h1, h2⟩, h3, h4⟩; exact ⟨e, h1, h2, h3, h4⟩
theorem mine_snoc (effs : List CallM) (c : CallM) (id : Int) : mineOf (effs ++ [c]) id = if c.saga = id then mineOf effs id ++ [(c.step, c.back)] else mineOf effs id := by
  by_cases h : c.saga = id <;> simp [mineOf, List.filter_append, h]
/-- Another saga's turn. -/
theorem mine_other (p : PartM) (c : CallM) (id : Int) (h : c.saga ≠ id) : mineOf (p.ask c).effs id = mineOf p.effs id := by
  simp only [PartM.ask]
  split
  · rfl
  · rw [mine_snoc, if_neg h]
theorem replyM_dn (b : Bool) (k : Int) : replyM true b k = 0 ∨ replyM true b k = 1 := by
  unfold replyM; by_cases h : k = 3 ∨ k = 4 <;> simp [h]
theorem replyM_no (b : Bool) (k : Int) (h3 : k ≠ 3) (h5 : k ≠ 5) : replyM false b k = 0 ∨ replyM false b k = 1 := by
  unfold replyM; by_cases h : k = 4 <;> simp [h, h3, h5]
theorem replyM_late (k : Int) (h : k = 3 ∨ k = 5) : replyM false true k = 1 := by
  unfold replyM; rcases h with rfl | rfl <;> simp
/-- What a turn does to a saga that was asked. -/
theorem agree_ask (g : SagaM) (p : PartM) (h : Agree g.steps.length g.st g.step (mineOf p.effs g.id)) (hst : g.st = 1 ∨ g.st = 2) :
    Agree g.steps.length g.st g.step (mineOf (p.ask g.call).effs g.id) ∧
    (g.moves (g.reply p) = true → Agree g.steps.length (g.moved (g.reply p)).st (g.moved (g.reply p)).step (mineOf (p.ask g.call).effs g.id)) ∧
    (g.reply p = 2 → g.st = 1) ∧ (g.reply p = 0 ∨ g.reply p = 1 ∨ g.reply p = 2) := by
  have hcs : g.call.saga = g.id := rfl
  have hct : g.call.step = g.step := rfl
  have hm : ∀ l, (l = mineOf p.effs g.id) → ((g.step, decide (g.st = 2)) ∈ l ↔ p.knows g.call = true) := by
    intro l hl
    rw [PartM.knows, mem_mine, hl]
    rfl
  have he : (p.ask g.call).effs = if p.knows g.call = true ∨ p.k = 3 ∨ p.k = 5 then p.effs else p.effs ++ [g.call] := rfl
  have hback : g.call.back = decide (g.st = 2) := rfl
  have hrep : g.reply p = replyM (p.knows g.call) (decide (g.st = 2)) p.k := rfl
  generalize p.k = k at he hrep
  have hsn : mineOf (p.effs ++ [g.call]) g.id = mineOf p.effs g.id ++ [(g.step, decide (g.st = 2))] := by
    rw [mine_snoc, if_pos hcs]; rfl
  have hme : mineOf (p.ask g.call).effs g.id = if p.knows g.call = true ∨ k = 3 ∨ k = 5 then mineOf p.effs g.id else mineOf p.effs g.id ++ [(g.step, decide (g.st = 2))] := by
    rw [he]; split
    · rfl
    · exact hsn
  have hm := hm _ rfl
  generalize mineOf p.effs g.id = mine at *
  generalize mineOf (p.ask g.call).effs g.id = mine' at *
  generalize p.knows g.call = dn at *
  generalize g.reply p = rp at *
  clear he hsn hback hct hcs
  obtain ⟨id, st, step, tries, due, steps⟩ := g
  simp only at *
  rcases hst with rfl | rfl
  · rcases h with ⟨_, i, rfl, hi, hmm⟩ | ⟨h, _⟩ | ⟨h, _⟩ | ⟨h, _⟩
    rotate_left
    · omega
    · omega
    · omega
    simp only [Int.reduceEq, decide_false, show ((1 : Int) = 2) = False by simp] at *
    have hdn : dn = true → mine = fw (i + 1) := by
      intro hd
      rcases hmm with rfl | rfl
      · have := hm.2 hd
        rw [mem_fw] at this; omega
      · rfl
    have hdn' : dn = false → mine = fw i := by
      intro hd
      rcases hmm with rfl | rfl
      · rfl
      · have : dn = true := hm.1 (by rw [mem_fw]; omega)
        rw [hd] at this; cases this
    have hmv : rp = 0 → mine' = fw (i + 1) → Agree steps.length (SagaM.moved ⟨id, 1, (i : Int) + 1, tries, due, steps⟩ rp).st (SagaM.moved ⟨id, 1, (i : Int) + 1, tries, due, steps⟩ rp).step mine' := by
      rintro rfl hmine
      by_cases hl : (steps.length : Int) < (i : Int) + 1 + 1
      · have : i + 1 = steps.length := by omega
        simp only [SagaM.moved, SagaM.forward, hl, if_true]
        exact .inr (.inr (.inl ⟨rfl, by rw [hmine, this]⟩))
      · simp only [SagaM.moved, SagaM.forward, hl, if_true, if_false]
        exact .inl ⟨rfl, i + 1, by omega, by omega, .inl hmine⟩
    cases dn with
    | true =>
      have hm1 := hdn rfl
      simp only [true_or, if_true] at hme
      have hr01 : rp = 0 ∨ rp = 1 := by rw [hrep]; exact replyM_dn _ _
      refine ⟨.inl ⟨rfl, i, rfl, hi, .inr (hme.trans hm1)⟩, fun hmo => ?_, fun _ => trivial, by omega⟩
      have : rp = 0 := by
        rcases hr01 with h | h
        · exact h
        · subst h; simp [SagaM.moves] at hmo
      exact hmv this (hme.trans hm1)
    | false =>
      have hm1 := hdn' rfl
      simp only [Bool.false_eq_true, false_or] at hme
      by_cases h3 : k = 3
      · subst h3
        simp [replyM] at hrep
        simp at hme
        subst hrep
        exact ⟨.inl ⟨rfl, i, rfl, hi, .inl (hme.trans hm1)⟩, fun hmo => by simp [SagaM.moves] at hmo, fun _ => trivial, by omega⟩
      · by_cases h5 : k = 5
        · subst h5
          simp [replyM] at hrep
          simp at hme
          subst hrep
          refine ⟨.inl ⟨rfl, i, rfl, hi, .inl (hme.trans hm1)⟩, fun hmo => ?_, fun _ => trivial, by omega⟩
          by_cases hi0 : i = 0
          · subst hi0
            simp only [SagaM.moved, SagaM.forward, SagaM.backward]
            simp
            exact .inr (.inr (.inr ⟨rfl, 0, hi, by rw [hme, hm1]; simp [bw]⟩))
          · have hne : ¬ ((i : Int) + 1 - 1 = 0) := by omega
            simp only [SagaM.moved, SagaM.forward, SagaM.backward, hne, if_true, if_false, show ¬ ((2 : Int) = 0) by decide]
            refine .inr (.inl ⟨rfl, i, i - 1, 0, hi, by omega, by omega, .inl ?_⟩)
            rw [hme, hm1]; simp [bw]
        · simp only [h3, h5, or_self, if_false] at hme
          have hmm' : mine' = fw (i + 1) := by rw [hme, hm1, fw_succ]
          have hr : rp = 0 ∨ rp = 1 := by rw [hrep]; exact replyM_no _ _ h3 h5
          refine ⟨.inl ⟨rfl, i, rfl, hi, .inr hmm'⟩, fun hmo => ?_, fun _ => trivial, by omega⟩
          have : rp = 0 := by
            rcases hr with h | h
            · exact h
            · subst h; simp [SagaM.moves] at hmo
          exact hmv this hmm'
  · rcases h with ⟨h, _⟩ | ⟨_, K, i, m, hK, rfl, hkm, hmm⟩ | ⟨h, _⟩ | ⟨h, _⟩
    · omega
    rotate_left
    · omega
    · omega
    simp only [decide_true] at *
    have hdn : dn = true → mine = fw K ++ bw K (m + 1) := by
      intro hd
      rcases hmm with rfl | rfl
      · have := hm.2 hd
        rw [List.mem_append, mem_bw] at this
        rcases this with h | h
        · exact absurd h mem_fw_true
        · omega
      · rfl
    have hdn' : dn = false → mine = fw K ++ bw K m := by
      intro hd
      rcases hmm with rfl | rfl
      · rfl
      · have : dn = true := hm.1 (by rw [List.mem_append, mem_bw]; right; omega)
        rw [hd] at this; cases this
    have hmv : rp = 0 → mine' = fw K ++ bw K (m + 1) → Agree steps.length (SagaM.moved ⟨id, 2, (i : Int) + 1, tries, due, steps⟩ rp).st (SagaM.moved ⟨id, 2, (i : Int) + 1, tries, due, steps⟩ rp).step mine' := by
      rintro rfl hmine
      by_cases hi0 : i = 0
      · subst hi0
        simp only [SagaM.moved, SagaM.backward]
        simp
        exact .inr (.inr (.inr ⟨rfl, K, hK, by rw [hmine, show m + 1 = K by omega]⟩))
      · have hne : ¬ ((i : Int) + 1 - 1 = 0) := by omega
        simp only [SagaM.moved, SagaM.backward, hne, if_true, if_false, show ¬ ((2 : Int) = 1) by decide]
        exact .inr (.inl ⟨rfl, K, i - 1, m + 1, hK, by omega, by omega, .inl hmine⟩)
    cases dn with
    | true =>
      have hm1 := hdn rfl
      simp only [true_or, if_true] at hme
      have hr01 : rp = 0 ∨ rp = 1 := by rw [hrep]; exact replyM_dn _ _
      refine ⟨.inr (.inl ⟨rfl, K, i, m, hK, rfl, hkm, .inr (hme.trans hm1)⟩), fun hmo => ?_, fun h2 => by omega, by omega⟩
      have : rp = 0 := by
        rcases hr01 with h | h
        · exact h
        · subst h; simp [SagaM.moves] at hmo
      exact hmv this (hme.trans hm1)
    | false =>
      have hm1 := hdn' rfl
      simp only [Bool.false_eq_true, false_or] at hme
      by_cases h35 : k = 3 ∨ k = 5
      · have hrp : rp = 1 := by rw [hrep]; exact replyM_late _ h35
        rw [if_pos h35] at hme
        subst hrp
        exact ⟨.inr (.inl ⟨rfl, K, i, m, hK, rfl, hkm, .inl (hme.trans hm1)⟩), fun hmo => by simp [SagaM.moves] at hmo, fun h => by omega, by omega⟩
      · rw [if_neg h35] at hme
        have hmm' : mine' = fw K ++ bw K (m + 1) := by
          rw [hme, hm1, bw_succ, List.append_assoc, show ((i : Int) + 1) = (K : Int) - m by omega]
        have hr : rp = 0 ∨ rp = 1 := by rw [hrep]; exact replyM_no _ _ (fun e => h35 (.inl e)) (fun e => h35 (.inr e))
        refine ⟨.inr (.inl ⟨rfl, K, i, m, hK, rfl, hkm, .inr hmm'⟩), fun hmo => ?_, fun h2 => by omega, by omega⟩
        have : rp = 0 := by
          rcases hr with h | h
          · exact h
          · subst h; simp [SagaM.moves] at hmo
        exact hmv this hmm'
/-- What is counted. -/
def countF (effs : List CallM) (id : Int) : Nat := (mineOf effs id).countP fun p => !p.2
def countB (effs : List CallM) (id : Int) : Nat := (mineOf effs id).countP fun p => p.2
theorem count_fw (m : Nat) : (fw m).countP (fun p => !p.2) = m ∧ (fw m).countP (fun p => p.2) = 0 := by
  induction m with
  | zero => simp [fw]
  | succ m ih => rw [fw_succ]; simp [List.countP_append, ih]
theorem count_bw (k m : Nat) : (bw k m).countP (fun p => !p.2) = 0 ∧ (bw k m).countP (fun p => p.2) = m := by
  induction m with
  | zero => simp [bw]
  | succ m ih => rw [bw_succ]; simp [List.countP_append, ih]
def reachedM (effs : List CallM) (id st n : Int) : Bool :=
  if st = 3 then decide ((countF effs id : Int) = n) && decide ((countB effs id : Int) = 0) else decide (st ≠ 4) || (decide ((countF effs id : Int) = countB effs id) && decide ((countF effs id : Int) < n))
theorem agree_reached {effs : List CallM} {id st step : Int} {n : Nat} (h : Agree n st step (mineOf effs id)) : reachedM effs id st n = true := by
  unfold reachedM countF countB
  rcases h with ⟨rfl, _⟩ | ⟨rfl, _⟩ | ⟨rfl, h⟩ | ⟨rfl, k, hk, h⟩
  · simp
  · simp
  · rw [h]; simp [count_fw]
  · rw [h]; simp [List.countP_append, count_fw, count_bw]; exact hk
/-- The form that Straight asks for. -/
theorem agree_shape {n : Nat} {st step : Int} {mine : List (Int × Bool)} (h : Agree n st step mine) : ∃ k m, mine = fw k ++ bw k m ∧ k ≤ n ∧ m ≤ k ∧ (m = 0 ∨ k < n) := by
  rcases h with ⟨_, i, _, hi, h | h⟩ | ⟨_, k, i, m, hk, _, hkm, h | h⟩ | ⟨_, h⟩ | ⟨_, k, hk, h⟩
  · exact ⟨i, 0, by rw [h]; simp [bw], by omega, by omega, .inl rfl⟩
  · exact ⟨i + 1, 0, by rw [h]; simp [bw], by omega, by omega, .inl rfl⟩
  · exact ⟨k, m, h, by omega, by omega, .inr hk⟩
  · exact ⟨k, m + 1, h, by omega, by omega, .inr hk⟩
  · exact ⟨n, 0, by rw [h]; simp [bw], by omega, by omega, .inl rfl⟩
  · exact ⟨k, k, h, by omega, by omega, .inr hk⟩
end Go.Proofs.YtkafmfdipmhleaaGreatDoor
