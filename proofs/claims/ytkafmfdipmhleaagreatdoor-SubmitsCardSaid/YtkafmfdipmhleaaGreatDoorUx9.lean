/-
  What is proved: the reference's Room and Same, and the script's steps and still. the script's steps and still. the reference's With and Submits. a disk of a script that runs: what lies where, and what is known of it.
-/
import Derived.Test.YtkafmfdipmhleaaGreatDoorUx8
import Derived.Lib.AppendZeros

namespace Go.Proofs.YtkafmfdipmhleaaGreatDoor
open Go.RowKit Go.Maps
theorem tl_ne {a b : ByteArray} (h : a ≠ b) : (a.toList == b.toList) = false := by
  rw [beq_eq_false_iff_ne]
  exact fun e => h ((ba_toList a b).1 e)
def needM (R : List RefM) : Int := (R.map fun r => 2 * (r.1.steps.length : Int) + 2).sum
theorem needM_take (R : List RefM) (k : Nat) (r : RefM) (h : R[k]? = some r) : needM (R.take (k + 1)) = needM (R.take k) + (2 * (r.1.steps.length : Int) + 2) := by
  have hk := (List.getElem?_eq_some_iff.1 h).1
  rw [List.take_succ_eq_append_getElem hk]
  rw [List.getElem?_eq_getElem hk] at h
  cases h
  unfold needM
  rw [List.map_append, List.sum_append]
  simp
theorem needM_le (R : List RefM) (h : ∀ r ∈ R, r.1.steps.length ≤ 6) : 0 ≤ needM R ∧ needM R ≤ 14 * R.length := by
  induction R with
  | nil => simp [needM]
  | cons a R ih =>
    have h1 := h a (by simp)
    have h2 := ih (fun r hr => h r (by simp [hr]))
    simp [needM] at h2 ⊢
    omega
set_option maxRecDepth 100000 in
set_option maxHeartbeats 2000000 in
/-- Room. -/
theorem RoomR_calls {w : World} {B : Nat} {lv : Value} {R : List RefM} (h : RefAt w B lv R) (hl : R.length ≤ 1000) (h6 : ∀ r ∈ R, r.1.steps.length ≤ 6) (pause clock n s : Int) (hs : 0 ≤ s ∧ s ≤ 1000) :
    Calls Tryz.prog 142 #[engV pause clock lv, .int .i64 n, .int .i64 s] w fun e w' => e = .returned (.bool (decide (6 + 2 * s + needM R ≤ n))) ∧ New w w' := by
  obtain ⟨a, c, rfl⟩ := h.shape
  have hN : New w (w.alloc (.cells #[.int .i64 pause, .int .i64 clock, .bool false, .slice a R.length c] 163)) := (Fr.refl _ w).alloc _
  have hb := heap_alloc_new w (.cells #[.int .i64 pause, .int .i64 clock, .bool false, .slice a R.length c] 163)
  have H1 := Lib.hid (h.new hN)
  have HN := Lib.hid hN
  have Hl := Lib.hid hl
  have H6 := Lib.hid h6
  have u1 : wrap64 (2 * s) = 2 * s := wrap_in _ (by omega)
  have u2 : wrap64 (4 + 2 * s) = 4 + 2 * s := wrap_in _ (by omega)
  have u3 : wrap64 (4 + 2 * s + 2) = 4 + 2 * s + 2 := wrap_in _ (by omega)
  have Hs := Lib.hid hs
  unfold engV
  clear h hN hl h6 hs
  go_enter Tryz.func142, Tryz.ntmps142
  go_upto_region 1 with fail
  generalize w.alloc (.cells #[.int .i64 pause, .int .i64 clock, .bool false, .slice a R.length c] 163) = w1 at H1 HN hb ⊢
  generalize w.heap.size = N at hb ⊢
  have Hb := Lib.hid hb
  have hcv0 := cellv w1
  go_wp2_with fail
  clear u1 u2 u3 hb hcv0
  go_loopw [7, 8] (fun nv i wr => ∃ k : Nat, k ≤ R.length ∧ i = .int .i64 k ∧ nv = .int .i64 (4 + 2 * s + 2 + needM (R.take k)) ∧ New w1 wr) (fun _ i _ => R.length - (intOf i).toNat)
  case atStart => exact ⟨0, Nat.zero_le _, rfl, by have := Hs.out; simp [needM]; exact wrap_in _ (by omega), Fr.refl _ _⟩
  case round =>
    obtain ⟨k, hk, rfl, rfl, hf⟩ := hrel
    have Hf := Lib.hid hf
    have hbx := hf.get Hb.out (fun f => f)
    have hl30 : R.length ≤ 1000 := Hl.out
    have hnt := needM_le (R.take k) (fun r hr => H6.out r (List.mem_of_mem_take hr))
    rw [List.length_take, Nat.min_eq_left hk] at hnt
    clear hf
    have hcv := cellv wr
    by_cases hkl : k < R.length
    · obtain ⟨r, hr⟩ : ∃ r, R[k]? = some r := ⟨R[k], List.getElem?_eq_getElem hkl⟩
      have hst := needM_take R k r hr
      have hr6 := H6.out r (List.mem_of_getElem? hr)
      obtain ⟨g, rfl, c0, c1, c2, c3, c4, c5, c6⟩ := (H1.out.new Hf.out).at k r hr
      obtain ⟨sa, sc, hsv⟩ := ((H1.out.ok r (List.mem_of_getElem? hr)).1).shape
      rw [hsv] at c1
      have Hst := Lib.hid hst
      have Hkl := Lib.hid hkl
      have hkI : (k : Int) < R.length := by omega
      have hk0 : (0 : Int) ≤ k := by omega
      have hs' := Hs.out
      have q1 : wrap64 (2 * (r.1.steps.length : Int)) = 2 * (r.1.steps.length : Int) := wrap_in _ (by omega)
      generalize needM (R.take k) = A at hnt Hst ⊢
      generalize r.1.steps.length = L at *
      have q2 : wrap64 (4 + 2 * s + 2 + A + 2 * (L : Int)) = 4 + 2 * s + 2 + A + 2 * (L : Int) := wrap_in _ (by omega)
      have q3 : wrap64 (4 + 2 * s + 2 + A + 2 * (L : Int) + 2) = 4 + 2 * s + 2 + A + 2 * (L : Int) + 2 := wrap_in _ (by omega)
      clear c0 c2 c3 c4 c5 c6 hst hr hsv hs' hnt
      rw [hcv] at c1
      go_wp2_with fail
      go_roundw
      case rel => exact ⟨k + 1, Hkl.out, by go_num, by rw [Hst.out]; congr 1; omega, Hf.out⟩
      case measure => have := Hkl.out; simp [intOf]; omega
    · obtain rfl : k = R.length := by omega
      have hkI : ¬ ((R.length : Int) < R.length) := by omega
      rw [List.take_length]
      clear hnt
      by_cases hn : 6 + 2 * s + needM R ≤ n
      · have hn2 : 4 + 2 * s + 2 + needM R ≤ n := by omega
        have Hd : Hid (decide (6 + 2 * s + needM R ≤ n) = true) := decide_eq_true hn
        clear hn
        go_wp2_with fail
        go_ret
        exact ⟨by rw [Hd.out]; rfl, HN.out.trans Hf.out⟩
      · have hn2 : ¬ 4 + 2 * s + 2 + needM R ≤ n := by omega
        have Hd : Hid (decide (6 + 2 * s + needM R ≤ n) = false) := decide_eq_false hn
        clear hn
        go_wp2_with fail
        go_ret
        exact ⟨by rw [Hd.out]; rfl, HN.out.trans Hf.out⟩
theorem StpR.at {w : World} {v : Value} {l : List (ByteArray × ByteArray)} (h : StpR w v l) (i : Nat) (p : ByteArray × ByteArray) (hp : l[i]? = some p) : ∃ b cap, v = .slice (some ⟨b, 0, none⟩) l.length cap ∧ w.cell? ⟨b, i * 2, none⟩ = some (.string p.1) ∧ w.cell? ⟨b, i * 2 + 1, none⟩ = some (.string p.2) := by
  have hi := (List.getElem?_eq_some_iff.1 hp).1
  rcases h with ⟨rfl, _⟩ | ⟨b, cap, c, h1, h2, h3⟩
  · simp at hi
  · have key : ∀ (l : List (ByteArray × ByteArray)) (i : Nat) (p : ByteArray × ByteArray), l[i]? = some p → (stepCells l)[i * 2]? = some (.string p.1) ∧ (stepCells l)[i * 2 + 1]? = some (.string p.2) := by
      intro l
      induction l with
      | nil => intro i p h; simp at h
      | cons a l ih =>
        intro i p h
        have e : stepCells (a :: l) = .string a.1 :: .string a.2 :: stepCells l := by simp [stepCells]
        rw [e]
        cases i with
        | zero => simp at h; subst h; exact ⟨rfl, rfl⟩
        | succ i =>
          have := ih i p (by simpa using h)
          rw [show (i + 1) * 2 = i * 2 + 2 by omega]
          simpa using this
    obtain ⟨k1, k2⟩ := key l i p hp
    exact ⟨b, cap, h1, by rw [cellv, h2, cellOf_cells, h3 _ (by omega)]; exact k1, by rw [cellv, h2, cellOf_cells, h3 _ (by omega)]; exact k2⟩
set_option maxRecDepth 100000 in
set_option maxHeartbeats 2000000 in
/-- Same. -/
theorem SameR_calls {w : World} {va vb : Value} {la lb : List (ByteArray × ByteArray)} (ha : StpR w va la) (hb : StpR w vb lb) (hla : la.length ≤ 100000) (hlb : lb.length ≤ 100000) :
    Calls Tryz.prog 136 #[va, vb] w fun e w' => e = .returned (.bool (decide (la = lb))) ∧ New w w' := by
  obtain ⟨aa, ac, rfl⟩ := ha.shape
  obtain ⟨ba, bc, rfl⟩ := hb.shape
  have Ha := Lib.hid ha
  have Hb := Lib.hid hb
  have Hla := Lib.hid hla
  clear ha hb
  by_cases hlen : la.length = lb.length
  · have hne : ((la.length : Int) != lb.length) = false := by simp; omega
    have Hlen := Lib.hid hlen
    clear hlen hla hlb
    go_enter Tryz.func136, Tryz.ntmps136
    go_wp2_with fail
    go_loopw [5] (fun i wr => ∃ k : Nat, k ≤ la.length ∧ i = .int .i64 k ∧ la.take k = lb.take k ∧ New w wr) (fun i _ => la.length - (intOf i).toNat)
    case atStart => exact ⟨0, Nat.zero_le _, rfl, rfl, Fr.refl _ _⟩
    case round =>
      obtain ⟨k, hk, rfl, htk, hf⟩ := hrel
      have Htk := Lib.hid htk
      have Hf := Lib.hid hf
      clear htk hf
      have hla : la.length ≤ 100000 := Hla.out
      by_cases hlt : k < la.length
      · obtain ⟨p, hp⟩ : ∃ p, la[k]? = some p := ⟨la[k], List.getElem?_eq_getElem hlt⟩
        have hlt2 : k < lb.length := by have := Hlen.out; omega
        obtain ⟨q, hq⟩ : ∃ q, lb[k]? = some q := ⟨lb[k], List.getElem?_eq_getElem hlt2⟩
        obtain ⟨ga, ca, e1, x0,x1⟩ := (Ha.out.new Hf.out).at k p hp
        obtain ⟨gb, cb, e2, y0,y1⟩ := (Hb.out.new Hf.out).at k q hq
        simp only [Value.slice.injEq] at e1 e2
        obtain ⟨rfl, _, _⟩ := e1
        obtain ⟨rfl, _, _⟩ := e2
        have hltI : (k : Int) < la.length := by omega
        have hltS : (k : Int) < lb.length := by omega
        have hk0 : (0 : Int) ≤ k := by omega
        have Hsn1 : Hid (la.take (k + 1) = la.take k ++ [p]) := by
          show _ = _
          rw [List.take_succ_eq_append_getElem hlt]; rw [List.getElem?_eq_getElem hlt] at hp; cases hp; rfl
        have Hsn2 : Hid (lb.take (k + 1) = lb.take k ++ [q]) := by
          show _ = _
          rw [List.take_succ_eq_append_getElem hlt2]; rw [List.getElem?_eq_getElem hlt2] at hq; cases hq; rfl
        have Hne : Hid (p ≠ q → la ≠ lb) := by
          intro h e
          subst e
          rw [hp] at hq; cases hq; exact h rfl
        have Hlt := Lib.hid hlt
        obtain ⟨p1, p2⟩ := p
        obtain ⟨q1, q2⟩ := q
        simp only at x0 x1 y0 y1
        clear hp hq hlt hlt2
        by_cases e1 : p1 = q1
        · by_cases e2 : p2 = q2
          · subst e1 e2
            go_wp2_with fail
            go_quiet (fail)
            clear x0 x1 y0 y1
            go_wp2_with fail
            go_roundw
            case rel => exact ⟨k + 1, Hlt.out, by go_num, by rw [Hsn1.out, Hsn2.out, Htk.out], Hf.out.drewN _⟩
            case measure => have := Hlt.out; simp [intOf]; omega
          · have t2 := tl_ne e2
            have Hd : Hid (decide (la = lb) = false) := decide_eq_false (Hne.out (by simpa using fun _ => e2))
            subst e1
            clear e2
            go_wp2_with fail
            go_quiet (fail)
            clear x0 x1 y0 y1
            go_wp2_with fail
            go_ret
            exact ⟨by rw [Hd.out]; rfl, Hf.out.drewN _⟩
        · have t1 := tl_ne e1
          have Hd : Hid (decide (la = lb) = false) := decide_eq_false (Hne.out (by simpa using fun h => absurd h e1))
          clear e1
          go_wp2_with fail
          go_quiet (fail)
          clear x0 x1 y0 y1
          go_wp2_with fail
          go_ret
          exact ⟨by rw [Hd.out]; rfl, Hf.out.drewN _⟩
      · obtain rfl : k = la.length := by omega
        have hkI : ¬ ((la.length : Int) < la.length) := by omega
        go_wp2_with fail
        go_ret
        have he : la = lb := by
          have := Htk.out
          rw [List.take_length, List.take_of_length_le (by have := Hlen.out; omega)] at this
          exact this
        exact ⟨by rw [decide_eq_true he]; rfl, Hf.out⟩
  · have hne : ((la.length : Int) != lb.length) = true := by simp; omega
    have Hd : Hid (decide (la = lb) = false) := decide_eq_false (fun e => hlen (by rw [e]))
    clear hlen
    go_enter Tryz.func136, Tryz.ntmps136
    go_wp2_with fail
    go_ret
    exact ⟨by rw [Hd.out]; rfl, Fr.refl _ _⟩
set_option maxRecDepth 100000 in
set_option maxHeartbeats 2000000 in
/-- The reference's Whole. -/
theorem WholeR_calls {w : World} {v : Value} {l : List (ByteArray × ByteArray)} (id : Int) (h : StpR w v l) (hl : l.length ≤ 100000) :
    Calls Tryz.prog 156 #[.int .i64 id, v] w fun e w' => e = .returned (.bool (wholeB id l)) ∧ New w w' := by
  obtain ⟨a, c, rfl⟩ := h.shape
  have H := Lib.hid h
  clear h
  by_cases h1 : id < 1
  · have Hd : Hid (wholeB id l = false) := by show _ = _; simp [wholeB]; omega
    go_enter Tryz.func156, Tryz.ntmps156
    go_wp2_with fail
    go_ret
    exact ⟨by rw [Hd.out]; rfl, Fr.refl _ _⟩
  by_cases h2 : 1000 < id
  · have Hd : Hid (wholeB id l = false) := by show _ = _; simp [wholeB]; omega
    go_enter Tryz.func156, Tryz.ntmps156
    go_wp2_with fail
    go_ret
    exact ⟨by rw [Hd.out]; rfl, Fr.refl _ _⟩
  by_cases h3 : (l.length : Int) < 1
  · have Hd : Hid (wholeB id l = false) := by show _ = _; simp [wholeB]; omega
    go_enter Tryz.func156, Tryz.ntmps156
    go_wp2_with fail
    go_ret
    exact ⟨by rw [Hd.out]; rfl, Fr.refl _ _⟩
  by_cases h4 : (6 : Int) < l.length
  · have Hd : Hid (wholeB id l = false) := by show _ = _; simp [wholeB]; omega
    go_enter Tryz.func156, Tryz.ntmps156
    go_wp2_with fail
    go_ret
    exact ⟨by rw [Hd.out]; rfl, Fr.refl _ _⟩
  have Hw : Hid (wholeB id l = !anyLong l) := by
    show _ = _
    have e1 : decide (1 ≤ id) = true := by simp; omega
    have e2 : decide (id ≤ 1000) = true := by simp; omega
    have e3 : decide (1 ≤ l.length) = true := by simp; omega
    have e4 : decide (l.length ≤ 6) = true := by simp; omega
    simp only [wholeB, e1, e2, e3, e4, Bool.true_and]
  go_enter Tryz.func156, Tryz.ntmps156
  go_wp2_with fail
  clear h1 h2 h3
  go_loopw [5] (fun i wr => ∃ k : Nat, k ≤ l.length ∧ i = .int .i64 k ∧ (l.take k).any longB = false ∧ New w wr) (fun i _ => l.length - (intOf i).toNat)
  case atStart => exact ⟨0, Nat.zero_le _, rfl, rfl, Fr.refl _ _⟩
  case round =>
    obtain ⟨k, hk, rfl, hno, hf⟩ := hrel
    have Hno := Lib.hid hno
    have Hf := Lib.hid hf
    clear hno hf
    by_cases hlt : k < l.length
    · obtain ⟨p, hp⟩ : ∃ p, l[k]? = some p := ⟨l[k], List.getElem?_eq_getElem hlt⟩
      obtain ⟨g, cap, e1, x0,x1⟩ := (H.out.new Hf.out).at k p hp
      simp only [Value.slice.injEq] at e1
      obtain ⟨rfl, _, _⟩ := e1
      have hltI : (k : Int) < l.length := by omega
      have hk0 : (0 : Int) ≤ k := by omega
      have Hsn : Hid ((l.take (k + 1)).any longB = ((l.take k).any longB || longB p)) := by
        show _ = _
        rw [List.take_succ_eq_append_getElem hlt, List.any_append]
        rw [List.getElem?_eq_getElem hlt] at hp; cases hp; simp
      have Hyes : Hid (longB p = true → anyLong l = true) := by
        intro h
        unfold anyLong
        rw [List.any_eq_true]
        exact ⟨p, List.mem_of_getElem? hp, h⟩
      have Hlt := Lib.hid hlt
      obtain ⟨p1, p2⟩ := p
      simp only at x0 x1
      clear hp hlt
      by_cases g1 : (8 : Int) < p1.size
      · have Hd : Hid (wholeB id l = false) := by show _ = _; rw [Hw.out, Hyes.out (by simp [longB]; omega)]; rfl
        go_wp2_with fail
        go_ret
        exact ⟨by rw [Hd.out]; rfl, Hf.out⟩
      by_cases g2 : (8 : Int) < p2.size
      · have Hd : Hid (wholeB id l = false) := by show _ = _; rw [Hw.out, Hyes.out (by simp [longB]; omega)]; rfl
        go_wp2_with fail
        go_ret
        exact ⟨by rw [Hd.out]; rfl, Hf.out⟩
      · have Hlo : Hid (longB (p1, p2) = false) := by show _ = _; simp [longB]; omega
        go_wp2_with fail
        go_roundw
        case rel => exact ⟨k + 1, Hlt.out, by go_num, by rw [Hsn.out, Hno.out, Hlo.out]; rfl, Hf.out⟩
        case measure => have := Hlt.out; simp [intOf]; omega
    · obtain rfl : k = l.length := by omega
      have hkI : ¬ ((l.length : Int) < l.length) := by omega
      have Hd : Hid (wholeB id l = true) := by
        show _ = _
        rw [Hw.out]
        have := Hno.out
        rw [List.take_length] at this
        unfold anyLong
        rw [this]; rfl
      go_wp2_with fail
      go_ret
      exact ⟨by rw [Hd.out]; rfl, Hf.out⟩
end Go.Proofs.YtkafmfdipmhleaaGreatDoor

namespace Go.Proofs.YtkafmfdipmhleaaGreatDoor
open Go.RowKit Go.Maps
def beyS : ByteArray := ⟨#[98, 101, 121, 111, 110, 100]⟩
/-- A saga's steps as they are handed in: two more lie beyond. -/
def StpH (w : World) (g : Nat) (l : List (ByteArray × ByteArray)) : Prop :=
  ∃ c, w.heap[g]? = some (.cells c 54 (0, 0)) ∧ (∀ j, j < 2 * l.length → c[j]? = (stepCells l)[j]?) ∧ c[2 * l.length]? = some (.string beyS) ∧ (∃ s, c[2 * l.length + 1]? = some (.string s)) ∧ c[2 * l.length + 2]? = some (.string beyS) ∧ ∃ s, c[2 * l.length + 3]? = some (.string s)
theorem made54 (n : Nat) : (madeCells (Value.agg #[.string ⟨#[]⟩, .string ⟨#[]⟩]).cells (n * 2)) = Array.replicate (n * 2) (.string ⟨#[]⟩) := by
  apply Array.ext
  · rw [size_madeCells]; simp
  · intro i h1 h2
    rw [size_madeCells] at h1
    simp only [madeCells, Array.getElem_map, Array.getElem_range, Array.getElem_replicate]
    have : (Value.agg #[.string ⟨#[]⟩, .string ⟨#[]⟩]).cells = #[.string ⟨#[]⟩, .string ⟨#[]⟩] := rfl
    rw [this]
    have h2 : i % 2 = 0 ∨ i % 2 = 1 := by omega
    rcases h2 with e | e <;> simp [e]
theorem set2_get {c : Array Value} {i : Nat} {a b : Value} (h : i + 1 < c.size) (j : Nat) : ((c.setIfInBounds i a).setIfInBounds (i + 1) b)[j]? = if j = i then some a else if j = i + 1 then some b else c[j]? := by
  by_cases h1 : j = i
  · subst h1
    rw [if_pos rfl, Array.getElem?_setIfInBounds, if_neg (by omega), Array.getElem?_setIfInBounds, if_pos rfl, if_pos (by omega)]
  · rw [if_neg h1]
    by_cases h2 : j = i + 1
    · subst h2
      rw [if_pos rfl, Array.getElem?_setIfInBounds, if_pos rfl, if_pos (by simp; omega)]
    · rw [if_neg h2, Array.getElem?_setIfInBounds, if_neg (by omega), Array.getElem?_setIfInBounds, if_neg (by omega)]
theorem stepCells_at (l : List (ByteArray × ByteArray)) (i : Nat) (p : ByteArray × ByteArray) (h : l[i]? = some p) : (stepCells l)[i * 2]? = some (.string p.1) ∧ (stepCells l)[i * 2 + 1]? = some (.string p.2) := by
  induction l generalizing i with
  | nil => simp at h
  | cons a l ih =>
    have e : stepCells (a :: l) = .string a.1 :: .string a.2 :: stepCells l := by simp [stepCells]
    rw [e]
    cases i with
    | zero => simp at h; subst h; exact ⟨rfl, rfl⟩
    | succ i =>
      have := ih i (by simpa using h)
      rw [show (i + 1) * 2 = i * 2 + 2 by omega]
      simpa using this
set_option maxRecDepth 100000 in
set_option maxHeartbeats 2000000 in
theorem stepsR_calls {w : World} {v : Value} {l : List (ByteArray × ByteArray)} (h : StpR w v l) (hl : l.length ≤ 100000) :
    Calls Tryz.prog 137 #[v] w fun e w' => e = .returned (.slice (some ⟨w.heap.size, 0, none⟩) l.length (l.length + 2)) ∧ StpH w' w.heap.size l ∧ New w w' := by
  obtain ⟨a, c, rfl⟩ := h.shape
  have H := Lib.hid h
  have Hl := Lib.hid hl
  obtain ⟨i0, hi, hz0, hz1, hz2⟩ := info_parts Tryz.info54
  have ec : ((l.length + 2 : Nat) : Int) = (l.length : Int) + 2 := by omega
  have hmk : ∀ w, (Instr.makeSlice 34 (.int .i64 ((l.length : Int) + 2)) (.int .i64 ((l.length : Int) + 2))).run Tryz.prog w = .ok (.slice (some ⟨w.heap.size, 0, none⟩) (l.length + 2) (l.length + 2)) (w.alloc (.cells (Array.replicate ((l.length + 2) * 2) (.string ⟨#[]⟩)) 54)) := by
    intro w
    have := run_make (P := Tryz.prog) w 34 54 i0 _ Tryz.underlying34 hi hz0 .i64 .i64 ((l.length + 2 : Nat) : Int) ((l.length + 2 : Nat) : Int) (by omega) (Int.le_refl _) (by rw [hz2]; omega) (by omega)
    rw [hz1, Int.toNat_natCast, made54, ec] at this
    exact this
  clear h hi hz0 hz1 hz2 ec
  go_enter Tryz.func137, Tryz.ntmps137
  go_wp2_with fail
  have hN0 : New w (w.alloc (.cells (Array.replicate ((l.length + 2) * 2) (.string ⟨#[]⟩)) 54)) := (Fr.refl _ w).alloc _
  have hb0 := heap_alloc_new w (.cells (Array.replicate ((l.length + 2) * 2) (.string ⟨#[]⟩)) 54)
  generalize w.alloc (.cells (Array.replicate ((l.length + 2) * 2) (.string ⟨#[]⟩)) 54) = W0 at hN0 hb0 ⊢
  have HszN : Hid (w.heap.size = w.heap.size) := rfl
  have HNw : Hid (∀ k, k < w.heap.size → k ≠ w.heap.size) := fun k h => by omega
  have HN0 := Lib.hid hN0
  have Hb0 := Lib.hid hb0
  clear hmk hN0 hb0
  go_loopw [5] (fun i wr => ∃ k : Nat, k ≤ l.length ∧ i = .int .i64 k ∧ (∃ c : Array Value, wr.heap[w.heap.size]? = some (.cells c 54 (0, 0)) ∧ c.size = (l.length + 2) * 2 ∧ (∀ j, j < 2 * k → c[j]? = (stepCells l)[j]?) ∧ ∀ j, j < (l.length + 2) * 2 → ∃ s, c[j]? = some (.string s)) ∧ New w wr) (fun i _ => l.length - (intOf i).toNat)
  case atStart =>
    refine ⟨0, Nat.zero_le _, rfl, ⟨_, Hb0.out, by simp, fun j hj => by omega, fun j hj => ⟨⟨#[]⟩, ?_⟩⟩, HN0.out⟩
    rw [Array.getElem?_replicate, if_pos hj]
  case round =>
    obtain ⟨k, hk, rfl, ⟨cc, hcb, hcs, hcj, hcs2⟩, hf⟩ := hrel
    have Hf := Lib.hid hf
    have Hcb := Lib.hid hcb
    have Hcs := Lib.hid hcs
    have Hcj := Lib.hid hcj
    have Hcs2 := Lib.hid hcs2
    clear hf hcs hcj
    by_cases hlt : k < l.length
    · obtain ⟨p, hp⟩ : ∃ p, l[k]? = some p := ⟨l[k], List.getElem?_eq_getElem hlt⟩
      obtain ⟨g, cap, e1, x0,x1⟩ := (H.out.new Hf.out).at k p hp
      simp only [Value.slice.injEq] at e1
      obtain ⟨rfl, _, _⟩ := e1
      have hltI : (k : Int) < l.length := by omega
      have hlt2 : (k : Int) < (l.length : Int) + 2 := by omega
      have hk0 : (0 : Int) ≤ k := by omega
      obtain ⟨s0, hs0⟩ := hcs2 (k * 2) (by omega)
      obtain ⟨s1, hs1⟩ := hcs2 (k * 2 + 1) (by omega)
      have y0 : wr.cell? ⟨w.heap.size, k * 2, none⟩ = some (.string s0) := by rw [cellv, hcb, cellOf_cells]; exact hs0
      have y1 : wr.cell? ⟨w.heap.size, k * 2 + 1, none⟩ = some (.string s1) := by rw [cellv, hcb, cellOf_cells]; exact hs1
      have z0 : wr.frozen? ⟨w.heap.size, k * 2, none⟩ = false := by rw [frozv, hcb]; rfl
      have z1 : wr.frozen? ⟨w.heap.size, k * 2 + 1, none⟩ = false := by rw [frozv, hcb]; rfl
      have Hlt := Lib.hid hlt
      have Hp := Lib.hid hp
      obtain ⟨p1, p2⟩ := p
      simp only at x0 x1
      clear hp hlt hcs2 hs0 hs1 hcb
      go_upto_region 6 with fail
      go_region
      have hcw : (((wr.setCell ⟨w.heap.size, k * 2, none⟩ (.string p1)).setCell ⟨w.heap.size, k * 2 + 1, none⟩ (.string p2)).drew).heap[w.heap.size]? = some (.cells ((cc.setIfInBounds (k * 2) (.string p1)).setIfInBounds (k * 2 + 1) (.string p2)) 54 (0, 0)) := by
        show ((wr.setCell ⟨w.heap.size, k * 2, none⟩ (.string p1)).setCell ⟨w.heap.size, k * 2 + 1, none⟩ (.string p2)).heap[w.heap.size]? = _
        rw [hp_setCell, if_pos rfl, hp_setCell, if_pos rfl, Hcb.out]; rfl
      have hfw : New w (((wr.setCell ⟨w.heap.size, k * 2, none⟩ (.string p1)).setCell ⟨w.heap.size, k * 2 + 1, none⟩ (.string p2)).drew) := ((Hf.out.setCell (fun h => absurd h (Nat.lt_irrefl _)) _ _).setCell (fun h => absurd h (Nat.lt_irrefl _)) _ _).drew
      generalize ((wr.setCell ⟨w.heap.size, k * 2, none⟩ (.string p1)).setCell ⟨w.heap.size, k * 2 + 1, none⟩ (.string p2)).drew = W2 at hcw hfw ⊢
      have Hcw := Lib.hid hcw
      have Hfw := Lib.hid hfw
      clear x0 x1 y0 y1 z0 z1 hcw hfw
      go_wp2_with fail
      go_roundw
      case rel =>
        have hsz := Hcs.out
        have hkl := Hlt.out
        obtain ⟨q1, q2⟩ := stepCells_at l k (p1, p2) Hp.out
        refine ⟨k + 1, Hlt.out, by go_num, ⟨_, Hcw.out, by simp; omega, fun j hj => ?_, fun j hj => ?_⟩, Hfw.out⟩
        · rw [set2_get (by omega)]
          by_cases h1 : j = k * 2
          · rw [if_pos h1, h1, q1]
          · rw [if_neg h1]
            by_cases h2 : j = k * 2 + 1
            · rw [if_pos h2, h2, q2]
            · rw [if_neg h2]; exact Hcj.out j (by omega)
        · rw [set2_get (by omega)]
          by_cases h1 : j = k * 2
          · exact ⟨p1, by rw [if_pos h1]⟩
          · rw [if_neg h1]
            by_cases h2 : j = k * 2 + 1
            · exact ⟨p2, by rw [if_pos h2]⟩
            · rw [if_neg h2]; exact Hcs2.out j hj
      case measure => have := Hlt.out; simp [intOf]; omega
    · obtain rfl : k = l.length := by omega
      have hkI : ¬ ((l.length : Int) < l.length) := by omega
      have hlt2 : (l.length : Int) < (l.length : Int) + 2 := by omega
      have hlt3 : (l.length : Int) + 1 < (l.length : Int) + 2 := by omega
      have hl0 : (0 : Int) ≤ l.length := by omega
      have hl1 : (0 : Int) ≤ (l.length : Int) + 1 := by omega
      obtain ⟨s0, hs0⟩ := hcs2 (l.length * 2) (by omega)
      obtain ⟨s1, hs1⟩ := hcs2 (l.length * 2 + 1) (by omega)
      have y0 : wr.cell? ⟨w.heap.size, l.length * 2, none⟩ = some (.string s0) := by rw [cellv, hcb, cellOf_cells]; exact hs0
      have y1 : wr.cell? ⟨w.heap.size, l.length * 2 + 1, none⟩ = some (.string s1) := by rw [cellv, hcb, cellOf_cells]; exact hs1
      have z0 : wr.frozen? ⟨w.heap.size, l.length * 2, none⟩ = false := by rw [frozv, hcb]; rfl
      have z1 : wr.frozen? ⟨w.heap.size, l.length * 2 + 1, none⟩ = false := by rw [frozv, hcb]; rfl
      clear hcs2 hs0 hs1 hcb
      go_upto_region 8 with fail
      have hcw : ((wr.setCell ⟨w.heap.size, l.length * 2, none⟩ (.string ⟨#[98, 101, 121, 111, 110, 100]⟩)).setCell ⟨w.heap.size, l.length * 2 + 1, none⟩ (.string ⟨#[]⟩)).heap[w.heap.size]? = some (.cells ((cc.setIfInBounds (l.length * 2) (.string ⟨#[98, 101, 121, 111, 110, 100]⟩)).setIfInBounds (l.length * 2 + 1) (.string ⟨#[]⟩)) 54 (0, 0)) := by
        rw [hp_setCell, if_pos rfl, hp_setCell, if_pos rfl, Hcb.out]; rfl
      have hfw : New w ((wr.setCell ⟨w.heap.size, l.length * 2, none⟩ (.string ⟨#[98, 101, 121, 111, 110, 100]⟩)).setCell ⟨w.heap.size, l.length * 2 + 1, none⟩ (.string ⟨#[]⟩)) := (Hf.out.setCell (fun h => absurd h (Nat.lt_irrefl _)) _ _).setCell (fun h => absurd h (Nat.lt_irrefl _)) _ _
      have hq : ∀ j, ((cc.setIfInBounds (l.length * 2) (.string ⟨#[98, 101, 121, 111, 110, 100]⟩)).setIfInBounds (l.length * 2 + 1) (.string ⟨#[]⟩))[j]? = if j = l.length * 2 then some (.string ⟨#[98, 101, 121, 111, 110, 100]⟩) else if j = l.length * 2 + 1 then some (.string ⟨#[]⟩) else cc[j]? := fun j => set2_get (by have := Hcs.out; omega) j
      have hqs : ((cc.setIfInBounds (l.length * 2) (.string ⟨#[98, 101, 121, 111, 110, 100]⟩)).setIfInBounds (l.length * 2 + 1) (.string ⟨#[]⟩)).size = (l.length + 2) * 2 := by have := Hcs.out; simp; omega
      generalize (cc.setIfInBounds (l.length * 2) (.string ⟨#[98, 101, 121, 111, 110, 100]⟩)).setIfInBounds (l.length * 2 + 1) (.string ⟨#[]⟩) = c2 at hcw hq hqs
      generalize (wr.setCell ⟨w.heap.size, l.length * 2, none⟩ (.string ⟨#[98, 101, 121, 111, 110, 100]⟩)).setCell ⟨w.heap.size, l.length * 2 + 1, none⟩ (.string ⟨#[]⟩) = W2 at hcw hfw ⊢
      obtain ⟨s2, hs2⟩ : ∃ s, c2[(l.length + 1) * 2]? = some (.string s) := by
        rw [hq, if_neg (by omega), if_neg (by omega)]; exact Hcs2.out _ (by omega)
      obtain ⟨s3, hs3⟩ : ∃ s, c2[(l.length + 1) * 2 + 1]? = some (.string s) := by
        rw [hq, if_neg (by omega), if_neg (by omega)]; exact Hcs2.out _ (by omega)
      have y2 : W2.cell? ⟨w.heap.size, (l.length + 1) * 2, none⟩ = some (.string s2) := by rw [cellv, hcw, cellOf_cells]; exact hs2
      have y3 : W2.cell? ⟨w.heap.size, (l.length + 1) * 2 + 1, none⟩ = some (.string s3) := by rw [cellv, hcw, cellOf_cells]; exact hs3
      have z2 : W2.frozen? ⟨w.heap.size, (l.length + 1) * 2, none⟩ = false := by rw [frozv, hcw]; rfl
      have z3 : W2.frozen? ⟨w.heap.size, (l.length + 1) * 2 + 1, none⟩ = false := by rw [frozv, hcw]; rfl
      have Hcw := Lib.hid hcw
      have Hfw := Lib.hid hfw
      have Hq := Lib.hid hq
      have Hqs := Lib.hid hqs
      have hlc : l.length ≤ l.length + 2 := by omega
      clear hcw hfw hq hqs hs2 hs3 y0 y1 z0 z1
      go_wp2_with fail
      go_ret
      have hsz := Hqs.out
      refine ⟨rfl, ⟨(c2.setIfInBounds ((l.length + 1) * 2) (.string ⟨#[98, 101, 121, 111, 110, 100]⟩)).setIfInBounds ((l.length + 1) * 2 + 1) (.string ⟨#[]⟩), ?_, fun j hj => ?_, ?_, ⟨⟨#[]⟩, ?_⟩, ?_, ⟨⟨#[]⟩, ?_⟩⟩, (Hfw.out.setCell (fun h => absurd h (Nat.lt_irrefl _)) _ _).setCell (fun h => absurd h (Nat.lt_irrefl _)) _ _⟩
      · rw [hp_setCell, if_pos rfl, hp_setCell, if_pos rfl, Hcw.out]; rfl
      · rw [set2_get (by omega), if_neg (by omega), if_neg (by omega), Hq.out, if_neg (by omega), if_neg (by omega)]
        exact Hcj.out j hj
      · rw [set2_get (by omega), if_neg (by omega), if_neg (by omega), Hq.out, if_pos (by omega)]; rfl
      · rw [set2_get (by omega), if_neg (by omega), if_neg (by omega), Hq.out, if_neg (by omega), if_pos (by omega)]
      · rw [set2_get (by omega), if_pos (by omega)]; rfl
      · rw [set2_get (by omega), if_neg (by omega), if_pos (by omega)]
theorem StpH.size {w : World} {g : Nat} {l : List (ByteArray × ByteArray)} (h : StpH w g l) : ∃ c, w.heap[g]? = some (.cells c 54 (0, 0)) ∧ (l.length + 2) * 2 ≤ c.size := by
  obtain ⟨c, h1, _, _, _, _, s, h2⟩ := h
  have := (Array.getElem?_eq_some_iff.1 h2).1
  exact ⟨c, h1, by omega⟩
theorem StpH.at {w : World} {g : Nat} {l : List (ByteArray × ByteArray)} (h : StpH w g l) (i : Nat) (p : ByteArray × ByteArray) (hp : l[i]? = some p) : w.cell? ⟨g, i * 2, none⟩ = some (.string p.1) ∧ w.cell? ⟨g, i * 2 + 1, none⟩ = some (.string p.2) := by
  obtain ⟨c, h1, h2, _⟩ := h
  have hi := (List.getElem?_eq_some_iff.1 hp).1
  obtain ⟨q1, q2⟩ := stepCells_at l i p hp
  constructor
  · rw [cellv, h1, cellOf_cells, h2 _ (by omega)]; exact q1
  · rw [cellv, h1, cellOf_cells, h2 _ (by omega)]; exact q2
theorem StpH.new {w w' : World} {g : Nat} {l : List (ByteArray × ByteArray)} (h : StpH w g l) (hf : New w w') : StpH w' g l := by
  obtain ⟨c, h1, r⟩ := h
  exact ⟨c, hf.get h1 (fun f => f), r⟩
set_option maxRecDepth 100000 in
set_option maxHeartbeats 2000000 in
theorem still_calls {w : World} {g : Nat} {v : Value} {l : List (ByteArray × ByteArray)} (hg : StpH w g l) (h : StpR w v l) (hl : l.length ≤ 100000) :
    Calls Tryz.prog 138 #[.slice (some ⟨g, 0, none⟩) l.length (l.length + 2), v] w fun e w' => e = .returned (.bool true) ∧ Fr (· = g) w w' := by
  obtain ⟨a, c, rfl⟩ := h.shape
  have H := Lib.hid h
  have HG := Lib.hid hg
  obtain ⟨cc, hcb, hcj, hb0, ⟨t0, hb1⟩, hb2, t1, hb3⟩ := hg
  have y0 : w.cell? ⟨g, l.length * 2, none⟩ = some (.string ⟨#[98, 101, 121, 111, 110, 100]⟩) := by rw [cellv, hcb, cellOf_cells, show l.length * 2 = 2 * l.length by omega]; exact hb0
  have y2 : w.cell? ⟨g, (l.length + 1) * 2, none⟩ = some (.string ⟨#[98, 101, 121, 111, 110, 100]⟩) := by rw [cellv, hcb, cellOf_cells, show (l.length + 1) * 2 = 2 * l.length + 2 by omega]; exact hb2
  have hne : ((l.length : Int) != l.length) = false := by simp
  have hlc : l.length ≤ l.length + 2 := by omega
  have hl0 : (0 : Int) ≤ l.length := by omega
  have hl1 : (0 : Int) ≤ (l.length : Int) + 1 := by omega
  have hl2 : (0 : Int) ≤ (l.length : Int) + 2 := by omega
  have hlt2 : (l.length : Int) < (l.length : Int) + 2 := by omega
  have hlt3 : (l.length : Int) + 1 < (l.length : Int) + 2 := by omega
  have Hl := Lib.hid hl
  clear h hcb hcj hb0 hb1 hb2 hb3
  go_enter Tryz.func138, Tryz.ntmps138
  go_wp2_with fail
  clear y0 y2 hne
  go_loopw [7, 8] (fun okv i wr => ∃ k : Nat, k ≤ l.length ∧ i = .int .i64 k ∧ okv = .bool true ∧ New w wr) (fun _ i _ => l.length - (intOf i).toNat)
  case atStart => exact ⟨0, Nat.zero_le _, rfl, rfl, Fr.refl _ _⟩
  case round =>
    obtain ⟨k, hk, rfl, rfl, hf⟩ := hrel
    have Hf := Lib.hid hf
    clear hf
    by_cases hlt : k < l.length
    · obtain ⟨p, hp⟩ : ∃ p, l[k]? = some p := ⟨l[k], List.getElem?_eq_getElem hlt⟩
      obtain ⟨ga, cap, e1, x0,x1⟩ := (H.out.new Hf.out).at k p hp
      simp only [Value.slice.injEq] at e1
      obtain ⟨rfl, _, _⟩ := e1
      obtain ⟨y0,y1⟩ := (HG.out.new Hf.out).at k p hp
      have hltI : (k : Int) < l.length := by omega
      have hltJ : (k : Int) < (l.length : Int) + 2 := by omega
      have hk0 : (0 : Int) ≤ k := by omega
      have Hlt := Lib.hid hlt
      obtain ⟨p1, p2⟩ := p
      simp only at x0 x1 y0 y1
      clear hp hlt
      go_wp2_with fail
      go_quiet (fail)
      clear x0 x1 y0 y1
      go_wp2_with fail
      go_roundw
      case rel => exact ⟨k + 1, Hlt.out, by go_num, rfl, Hf.out.drewN _⟩
      case measure => have := Hlt.out; simp [intOf]; omega
    · obtain rfl : k = l.length := by omega
      have hkI : ¬ ((l.length : Int) < l.length) := by omega
      obtain ⟨cs, hcs, hsz⟩ := (HG.out.new Hf.out).size
      have Hcs := Lib.hid hcs
      have Hsz := Lib.hid hsz
      clear hcs hsz
      go_wp2_with fail
      obtain ⟨w1, hw1⟩ : ∃ w1, w1 = wr := ⟨_, rfl⟩
      subst hw1
      go_loopw [9] (fun i w2 => ∃ k : Nat, k ≤ l.length + 2 ∧ i = .int .i64 k ∧ Fr (· = g) w1 w2 ∧ ∃ c, w2.heap[g]? = some (.cells c 54 (0, 0)) ∧ (l.length + 2) * 2 ≤ c.size) (fun i _ => l.length + 2 - (intOf i).toNat)
      case atStart => exact ⟨0, Nat.zero_le _, rfl, Fr.refl _ _, cs, Hcs.out, Hsz.out⟩
      case round =>
        obtain ⟨k, hk, rfl, hf2, c2, hc2, hs2⟩ := hrel
        have Hf2 := Lib.hid hf2
        have Hc2 := Lib.hid hc2
        have Hs2 := Lib.hid hs2
        clear hf2
        by_cases hlt : k < l.length + 2
        · have hltJ : (k : Int) < (l.length : Int) + 2 := by omega
          have hk0 : (0 : Int) ≤ k := by omega
          obtain ⟨v0, hv0⟩ : ∃ v0, c2[k * 2]? = some v0 := ⟨_, Array.getElem?_eq_getElem (by omega)⟩
          obtain ⟨v1, hv1⟩ : ∃ v1, c2[k * 2 + 1]? = some v1 := ⟨_, Array.getElem?_eq_getElem (by omega)⟩
          have y0 : wr.cell? ⟨g, k * 2, none⟩ = some v0 := by rw [cellv, hc2, cellOf_cells]; exact hv0
          have y1 : wr.cell? ⟨g, k * 2 + 1, none⟩ = some v1 := by rw [cellv, hc2, cellOf_cells]; exact hv1
          have z0 : wr.frozen? ⟨g, k * 2, none⟩ = false := by rw [frozv, hc2]; rfl
          have z1 : wr.frozen? ⟨g, k * 2 + 1, none⟩ = false := by rw [frozv, hc2]; rfl
          have Hlt := Lib.hid hlt
          clear hv0 hv1 hc2 hlt
          go_wp2_with fail
          go_roundw
          case rel =>
            have := Hs2.out
            refine ⟨k + 1, Hlt.out, by go_num, (Hf2.out.setCell (fun _ => rfl) _ _).setCell (fun _ => rfl) _ _, (c2.setIfInBounds (k * 2) (.string ⟨#[103, 111, 110, 101]⟩)).setIfInBounds (k * 2 + 1) (.string ⟨#[103, 111, 110, 101]⟩), ?_, by simp; omega⟩
            rw [hp_setCell, if_pos rfl, hp_setCell, if_pos rfl, Hc2.out]; rfl
          case measure => have := Hlt.out; simp [intOf]; omega
        · obtain rfl : k = l.length + 2 := by omega
          have hkI : ¬ ((l.length : Int) + 2 < (l.length : Int) + 2) := by omega
          clear hc2
          go_wp2_with fail
          go_ret
          exact ⟨rfl, (Hf.out.mono (fun _ _ f => f.elim)).trans Hf2.out⟩
end Go.Proofs.YtkafmfdipmhleaaGreatDoor

namespace Go.Proofs.YtkafmfdipmhleaaGreatDoor
open Go.RowKit Go.Maps
def submM (L : List SagaM) (id : Int) (l : List (ByteArray × ByteArray)) : Int × Bool :=
  if wholeB id l = false then (1, false) else if thereB L id = false then (0, true) else if ((L[findI L id]?).map (·.steps)) = some l then (0, false) else (2, false)
set_option maxRecDepth 100000 in
set_option maxHeartbeats 2000000 in
/-- Submits. -/
theorem SubmitsR_calls {w : World} {B : Nat} {lv sv : Value} {R : List RefM} {l : List (ByteArray × ByteArray)} (h : RefAt w B lv R) (ho : (sagasOf R).Pairwise (fun a b => a.id < b.id)) (hl : R.length ≤ 1000) (h6 : ∀ r ∈ R, r.1.steps.length ≤ 6) (pause clock id : Int) (hs : StpR w sv l) (hll : l.length ≤ 100000) :
    Calls Tryz.prog 139 #[engV pause clock lv, .int .i64 id, sv] w fun e w' => e = .returned (.tuple #[.int .i64 (submM (sagasOf R) id l).1, .bool (submM (sagasOf R) id l).2]) ∧ New w w' := by
  obtain ⟨a, c, rfl⟩ := h.shape
  obtain ⟨sa, sc, rfl⟩ := hs.shape
  have hN : New w (w.alloc (.cells #[.int .i64 pause, .int .i64 clock, .bool false, .slice a R.length c] 163)) := (Fr.refl _ w).alloc _
  have hb := heap_alloc_new w (.cells #[.int .i64 pause, .int .i64 clock, .bool false, .slice a R.length c] 163)
  have H1 := Lib.hid (h.new hN)
  have HS1 := Lib.hid (hs.new hN)
  have HN := Lib.hid hN
  have Ho := Lib.hid ho
  have Hl := Lib.hid hl
  have Hll := Lib.hid hll
  have H6 := Lib.hid h6
  unfold engV
  clear h hN ho hl hs hll h6
  go_enter Tryz.func139, Tryz.ntmps139
  go_upto_region 1 with fail
  generalize w.alloc (.cells #[.int .i64 pause, .int .i64 clock, .bool false, .slice a R.length c] 163) = w1 at H1 HS1 HN hb ⊢
  generalize w.heap.size = N at hb ⊢
  have Hb := Lib.hid hb
  have HW := Lib.hid (WholeR_calls id HS1.out Hll.out)
  clear hb
  go_upto_region 2 with (first
    | (go_at_call 156; refine Calls.mono HW.out ?_; rintro e w2 ⟨rfl, hf2⟩)
    | fail)
  have hb2 := hf2.get Hb.out (fun f => f)
  have HF := Lib.hid (Find_calls (H1.out.new hf2) Ho.out Hl.out pause clock id)
  unfold engV FindPost at HF
  have Hf2 := Lib.hid hf2
  have hcv := cellv w2
  clear hf2
  cases hw : wholeB id l
  · have Hd : Hid (submM (sagasOf R) id l = (1, false)) := by show _ = _; simp [submM, hw]
    go_wp2_with fail
    go_ret2
    exact ⟨by rw [Hd.out]; rfl, HN.out.trans Hf2.out⟩
  · have Hw := Lib.hid hw
    clear hw
    go_upto_region 7 with (first
      | (go_at_call 135; refine Calls.mono HF.out ?_; rintro e w3 ⟨rfl, hf3⟩)
      | fail)
    have hb3 := hf3.get hb2 (fun f => f)
    have Hf3 := Lib.hid (Hf2.out.trans hf3)
    clear hb2 hf3 hcv
    have hcv := cellv w3
    cases ht : thereB (sagasOf R) id
    · have Hd : Hid (submM (sagasOf R) id l = (0, true)) := by show _ = _; simp [submM, Hw.out, ht]
      go_wp2_with fail
      go_ret2
      exact ⟨by rw [Hd.out]; rfl, HN.out.trans Hf3.out⟩
    · obtain ⟨g, hg, hgi⟩ := there_get Ho.out ht
      obtain ⟨r, hr, hrg⟩ : ∃ r, R[findI (sagasOf R) id]? = some r ∧ r.1 = g := by
        unfold sagasOf at hg
        rw [List.getElem?_map] at hg
        unfold sagasOf
        cases hr : R[findI (R.map (·.1)) id]? with
        | none => rw [hr] at hg; cases hg
        | some r => rw [hr] at hg; exact ⟨r, rfl, by simpa using hg⟩
      have hlt := (List.getElem?_eq_some_iff.1 hr).1
      have hsub : submM (sagasOf R) id l = if g.steps = l then (0, false) else (2, false) := by
        simp only [submM, Hw.out, ht, hg]
        simp
      generalize findI (sagasOf R) id = k at hr hlt ⊢
      obtain ⟨ga, rfl, c0, c1, c2, c3, c4, c5, c6⟩ := (H1.out.new Hf3.out).at k r hr
      have hkI : (k : Int) < R.length := by omega
      have hk0 : (0 : Int) ≤ k := by omega
      have hstp := ((H1.out.new Hf3.out).ok r (List.mem_of_getElem? hr)).1
      have hl30 := Hl.out
      rw [hcv] at c1
      have HSm := Lib.hid (SameR_calls hstp (HS1.out.new Hf3.out) (by have := H6.out r (List.mem_of_getElem? hr); omega) Hll.out)
      rw [hrg] at HSm
      by_cases he : g.steps = l
      · rw [if_pos he] at hsub
        rw [decide_eq_true he] at HSm
        have Hd := Lib.hid hsub
        clear hsub c0 c2 c3 c4 c5 c6 hg hgi hr hrg he hstp
        go_wp2_with (first
          | (go_at_call 136; refine Calls.mono HSm.out ?_; rintro e w4 ⟨rfl, hf4⟩)
          | fail)
        go_ret2
        exact ⟨by rw [Hd.out]; rfl, (HN.out.trans Hf3.out).trans hf4⟩
      · rw [if_neg he] at hsub
        rw [decide_eq_false he] at HSm
        have Hd := Lib.hid hsub
        clear hsub c0 c2 c3 c4 c5 c6 hg hgi hr hrg he hstp
        go_wp2_with (first
          | (go_at_call 136; refine Calls.mono HSm.out ?_; rintro e w4 ⟨rfl, hf4⟩)
          | fail)
        go_ret2
        exact ⟨by rw [Hd.out]; rfl, (HN.out.trans Hf3.out).trans hf4⟩
theorem Tryz.info163s : (Tryz.prog.info? 163).map (·.size) = some 4 := by kernel_rfl
theorem Tryz.info223 : (Tryz.prog.info? 223).map (fun i => (i.zero, i.size, i.bytes)) = some (some (.agg #[.int .i64 0, .slice none 0 0, .int .i64 0, .int .i64 0, .int .i64 0, .int .i64 0, .slice none 0 0]), 7, 88) := by kernel_rfl
theorem rc_one (r : RefM) (h1 : ∃ a n c, r.2.1 = .slice a n c) (h2 : ∃ a n c, r.2.2 = .slice a n c) : ∀ u ∈ rCells r, u.oneCell' = true := by
  obtain ⟨a, n, c, h1⟩ := h1
  obtain ⟨a', n', c', h2⟩ := h2
  intro u hu
  simp [rCells, h1, h2] at hu
  rcases hu with rfl | rfl | rfl | rfl | rfl | rfl | rfl <;> rfl
theorem allR_take (R : List RefM) (i : Nat) : allR (R.take i) = (allR R).take (i * 7) := by
  induction R generalizing i with
  | nil => simp [allR]
  | cons a R ih =>
    have h7 : (rCells a).length = 7 := rfl
    have hc : allR (a :: R) = rCells a ++ allR R := by simp [allR]
    cases i with
    | zero => simp [allR]
    | succ i =>
      rw [hc, List.take_succ_cons, show allR (a :: R.take i) = rCells a ++ allR (R.take i) by simp [allR], ih, List.take_append, h7, show (i + 1) * 7 - 7 = i * 7 by omega, List.take_of_length_le (l := rCells a) (by omega)]
theorem allR_drop (R : List RefM) (i : Nat) : allR (R.drop i) = (allR R).drop (i * 7) := by
  induction R generalizing i with
  | nil => simp [allR]
  | cons a R ih =>
    have h7 : (rCells a).length = 7 := rfl
    have hc : allR (a :: R) = rCells a ++ allR R := by simp [allR]
    cases i with
    | zero => simp
    | succ i =>
      rw [hc, List.drop_succ_cons, ih, List.drop_append, h7, show (i + 1) * 7 - 7 = i * 7 by omega, List.drop_of_length_le (l := rCells a) (by omega), List.nil_append]
theorem RefAt.cellR {w : World} {B n c g : Nat} {R : List RefM} (h : RefAt w B (.slice (some ⟨g, 0, none⟩) n c) R) (j : Nat) (u : Value) (hu : (allR R)[j]? = some u) : w.cell? ⟨g, j, none⟩ = some u := by
  have hlt := (List.getElem?_eq_some_iff.1 hu).1
  rw [allR_len] at hlt
  rcases h.own.2 with ⟨h1, h2⟩ | ⟨g', cap, cur, h1, hg, hh, hn, hq1, hq2, htk⟩
  · cases h1
  · simp only [Value.slice.injEq, Option.some.injEq, Addr.mk.injEq] at h1
    obtain ⟨⟨rfl, _⟩, _⟩ := h1
    rw [cellv, hh, cellOf_cells]
    rw [← htk, List.getElem?_take_of_lt (by omega)] at hu
    simpa using hu
theorem RefAt.oneR {w : World} {B : Nat} {v : Value} {R : List RefM} (h : RefAt w B v R) : ∀ u ∈ allR R, u.oneCell' = true := by
  intro u hu
  simp only [allR, List.mem_flatMap] at hu
  obtain ⟨r, hr, hu⟩ := hu
  have h1 := h.ok r hr
  obtain ⟨a, c, e1⟩ := h1.1.shape
  obtain ⟨b, cap, _, e2, _⟩ := h1.2
  exact rc_one r ⟨_, _, _, e1⟩ ⟨_, _, _, e2⟩ u hu
theorem append_nil161 (v : Value) (hv : ∃ a n c, v = .slice a n c ∧ n ≤ c) (ty : TypeId) (w : World) : (Builtin.append_ #[161, 161] ty #[v, .slice none 0 0]).run Tryz.prog w = .ok v w := by
  obtain ⟨a, n, c, rfl, hn⟩ := hv
  obtain ⟨i0, hi, hz0, hz1, hz2⟩ := info_parts Tryz.info223
  simp [Builtin.append_, run_underlying Tryz.underlying161, sizeOf, typeInfo, hi, Builtin.lenOf, Builtin.firstCells, hn]
  cases a <;> simp [storeCells]
theorem own_baseW {w : World} {B C e size n : Nat} {v : Value} {xs : List Value} (h : w.ownsRow B e size v n xs) (hC : C ≤ B) : w.ownsRow C e size v n xs := by
  obtain ⟨h1, h2⟩ := h
  refine ⟨h1, ?_⟩
  rcases h2 with h2 | ⟨g, cap, cur, hv, hg, r⟩
  · exact .inl h2
  · exact .inr ⟨g, cap, cur, hv, Nat.le_trans hC hg, r⟩
def WithPost (w : World) (pause clock : Int) (R' : List RefM) (e : Ending) (w' : World) : Prop := ∃ lv', e = .returned (engV pause clock lv') ∧ w'.ownsRow w.heap.size 223 7 lv' R'.length (allR R') ∧ New w w'
set_option maxRecDepth 100000 in
set_option maxHeartbeats 4000000 in
/-- With. -/
theorem With_calls {w : World} {B : Nat} {lv : Value} {R : List RefM} (h : RefAt w B lv R) (ho : (sagasOf R).Pairwise (fun a b => a.id < b.id)) (hl : R.length ≤ 1000) (pause clock : Int) (r : RefM) (hr1 : ∃ a n c, r.2.1 = .slice a n c) (hr2 : ∃ a n c, r.2.2 = .slice a n c) :
    Calls Tryz.prog 141 #[engV pause clock lv, .agg (rCells r).toArray] w (WithPost w pause clock (R.take (findI (sagasOf R) r.1.id) ++ r :: R.drop (findI (sagasOf R) r.1.id))) := by
  obtain ⟨i0, hi, hz0, hz1, hz2⟩ := info_parts Tryz.info223
  obtain ⟨a, c, rfl⟩ := h.shape
  have hone := rc_one r hr1 hr2
  obtain ⟨g, sv, mv⟩ := r
  simp only [rCells] at hone
  have hN : New w (((w.alloc (.cells #[.int .i64 pause, .int .i64 clock, .bool false, .slice a R.length c] 163)).alloc (.cells #[.int .i64 g.id, sv, .int .i64 g.st, .int .i64 g.step, .int .i64 g.tries, .int .i64 g.due, mv] 223)).alloc (.cells #[.int .i64 0, .int .i64 0, .bool false, .slice none 0 0] 163)) := (((Fr.refl _ w).alloc _).alloc _).alloc _
  have hb0 := heap_alloc_keep (.cells #[.int .i64 0, .int .i64 0, .bool false, .slice none 0 0] 163) (heap_alloc_keep (.cells #[.int .i64 g.id, sv, .int .i64 g.st, .int .i64 g.step, .int .i64 g.tries, .int .i64 g.due, mv] 223) (heap_alloc_new w (.cells #[.int .i64 pause, .int .i64 clock, .bool false, .slice a R.length c] 163)))
  have hb1 := heap_alloc_keep (.cells #[.int .i64 0, .int .i64 0, .bool false, .slice none 0 0] 163) (heap_alloc_new (w.alloc (.cells #[.int .i64 pause, .int .i64 clock, .bool false, .slice a R.length c] 163)) (.cells #[.int .i64 g.id, sv, .int .i64 g.st, .int .i64 g.step, .int .i64 g.tries, .int .i64 g.due, mv] 223))
  have hb2 := heap_alloc_new ((w.alloc (.cells #[.int .i64 pause, .int .i64 clock, .bool false, .slice a R.length c] 163)).alloc (.cells #[.int .i64 g.id, sv, .int .i64 g.st, .int .i64 g.step, .int .i64 g.tries, .int .i64 g.due, mv] 223)) (.cells #[.int .i64 0, .int .i64 0, .bool false, .slice none 0 0] 163)
  simp only [sz_alloc] at hb1 hb2
  have H1 := Lib.hid (h.new hN)
  have HN := Lib.hid hN
  have Ho := Lib.hid ho
  have Hl := Lib.hid hl
  have Hone := Lib.hid hone
  unfold engV rCells
  clear h hN ho hl hr1 hr2 hone
  go_enter Tryz.func141, Tryz.ntmps141
  go_upto_region 1 with fail
  generalize ((w.alloc (.cells #[.int .i64 pause, .int .i64 clock, .bool false, .slice a R.length c] 163)).alloc (.cells #[.int .i64 g.id, sv, .int .i64 g.st, .int .i64 g.step, .int .i64 g.tries, .int .i64 g.due, mv] 223)).alloc (.cells #[.int .i64 0, .int .i64 0, .bool false, .slice none 0 0] 163) = w1 at H1 HN hb0 hb1 hb2 ⊢
  have HNw : Hid (w.heap.size + 2 < w1.heap.size) := lt_of_hp hb2
  generalize hNN : w.heap.size = N at hb0 hb1 hb2 HNw ⊢
  have HNN := Lib.hid hNN
  clear hNN
  have HF := Lib.hid (Find_calls H1.out Ho.out Hl.out pause clock g.id)
  unfold engV FindPost at HF
  have Hb0 := Lib.hid hb0
  have Hb1 := Lib.hid hb1
  have Hb2 := Lib.hid hb2
  have hcv := cellv w1
  go_upto_region 3 with (first
    | (go_at_call 135; refine Calls.mono HF.out ?_; rintro e w2 ⟨rfl, hf2⟩)
    | fail)
  have hil := findI_le (sagasOf R) g.id
  rw [show (sagasOf R).length = R.length by simp [sagasOf]] at hil
  have Hil := Lib.hid hil
  have hb0 := hf2.get Hb0.out (fun f => f)
  have hb1 := hf2.get Hb1.out (fun f => f)
  have hb2 := hf2.get Hb2.out (fun f => f)
  generalize hfi : findI (sagasOf R) g.id = i at Hil hil ⊢
  have Hfi := Lib.hid hfi
  clear hfi
  have Hf2 := Lib.hid (HN.out.trans hf2)
  have H2 := Lib.hid (H1.out.new hf2)
  have HN2 : Hid (N + 2 < w2.heap.size) := Nat.lt_of_lt_of_le HNw.out hf2.size
  clear hf2 hcv HF H1 HN HNw Hb0 Hb1 Hb2
  have hcv := cellv w2
  have hi0 : (0 : Int) ≤ i := by omega
  have HB0 := Lib.hid hb0
  have HB1 := Lib.hid hb1
  have HB2 := Lib.hid hb2
  have hlen1 : (allR (R.take i)).length = i * 7 := by rw [allR_len, List.length_take, Nat.min_eq_left hil]
  have hlen2 : (allR (R.drop i)).length = (R.length - i) * 7 := by rw [allR_len, List.length_drop]
  have Hlen1 := Lib.hid hlen1
  have Hlen2 := Lib.hid hlen2
  have hoR := H2.out.oneR
  have Hone1 : Hid (∀ u ∈ allR (R.take i), u.oneCell' = true) := by
    intro u hu; rw [allR_take] at hu; exact hoR u (List.mem_of_mem_take hu)
  have Hone2 : Hid (∀ u ∈ allR (R.drop i), u.oneCell' = true) := by
    intro u hu; rw [allR_drop] at hu; exact hoR u (List.mem_of_mem_drop hu)
  clear hlen1 hlen2 hoR
  rcases H2.out.own.2 with ⟨h1, h2⟩ | ⟨gb, cap, cur, h1, _, _, hcap, _⟩
  · obtain rfl := List.length_eq_zero_iff.1 h2
    simp only [List.length_nil, Value.slice.injEq] at h1
    obtain ⟨rfl, _, rfl⟩ := h1
    obtain rfl : i = 0 := by simpa using hil
    have hnl := fun ty w => append_nil161 (.slice none 0 0) ⟨_, _, _, rfl, Nat.le_refl _⟩ ty w
    have Hnl := Lib.hid hnl
    clear hnl
    go_upto_region 4 with (first
      | (at_builtin; refine Lib.wpList_append_run _ rfl _ _ _ _ rfl _ _ rfl rfl _ _ (Hnl.out _ _) ?_; go_frame)
      | fail)
    have hoA := Lib.hid ((World.ownsRow_nil w2 w2.heap.size 223 7).alloc (.cells #[.int .i64 g.id, sv, .int .i64 g.st, .int .i64 g.step, .int .i64 g.tries, .int .i64 g.due, mv] 223))
    have hnews2 : ∀ (j : Nat) (u : Value), [Value.int .i64 g.id, sv, Value.int .i64 g.st, Value.int .i64 g.step, Value.int .i64 g.tries, Value.int .i64 g.due, mv][j]? = some u → (w2.alloc (.cells #[.int .i64 g.id, sv, .int .i64 g.st, .int .i64 g.step, .int .i64 g.tries, .int .i64 g.due, mv] 223)).cell? ((⟨w2.heap.size, 0, none⟩ : Addr).add j) = some u := World.news_of_block (heap_alloc_new w2 _)
    have Hnews2 := Lib.hid hnews2
    clear hnews2
    go_upto_region 5 with (first
      | (at_builtin; refine wpList_append_own _ rfl _ _ 161 rfl w2.heap.size 223 i0 (.agg #[.int .i64 0, .slice none 0 0, .int .i64 0, .int .i64 0, .int .i64 0, .int .i64 0, .slice none 0 0]) 7 88 Tryz.underlying161 hi hz0 hz1 hz2 rfl (by decide) _ _ _ rfl hoA.out ⟨w2.heap.size, 0, none⟩ 1 1 [Value.int .i64 g.id, sv, Value.int .i64 g.st, Value.int .i64 g.step, Value.int .i64 g.tries, Value.int .i64 g.due, mv] rfl rfl Hnews2.out Hone.out (by unfold maxLen; omega) (by omega) (by simp) ?_; intro l2 w5 hown5 hg5 _; obtain ⟨a5, n5, c5, rfl⟩ := own_slice hown5; go_frame)
      | fail)
    have hnl5 : Hid (∃ a n c, Value.slice a5 n5 c5 = .slice a n c ∧ n ≤ c) := by
      rcases hown5.2 with ⟨e, _⟩ | ⟨g, cap, cur, e, _, _, hle, _⟩
      · simp only [Value.slice.injEq] at e
        obtain ⟨rfl, rfl, rfl⟩ := e
        exact ⟨_, _, _, rfl, Nat.le_refl _⟩
      · simp only [Value.slice.injEq] at e
        obtain ⟨rfl, rfl, rfl⟩ := e
        exact ⟨_, _, _, rfl, hle⟩
    have Hnl6 := Lib.hid (fun ty w => append_nil161 (.slice a5 n5 c5) hnl5.out ty w)
    have hf5 : New w2 w5 := ((Fr.refl _ w2).alloc _).trans' (Fr.ofGrown hg5) (fun i hi e => by cases e)
    have hb0 := hf5.get HB0.out (fun f => f)
    have hb2 := hf5.get HB2.out (fun f => f)
    have Hf5 := Lib.hid hf5
    have Hown5 := Lib.hid hown5
    have Hb2 := Lib.hid hb2
    have Hb0 := Lib.hid hb0
    clear hcv hf5 hown5 hg5
    have hcv := cellv w5
    have hfv := frozv w5
    go_wp2_with (first
      | (at_builtin; refine Lib.wpList_append_run _ rfl _ _ _ _ rfl _ _ rfl rfl _ _ (Hnl6.out _ _) ?_; go_frame)
      | fail)
    refine bodyPost_ret (results_cell_row rfl _ _ (N + 1 + 1) 163 #[.int .i64 pause, .int .i64 clock, .bool false, .slice a5 n5 c5] (0, 0) _ rfl (by
      simp only [hp_setCell, if_true, if_neg (show ¬ N + 1 + 1 = N by omega), Hb2.out]; rfl) Tryz.underlying163 rfl Tryz.info163s) rfl ?_
    rw [Hfi.out]
    have hFS : Fr (fun k => k = N ∨ k = N + 1 + 1) w5 (((((w5.setCell ⟨N, 3, none⟩ (.slice a5 n5 c5)).setCell ⟨N + 1 + 1, 0, none⟩ (.int .i64 pause)).setCell ⟨N + 1 + 1, 1, none⟩ (.int .i64 clock)).setCell ⟨N + 1 + 1, 2, none⟩ (.bool false)).setCell ⟨N + 1 + 1, 3, none⟩ (.slice a5 n5 c5)) := (((((Fr.refl _ w5).setCell (fun _ => .inl rfl) _ _).setCell (fun _ => .inr rfl) _ _).setCell (fun _ => .inr rfl) _ _).setCell (fun _ => .inr rfl) _ _).setCell (fun _ => .inr rfl) _ _
    refine ⟨_, rfl, own_baseW (ownsRow_fr (by
      have h := Hown5.out
      show w5.ownsRow w2.heap.size 223 7 (.slice a5 n5 c5) 1 (allR [(g, sv, mv)])
      exact h) hFS ?_) Hf2.out.size, (Hf2.out.trans Hf5.out).trans' hFS ?_⟩
    · rintro k (rfl | rfl)
      · exact ⟨_, Hb0.out, by simp [kindOf]⟩
      · exact ⟨_, Hb2.out, by simp [kindOf]⟩
    · have := HNN.out
      rintro k hk (rfl | rfl) <;> omega
  · simp only [Value.slice.injEq] at h1
    obtain ⟨rfl, _, rfl⟩ := h1
    have hnews1 : ∀ (j : Nat) (u : Value), (allR (R.take i))[j]? = some u → w2.cell? ((⟨gb, 0, none⟩ : Addr).add j) = some u := by
      intro j u hj
      rw [Addr.add_lit, Nat.zero_add]
      have hjl := (List.getElem?_eq_some_iff.1 hj).1
      rw [Hlen1.out] at hjl
      rw [allR_take, List.getElem?_take_of_lt hjl] at hj
      exact H2.out.cellR j u hj
    have Hnews1 := Lib.hid hnews1
    have hic : i ≤ c := by omega
    have Hcap := Lib.hid hcap
    have Hb0 := Lib.hid hb0
    have Hb1 := Lib.hid hb1
    have Hb2 := Lib.hid hb2
    clear hnews1
    go_upto_region 4 with (first
      | (at_builtin; refine wpList_append_own _ rfl _ _ 161 rfl w2.heap.size 223 i0 (.agg #[.int .i64 0, .slice none 0 0, .int .i64 0, .int .i64 0, .int .i64 0, .int .i64 0, .slice none 0 0]) 7 88 Tryz.underlying161 hi hz0 hz1 hz2 rfl (by decide) _ _ _ rfl (World.ownsRow_nil w2 w2.heap.size 223 7) ⟨gb, 0, none⟩ i c (allR (R.take i)) rfl Hlen1.out Hnews1.out Hone1.out (by have := Hl.out; have := Hil.out; unfold maxLen; omega) (by have := Hl.out; have := Hil.out; omega) (Nat.le_refl _) ?_; intro l1 w3 hown3 hg3 _; obtain ⟨a3, n3, c3, rfl⟩ := own_slice hown3; go_frame)
      | fail)
    have hf3 : New w2 w3 := (Fr.ofGrown hg3).mono (fun _ _ e => by cases e)
    rw [Nat.zero_add, List.nil_append] at hown3
    have hb0 := hf3.get Hb0.out (fun f => f)
    have hb1 := hf3.get Hb1.out (fun f => f)
    have hb2 := hf3.get Hb2.out (fun f => f)
    have Hf3 := Lib.hid hf3
    have Hown3 := Lib.hid hown3
    clear hf3 hown3 hg3 hcv Hb0 Hb1 Hb2 hic
    have hcv := cellv w3
    have hpA := heap_alloc_keep (.cells #[.int .i64 g.id, sv, .int .i64 g.st, .int .i64 g.step, .int .i64 g.tries, .int .i64 g.due, mv] 223) hb0
    have hoA := Lib.hid (Hown3.out.alloc (.cells #[.int .i64 g.id, sv, .int .i64 g.st, .int .i64 g.step, .int .i64 g.tries, .int .i64 g.due, mv] 223))
    have hnews2 : ∀ (j : Nat) (u : Value), [Value.int .i64 g.id, sv, Value.int .i64 g.st, Value.int .i64 g.step, Value.int .i64 g.tries, Value.int .i64 g.due, mv][j]? = some u → (w3.alloc (.cells #[.int .i64 g.id, sv, .int .i64 g.st, .int .i64 g.step, .int .i64 g.tries, .int .i64 g.due, mv] 223)).cell? ((⟨w3.heap.size, 0, none⟩ : Addr).add j) = some u := World.news_of_block (heap_alloc_new w3 _)
    have Hnews2 := Lib.hid hnews2
    have Hb0 := Lib.hid hb0
    have Hb1 := Lib.hid hb1
    have Hb2 := Lib.hid hb2
    clear hnews2 hpA
    go_upto_region 5 with (first
      | (at_builtin; refine wpList_append_own _ rfl _ _ 161 rfl w2.heap.size 223 i0 (.agg #[.int .i64 0, .slice none 0 0, .int .i64 0, .int .i64 0, .int .i64 0, .int .i64 0, .slice none 0 0]) 7 88 Tryz.underlying161 hi hz0 hz1 hz2 rfl (by decide) _ _ _ rfl hoA.out ⟨w3.heap.size, 0, none⟩ 1 1 [Value.int .i64 g.id, sv, Value.int .i64 g.st, Value.int .i64 g.step, Value.int .i64 g.tries, Value.int .i64 g.due, mv] rfl rfl Hnews2.out Hone.out (by have := Hl.out; have := Hil.out; unfold maxLen; omega) (by have := Hl.out; have := Hil.out; omega) (by have := Hf3.out.size; simp; omega) ?_; intro l2 w4 hown4 hg4 _; obtain ⟨a4, n4, c4, rfl⟩ := own_slice hown4; go_frame)
      | fail)
    have hf4 : New w2 w4 := (Hf3.out.alloc _).trans' (Fr.ofGrown hg4) (fun i hi e => by have := (Hown3.out.lt i e).1; omega)
    have hb0 := hf4.get HB0.out (fun f => f)
    have Hown4 := Lib.hid hown4
    have Hf4 := Lib.hid hf4
    have hic : i ≤ R.length := Hil.out
    have hcap : R.length ≤ c := Hcap.out
    have e1 : i + 1 + (R.length - i) ≤ maxLen := by have := Hl.out; have := Hil.out; unfold maxLen; omega
    have e2 : (i + 1 + (R.length - i)) * 88 ≤ 140737488355328 := by have := Hl.out; have := Hil.out; omega
    have E1 := Lib.hid e1
    have E2 := Lib.hid e2
    clear hb1 hb2 hcv hown4 hf4 hg4 hoA Hb0 Hb1 Hb2 e1 e2
    have hcv := cellv w4
    by_cases hci : c = i
    · obtain rfl : i = R.length := by omega
      obtain rfl : c = R.length := by omega
      go_upto_region 6 with (first
        | (at_builtin; refine wpList_append_own _ rfl _ _ 161 rfl w2.heap.size 223 i0 (.agg #[.int .i64 0, .slice none 0 0, .int .i64 0, .int .i64 0, .int .i64 0, .int .i64 0, .slice none 0 0]) 7 88 Tryz.underlying161 hi hz0 hz1 hz2 rfl (by decide) _ _ _ rfl Hown4.out ⟨gb, 0, none⟩ 0 0 [] rfl rfl (fun j u hu => by simp at hu) (fun u hu => by simp at hu) (by have := Hl.out; unfold maxLen; omega) (by have := Hl.out; omega) Hf4.out.size ?_; intro l3 w5 hown5 hg5 _; obtain ⟨a5, n5, c5, rfl⟩ := own_slice hown5; go_frame)
        | fail)
      have hf5 : New w2 w5 := Hf4.out.trans' (Fr.ofGrown hg5) (fun i hi e => by have := (Hown4.out.lt i e).1; omega)
      have hb0 := hf5.get HB0.out (fun f => f)
      have hb2 := hf5.get HB2.out (fun f => f)
      have Hf5 := Lib.hid hf5
      have Hown5 := Lib.hid hown5
      have Hb2 := Lib.hid hb2
      have Hb0 := Lib.hid hb0
      clear hcv hf5 hown5 hg5
      have hcv := cellv w5
      have hfv := frozv w5
      go_wp2_with fail
      refine bodyPost_ret (results_cell_row rfl _ _ (N + 1 + 1) 163 #[.int .i64 pause, .int .i64 clock, .bool false, .slice a5 n5 c5] (0, 0) _ rfl (by
        simp only [hp_setCell, if_true, if_neg (show ¬ N + 1 + 1 = N by omega), Hb2.out]; rfl) Tryz.underlying163 rfl Tryz.info163s) rfl ?_
      rw [Hfi.out]
      have hFS : Fr (fun k => k = N ∨ k = N + 1 + 1) w5 (((((w5.setCell ⟨N, 3, none⟩ (.slice a5 n5 c5)).setCell ⟨N + 1 + 1, 0, none⟩ (.int .i64 pause)).setCell ⟨N + 1 + 1, 1, none⟩ (.int .i64 clock)).setCell ⟨N + 1 + 1, 2, none⟩ (.bool false)).setCell ⟨N + 1 + 1, 3, none⟩ (.slice a5 n5 c5)) := (((((Fr.refl _ w5).setCell (fun _ => .inl rfl) _ _).setCell (fun _ => .inr rfl) _ _).setCell (fun _ => .inr rfl) _ _).setCell (fun _ => .inr rfl) _ _).setCell (fun _ => .inr rfl) _ _
      refine ⟨_, rfl, own_baseW (ownsRow_fr (by
        have h := Hown5.out
        rw [show (R.take R.length ++ (g, sv, mv) :: R.drop R.length).length = R.length + 1 + 0 by simp, show allR (R.take R.length ++ (g, sv, mv) :: R.drop R.length) = allR (R.take R.length) ++ [Value.int .i64 g.id, sv, Value.int .i64 g.st, Value.int .i64 g.step, Value.int .i64 g.tries, Value.int .i64 g.due, mv] ++ [] by simp [allR, rCells]]
        exact h) hFS ?_) Hf2.out.size, (Hf2.out.trans Hf5.out).trans' hFS ?_⟩
      · rintro k (rfl | rfl)
        · exact ⟨_, Hb0.out, by simp [kindOf]⟩
        · exact ⟨_, Hb2.out, by simp [kindOf]⟩
      · have := HNN.out
        rintro k hk (rfl | rfl) <;> omega
    have hnews3 : ∀ (j : Nat) (u : Value), (allR (R.drop i))[j]? = some u → w4.cell? ((⟨gb, i * 7, none⟩ : Addr).add j) = some u := by
      intro j u hj
      rw [Addr.add_lit]
      rw [allR_drop, List.getElem?_drop] at hj
      exact (H2.out.new Hf4.out).cellR _ u hj
    have Hnews3 := Lib.hid hnews3
    clear hnews3
    go_upto_region 6 with (first
      | (at_builtin; refine wpList_append_own _ rfl _ _ 161 rfl w2.heap.size 223 i0 (.agg #[.int .i64 0, .slice none 0 0, .int .i64 0, .int .i64 0, .int .i64 0, .int .i64 0, .slice none 0 0]) 7 88 Tryz.underlying161 hi hz0 hz1 hz2 rfl (by decide) _ _ _ rfl Hown4.out ⟨gb, i * 7, none⟩ (R.length - i) (c - i) (allR (R.drop i)) rfl Hlen2.out Hnews3.out Hone2.out E1.out E2.out Hf4.out.size ?_; intro l3 w5 hown5 hg5 _; obtain ⟨a5, n5, c5, rfl⟩ := own_slice hown5; go_frame)
      | fail)
    have hf5 : New w2 w5 := Hf4.out.trans' (Fr.ofGrown hg5) (fun i hi e => by have := (Hown4.out.lt i e).1; omega)
    have hb0 := hf5.get HB0.out (fun f => f)
    have hb2 := hf5.get HB2.out (fun f => f)
    have Hf5 := Lib.hid hf5
    have Hown5 := Lib.hid hown5
    have Hb2 := Lib.hid hb2
    have Hb0 := Lib.hid hb0
    clear hcv hf5 hown5 hg5
    have hcv := cellv w5
    have hfv := frozv w5
    go_wp2_with fail
    refine bodyPost_ret (results_cell_row rfl _ _ (N + 1 + 1) 163 #[.int .i64 pause, .int .i64 clock, .bool false, .slice a5 n5 c5] (0, 0) _ rfl (by
      simp only [hp_setCell, if_true, if_neg (show ¬ N + 1 + 1 = N by omega), Hb2.out]; rfl) Tryz.underlying163 rfl Tryz.info163s) rfl ?_
    rw [Hfi.out]
    have hFS : Fr (fun k => k = N ∨ k = N + 1 + 1) w5 (((((w5.setCell ⟨N, 3, none⟩ (.slice a5 n5 c5)).setCell ⟨N + 1 + 1, 0, none⟩ (.int .i64 pause)).setCell ⟨N + 1 + 1, 1, none⟩ (.int .i64 clock)).setCell ⟨N + 1 + 1, 2, none⟩ (.bool false)).setCell ⟨N + 1 + 1, 3, none⟩ (.slice a5 n5 c5)) := (((((Fr.refl _ w5).setCell (fun _ => .inl rfl) _ _).setCell (fun _ => .inr rfl) _ _).setCell (fun _ => .inr rfl) _ _).setCell (fun _ => .inr rfl) _ _).setCell (fun _ => .inr rfl) _ _
    refine ⟨_, rfl, own_baseW (ownsRow_fr (by
      have h := Hown5.out
      rw [show (R.take i ++ (g, sv, mv) :: R.drop i).length = i + 1 + (R.length - i) by have := Hil.out; simp; omega, show allR (R.take i ++ (g, sv, mv) :: R.drop i) = allR (R.take i) ++ [Value.int .i64 g.id, sv, Value.int .i64 g.st, Value.int .i64 g.step, Value.int .i64 g.tries, Value.int .i64 g.due, mv] ++ allR (R.drop i) by simp [allR, rCells]]
      exact h) hFS ?_) Hf2.out.size, (Hf2.out.trans Hf5.out).trans' hFS ?_⟩
    · rintro k (rfl | rfl)
      · exact ⟨_, Hb0.out, by simp [kindOf]⟩
      · exact ⟨_, Hb2.out, by simp [kindOf]⟩
    · have := HNN.out
      rintro k hk (rfl | rfl) <;> omega
end Go.Proofs.YtkafmfdipmhleaaGreatDoor

namespace Go.Proofs.YtkafmfdipmhleaaGreatDoor
open Go.RowKit Go.Maps
/-- The engine that is open. -/
structure EngR where
  xb : Nat
  jb : Nat
  mb : Nat
  bl : List Nat
  fresh : Bool
  cv : Value
  a : AskM
/-- A disk of a script. -/
structure RD where
  kb : Nat
  db : Nat
  bb : Nat
  pb : Nat
  n : Nat
  ep : Nat
  d : DiskM
  p : PartM
  evs : List Ev
  R : List RefM
  pz : Int
  ck : Int
  lv : Value
  pl : Value
  pe : Value
  pi : Value
  x : Option EngR
def xvOf (o : RD) : Value := match o.x with
  | none => .pointer none
  | some e => .pointer (some ⟨e.xb, 0, none⟩)
def rdCells (o : RD) : Array Value := #[.pointer (some ⟨o.db, 0, none⟩), .pointer (some ⟨o.pb, 0, none⟩), .int .i64 o.n, .bool (decide (o.ep = 0)), .bool false, xvOf o, .int .i64 o.pz, .int .i64 o.ck, .bool false, o.lv]
def RD.st (o : RD) (e : EngR) : StM := ⟨o.pz, o.ck, sagasOf o.R, ⟨o.ep, 1 + evLen o.evs, e.fresh⟩, o.d, o.p⟩
def RD.pl_ (o : RD) (e : EngR) : Pl := ⟨e.xb, e.jb, e.mb, o.db, o.bb, o.pb⟩
/-- What is the disk's own. -/
def RD.own (o : RD) (k : Nat) : Prop := k = o.kb ∨ k = o.db ∨ k = o.bb ∨ k = o.pb ∨ o.lv.ownBlock = some k ∨ o.pl.ownBlock = some k ∨ o.pe.ownBlock = some k ∨ (∃ a n c, o.pi = .slice (some a) n c ∧ a.block = k) ∨ ∃ e, o.x = some e ∧ (k = e.xb ∨ k = e.jb ∨ k = e.mb ∨ k ∈ e.bl)
structure RunAt (w : World) (B : Nat) (o : RD) : Prop where
  st : w.heap[o.kb]? = some (.cells (rdCells o) 165 (0, 0))
  dk : DiskAt w o.db o.bb o.d
  ps : w.heap[o.pb]? = some (.cells #[o.pl, o.pe, o.pi, .int .i64 o.p.at_] 44 (0, 0))
  pt : PAt w o.pb o.p
  pi : o.p.l = [] → o.pi = .slice none 0 0
  ref : RefAt w B o.lv o.R
  eng : ∀ e, o.x = some e → StV e.cv w (o.pl_ e) e.bl (o.st e) ∧ Asks e.cv o.pb e.a
  lo : ∀ k, o.own k → B ≤ k
structure RDok (m : Nat) (o : RD) : Prop where
  quiet : o.d.quiet
  pend : o.d.pend = none
  len : o.d.blocks.length = o.n
  nl : o.n < 1000
  cal : 0 ≤ o.d.calls ∧ o.d.calls + 20000 * m ≤ 2 ^ 40
  je : 0 < o.n → JE o.d.blocks o.ep o.evs
  ep : o.ep + m ≤ 100000
  core : coreL (sagasOf o.R) = o.evs.foldl applyEv []
  cap : (evLen o.evs : Int) + leftSum (sagasOf o.R) ≤ capSum (sagasOf o.R)
  ok : ∀ g ∈ sagasOf o.R, g.ok
  ord : (sagasOf o.R).Pairwise (fun a b => a.id < b.id)
  room : o.ep ≠ 0 → (1 + evLen o.evs : Nat) + leftSum (sagasOf o.R) ≤ o.n
  fits : o.ep ≠ 0 → 8 ≤ o.n ∧ o.n ≤ 400
  zero : o.ep = 0 → o.R = [] ∧ o.x = none
  fine : o.p.fine (2000 * m)
  tries : ∀ g ∈ sagasOf o.R, g.tries + 2000 * m < 2 ^ 30
  clock : 0 ≤ o.ck ∧ o.ck + m ≤ 2 ^ 30
  eng : ∀ e, o.x = some e → (1 ≤ o.pz ∧ o.pz ≤ 64) ∧ (e.a = askP ∨ e.a = askF)
theorem RDok.less {m k : Nat} {o : RD} (h : RDok m o) (hk : k ≤ m) : RDok k o :=
  ⟨h.quiet, h.pend, h.len, h.nl, ⟨h.cal.1, by have := h.cal.2; omega⟩, h.je, by have := h.ep; omega, h.core, h.cap, h.ok, h.ord, h.room, h.fits, h.zero, h.fine.less (by omega), fun g hg => by have := h.tries g hg; omega, ⟨h.clock.1, by have := h.clock.2; omega⟩, h.eng⟩
theorem RDok.epx {m : Nat} {o : RD} {e : EngR} (h : RDok m o) (hx : o.x = some e) : o.ep ≠ 0 := by
  intro h0
  have := (h.zero h0).2
  rw [hx] at this; cases this
theorem RDok.inv {m : Nat} {o : RD} {e : EngR} (h : RDok m o) (hx : o.x = some e) : (o.st e).inv := by
  have h1 := h.room (h.epx hx)
  exact ⟨h.quiet, h.pend, by show o.ep < _; have := h.ep; omega, h.ok, h.ord, by show ((1 + evLen o.evs : Nat) : Int) + leftSum (sagasOf o.R) ≤ o.d.blocks.length; rw [h.len]; exact h1, by show o.d.blocks.length ≤ 1000; rw [h.len]; have := h.nl; omega, (h.eng e hx).1⟩
theorem RDok.engJ {m : Nat} {o : RD} {e : EngR} (h : RDok m o) (hx : o.x = some e) : EngJ (o.st e) o.evs := ⟨h.je (by have := h.fits (h.epx hx); omega), h.epx hx, rfl, h.core, h.cap⟩
theorem RDok.lenR {m : Nat} {o : RD} (h : RDok m o) : o.R.length ≤ 1000 := by
  have := len_of_ord (sagasOf o.R) 0 1000 h.ord (fun g hg => by have := h.ok g hg; exact ⟨by have := this.1; omega, this.2.1⟩) (by omega)
  simp [sagasOf] at this
  omega
theorem RDok.steps6 {m : Nat} {o : RD} (h : RDok m o) : ∀ r ∈ o.R, r.1.steps.length ≤ 6 := fun r hr => (h.ok r.1 (List.mem_map.2 ⟨r, hr, rfl⟩)).2.2.1.2.1
def RO : List Nat := [55, 193, 221]
theorem own_cells {w : World} {B e size n : Nat} {v : Value} {xs : List Value} (h : w.ownsRow B e size v n xs) {k : Nat} (hk : v.ownBlock = some k) : ∃ c, w.heap[k]? = some (.cells c e (0, 0)) := by
  rcases h.2 with ⟨rfl, _⟩ | ⟨g, cap, cur, rfl, hg, hh, r⟩
  · simp [Value.ownBlock] at hk
  · obtain rfl : g = k := by simpa [Value.ownBlock] using hk
    exact ⟨_, hh⟩
theorem RunAt.parts {w : World} {B : Nat} {o : RD} (h : RunAt w B o) : w.ownsRow o.p.lo 48 5 o.pl o.p.log.length (logCells o.p.log) ∧ w.ownsRow o.p.lo 46 4 o.pe o.p.effs.length (effCells o.p.effs) ∧ IntsAt w o.pi o.p.l := by
  obtain ⟨⟨lv, ev, iv, C, h1, h2, h3, h4, h5, h6⟩⟩ := h.pt
  have h0 := h.ps
  rw [h1] at h0
  simp only [Option.some.injEq, Obj.cells.injEq, Array.mk.injEq, List.cons.injEq] at h0
  obtain ⟨⟨rfl, rfl, rfl, _⟩, _⟩ := h0
  obtain ⟨_, rfl, _⟩ := h5
  exact ⟨h2, h3, h4⟩
/-- What the disk's own blocks hold. -/
theorem RunAt.kinds {w : World} {B : Nat} {o : RD} (h : RunAt w B o) {k : Nat} (hk : o.own k) : ∃ ob, w.heap[k]? = some ob ∧ kindOf ob ∈ [166, 103, 104, 45, 224, 49, 47, 4, 80, 133, 0, 89] := by
  obtain ⟨h1, h2, h3⟩ := h.parts
  obtain ⟨_, _, _, _, e1, e2, _⟩ := h.dk
  rcases hk with rfl | rfl | rfl | rfl | hk | hk | hk | ⟨a, n, c, ha, rfl⟩ | ⟨e, he, hk⟩
  · exact ⟨_, h.st, by simp [kindOf]⟩
  · exact ⟨_, e1, by simp [kindOf]⟩
  · exact ⟨_, e2, by simp [kindOf]⟩
  · exact ⟨_, h.ps, by simp [kindOf]⟩
  · obtain ⟨c, hc⟩ := own_cells h.ref.own hk
    exact ⟨_, hc, by simp [kindOf]⟩
  · obtain ⟨c, hc⟩ := own_cells h1 hk
    exact ⟨_, hc, by simp [kindOf]⟩
  · obtain ⟨c, hc⟩ := own_cells h2 hk
    exact ⟨_, hc, by simp [kindOf]⟩
  · rcases h3 with ⟨hl, _⟩ | ⟨b, off, cap, c', e3, e4, _⟩
    · have := h.pi hl
      rw [ha] at this; cases this
    · rw [ha] at e3
      simp only [Value.slice.injEq, Option.some.injEq] at e3
      obtain ⟨rfl, _⟩ := e3
      exact ⟨_, e4, by simp [kindOf]⟩
  · obtain ⟨hs, _⟩ := h.eng e he
    rcases hk with rfl | rfl | rfl | hk
    · exact ⟨_, hs.eng, by simp [kindOf]⟩
    · exact ⟨_, hs.jn, by simp [kindOf]⟩
    · obtain ⟨es, clock, hb, _⟩ := hs.mp
      exact ⟨_, hb, by simp [kindOf]⟩
    · obtain ⟨i, hi⟩ := List.getElem?_of_mem hk
      have hil := (List.getElem?_eq_some_iff.1 hi).1
      rw [hs.len] at hil
      obtain ⟨_, e1, _⟩ := hs.sg i _ k (List.getElem?_eq_getElem hil) hi
      exact ⟨_, e1, by simp [kindOf]⟩
theorem RunAt.lt {w : World} {B : Nat} {o : RD} (h : RunAt w B o) {k : Nat} (hk : o.own k) : k < w.heap.size := by
  obtain ⟨ob, h1, _⟩ := h.kinds hk
  exact lt_of_hp h1
theorem RunAt.kRO {w : World} {B : Nat} {o : RD} (h : RunAt w B o) {k : Nat} (hk : o.own k) : ∃ ob, w.heap[k]? = some ob ∧ kindOf ob ∉ RO := by
  obtain ⟨ob, h1, h2⟩ := h.kinds hk
  refine ⟨ob, h1, fun h3 => ?_⟩
  simp [RO] at h2 h3
  omega
theorem SagaAt.fr {w w' : World} {b : Nat} {g : SagaM} {S : Nat → Prop} (h : SagaAt w b g) (hf : Fr S w w') (hb : ¬ S b) (hS : ∀ k, S k → ∃ ob, w.heap[k]? = some ob ∧ kindOf ob ∉ RO) : SagaAt w' b g :=
  h.frame hf (fun k hk => ⟨fun e => hb (e ▸ hk), by
    obtain ⟨ob, h1, h2⟩ := hS k hk
    exact ⟨ob, h1, fun e => h2 (by rw [e]; simp [RO])⟩⟩)
theorem map_fr {w w' : World} {S : Nat → Prop} {mb n : Nat} {D : DataW Unit} (h : w.ownsMap Tryz.prog 3 ptrR mb n D) (hf : Fr S w w') (h1 : ¬ S mb) : w'.ownsMap Tryz.prog 3 ptrR mb n D := by
  obtain ⟨es, clock, hb, r⟩ := h
  exact ⟨es, clock, hf.get hb h1, r⟩
theorem DiskAt.frP {w w' : World} {S : Nat → Prop} {db bb : Nat} {d : DiskM} (h : DiskAt w db bb d) (hf : Fr S w w') (hp : d.pend = none) (h1 : ¬ S db) (h2 : ¬ S bb) : DiskAt w' db bb d := by
  obtain ⟨hwf, cap, rest, cv, e1, e2, e3⟩ := h
  refine ⟨hwf, cap, rest, cv, hf.get e1 h1, hf.get e2 h2, ?_⟩
  rw [hp] at e3 ⊢; exact e3
/-- Nothing of the disk's own has turned. -/
theorem RunAt.fr {w w' : World} {B : Nat} {o : RD} {S : Nat → Prop} (h : RunAt w B o) (hp : o.d.pend = none) (hf : Fr S w w') (hS : ∀ k, S k → ¬ o.own k) (hR : ∀ k, S k → ∃ ob, w.heap[k]? = some ob ∧ kindOf ob ∉ RO) : RunAt w' B o := by
  have hn : ∀ k, o.own k → ¬ S k := fun k hk hs => hS k hs hk
  obtain ⟨p1, p2, p3⟩ := h.parts
  have hdb : ¬ S o.db := hn _ (.inr (.inl rfl))
  have hbb : ¬ S o.bb := hn _ (.inr (.inr (.inl rfl)))
  have hpb : ¬ S o.pb := hn _ (.inr (.inr (.inr (.inl rfl))))
  have hdk := h.dk.frP hf hp hdb hbb
  have hps := hf.get h.ps hpb
  have hpt : PAt w' o.pb o.p := by
    obtain ⟨⟨lv, ev, iv, C, h1, h2, h3, h4, h5, h6⟩⟩ := h.pt
    have h0 := h.ps
    rw [h1] at h0
    simp only [Option.some.injEq, Obj.cells.injEq, Array.mk.injEq, List.cons.injEq] at h0
    obtain ⟨⟨e1, e2, e3, _⟩, _⟩ := h0
    subst e1 e2 e3
    refine ⟨⟨_, _, _, C, hf.get h1 hpb, own_frS h2 hf (fun k hk => hn k (.inr (.inr (.inr (.inr (.inr (.inl hk))))))), own_frS h3 hf (fun k hk => hn k (.inr (.inr (.inr (.inr (.inr (.inr (.inl hk)))))))), ?_, ⟨Nat.le_trans h5.1 hf.size, h5.2⟩, h6⟩⟩
    rcases h4 with h4 | ⟨b, off, cap, c, e, e4, e5⟩
    · exact .inl h4
    · exact .inr ⟨b, off, cap, c, e, hf.get e4 (hn b (.inr (.inr (.inr (.inr (.inr (.inr (.inr (.inl ⟨_, _, _, e, rfl⟩))))))))), e5⟩
  refine ⟨hf.get h.st (hn _ (.inl rfl)), hdk, hps, hpt, h.pi, h.ref.fr hf (fun k hk => by obtain ⟨ob, h1, h2⟩ := hR k hk; exact ⟨ob, h1, fun e => h2 (by simp [RO] at e ⊢; omega)⟩) (fun k hk => hn k (.inr (.inr (.inr (.inr (.inl hk)))))), fun e he => ?_, h.lo⟩
  obtain ⟨hs, ha⟩ := h.eng e he
  have hx : ∀ k, (k = e.xb ∨ k = e.jb ∨ k = e.mb ∨ k ∈ e.bl) → ¬ S k := fun k hk => hn k (.inr (.inr (.inr (.inr (.inr (.inr (.inr (.inr ⟨e, he, hk⟩))))))))
  exact ⟨⟨hf.get hs.eng (hx _ (.inl rfl)), hf.get hs.jn (hx _ (.inr (.inl rfl))), hdk, hpt, map_fr hs.mp hf (hx _ (.inr (.inr (.inl rfl)))), hs.len, fun i g b hg hb => (hs.sg i g b hg hb).fr hf (hx _ (.inr (.inr (.inr (List.mem_of_getElem? hb))))) hR, hs.nd⟩, ha⟩
theorem RunAt.new {w w' : World} {B : Nat} {o : RD} (h : RunAt w B o) (hp : o.d.pend = none) (hf : New w w') : RunAt w' B o := h.fr hp hf (fun _ f => f.elim) (fun _ f => f.elim)
/-- What a step on a disk makes of it. -/
def Turned (w : World) (B m : Nat) (o : RD) (w' : World) : Prop := ∃ o', RunAt w' B o' ∧ RDok m o' ∧ (o'.kb = o.kb ∧ o'.db = o.db ∧ o'.bb = o.bb ∧ o'.pb = o.pb) ∧ (∀ k, o'.own k → o.own k ∨ w.heap.size ≤ k) ∧ Fr o.own w w'
theorem Turned.same {w w' : World} {B m k : Nat} {o : RD} (h : RunAt w B o) (hk : RDok k o) (hm : m ≤ k) (hf : New w w') : Turned w B m o w' :=
  ⟨o, h.new hk.pend hf, hk.less hm, ⟨rfl, rfl, rfl, rfl⟩, fun _ h => .inl h, hf.mono (fun _ _ f => f.elim)⟩
end Go.Proofs.YtkafmfdipmhleaaGreatDoor
