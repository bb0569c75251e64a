/-
  What is proved: the engine's map of sagas: look-ups, a new saga, its keys in order; the engine's write.
-/
import Derived.Test.YtkafmfdipmhleaaGreatDoorEa
import Derived.Test.YtkafmfdipmhleaaGreatDoorSho
import Derived.Maps.OwnSet
import Derived.Maps.Views
import Derived.Maps.RangeWalk
namespace Go.Proofs.YtkafmfdipmhleaaGreatDoor
open Go.RowKit Go.Maps

/-- How a pointer to a saga reads: its block. -/
def ptrR : Value → Option (DataW Unit × List MemPlace)
  | .pointer (some ⟨b, 0, none⟩) => some (.lit (.int .i64 b), [])
  | .pointer none => some (.nil, [])
  | _ => none
theorem ptrR_inv {v : Value} {b : Nat} {ps : List MemPlace} (h : ptrR v = some (.lit (.int .i64 b), ps)) : v = .pointer (some ⟨b, 0, none⟩) := by
  unfold ptrR at h
  split at h
  · rename_i b'
    simp at h
    obtain ⟨h, _⟩ := h
    obtain rfl : b' = b := by omega
    rfl
  · simp at h
  · cases h
theorem ptrR_nil {v : Value} {ps : List MemPlace} (h : ptrR v = some (.nil, ps)) : v = .pointer none := by
  unfold ptrR at h
  split at h
  · simp at h
  · rfl
  · cases h
def dataOf (L : List (Int × Nat)) : DataW Unit := .map (L.map fun p => (Lit.int .i64 p.1, DataW.lit (.int .i64 p.2)))
def blkOfId (L : List (Int × Nat)) (id : Int) : Option Nat := (L.find? fun p => decide (p.1 = id)).map (·.2)
theorem dataOf_at (L : List (Int × Nat)) (id : Int) : (dataOf L).atKey (.int .i64 id) .nil = match blkOfId L id with | some b => .lit (.int .i64 b) | none => .nil := by
  induction L with
  | nil => rfl
  | cons a L ih =>
    simp only [dataOf, DataW.atKey, blkOfId, List.map_cons, List.find?_cons] at ih ⊢
    by_cases h : a.1 = id
    · simp [Lit.sameKey, h]
    · have h1 : Lit.sameKey (.int .i64 a.1) (.int .i64 id) = false := by simp [Lit.sameKey, h]
      rw [h1, decide_eq_false h]
      exact ih
theorem Tryz.zero82 (w : World) : (zeroValue 82).run Tryz.prog w = .ok (.pointer none) w := Tryz.zeroValue82 w
theorem keyI (id : Int) (h : -9223372036854775808 ≤ id ∧ id ≤ 9223372036854775807) : keyOf Tryz.prog 3 (.int .i64 id) = some (.int .i64 id) := keyOf_int_mk Tryz.underlying3 (WalkArith.wf_i64 h)
theorem look_some {w : World} {mb n : Nat} {L : List (Int × Nat)} (h : w.ownsMap Tryz.prog 3 ptrR mb n (dataOf L)) (id : Int) (hid : -9223372036854775808 ≤ id ∧ id ≤ 9223372036854775807) {b : Nat} (hb : blkOfId L id = some b) :
    (Instr.lookup 76 (.map (some mb)) (.int .i64 id) false).run Tryz.prog w = .ok (.pointer (some ⟨b, 0, none⟩)) w := by
  obtain ⟨v, ps, hrun, hv⟩ := h.lookup (int_keyed Tryz.underlying3) Tryz.underlying76 (Tryz.zero82 w) (zd := .nil) (zp := []) rfl (keyI id hid)
  rw [dataOf_at, hb] at hv
  rw [hrun, ptrR_inv hv]
theorem look_none {w : World} {mb n : Nat} {L : List (Int × Nat)} (h : w.ownsMap Tryz.prog 3 ptrR mb n (dataOf L)) (id : Int) (hid : -9223372036854775808 ≤ id ∧ id ≤ 9223372036854775807) (hb : blkOfId L id = none) :
    (Instr.lookup 76 (.map (some mb)) (.int .i64 id) false).run Tryz.prog w = .ok (.pointer none) w := by
  obtain ⟨v, ps, hrun, hv⟩ := h.lookup (int_keyed Tryz.underlying3) Tryz.underlying76 (Tryz.zero82 w) (zd := .nil) (zp := []) rfl (keyI id hid)
  rw [dataOf_at, hb] at hv
  rw [hrun, ptrR_nil hv]
def insIL (x : Int × Nat) : List (Int × Nat) → List (Int × Nat)
  | [] => [x]
  | y :: r => if x.1 < y.1 then x :: y :: r else y :: insIL x r
theorem dataOf_put (L : List (Int × Nat)) (id : Int) (b : Nat) (h : blkOfId L id = none) : (dataOf L).put (.int .i64 id) (.lit (.int .i64 b)) = dataOf (insIL (id, b) L) := by
  have hno : ∀ p ∈ L, p.1 ≠ id := by
    intro p hp e
    simp only [blkOfId, Option.map_eq_none_iff, List.find?_eq_none] at h
    exact h p hp (by simp [e])
  have hf : (L.map fun p => ((Lit.int .i64 p.1, DataW.lit (.int .i64 p.2)) : Lit × DataW Unit)).filter (fun p => !p.1.sameKey (.int .i64 id)) = L.map fun p => (Lit.int .i64 p.1, DataW.lit (.int .i64 p.2)) := by
    rw [List.filter_eq_self]
    intro p hp
    rw [List.mem_map] at hp
    obtain ⟨q, hq, rfl⟩ := hp
    simp [Lit.sameKey, hno q hq]
  unfold dataOf DataW.put
  simp only [hf]
  congr 1
  clear hf hno h
  induction L with
  | nil => rfl
  | cons a L ih =>
    simp only [List.map_cons, DataW.insert, insIL, Lit.before]
    by_cases h : id < a.1
    · simp [h]
    · simp [h]; exact ih
theorem intKeys_dataOf (L : List (Int × Nat)) : intKeys (dataOf L) = L.map (·.1) := by
  simp only [intKeys, dataOf, List.map_map]
  exact List.map_congr_left (fun p _ => rfl)
theorem size_dataOf (L : List (Int × Nat)) : Maps.size (dataOf L) = L.length := by simp [Maps.size, dataOf]

def WritePost2 (w : World) (xb jb db bb mb : Nat) (pause clock : Int) (cv : Value) (j : JnM) (d : DiskM) (rs : List RecM) (e : Ending) (w' : World) : Prop :=
  e = .returned .nilIface ∧ Fr (fun k => k = db ∨ k = bb ∨ k = jb ∨ k = xb) w w' ∧ DiskAt w' db bb ((settleD j d).append j.epoch j.en rs) ∧ JnAt w' jb db ⟨j.epoch, j.en + rs.length, false⟩ ∧ w'.heap[xb]? = some (.cells (egCells jb mb pause cv clock false) 79 (0, 0))
set_option maxRecDepth 100000 in
set_option maxHeartbeats 2000000 in
theorem write_calls {w : World} {xb jb db bb mb lb n cap : Nat} {pause clock : Int} {cv : Value} {j : JnM} {d : DiskM} {rs : List RecM}
    (hx : w.heap[xb]? = some (.cells (egCells jb mb pause cv clock false) 79 (0, 0))) (hj : JnAt w jb db j) (h : DiskAt w db bb d) (hq : d.quiet) (hp : d.pend = none) (hl : RecsAt w lb rs) (hn : n = rs.length)
    (hep : j.epoch < 2 ^ 32) (hroom : j.en + rs.length ≤ d.blocks.length) (hb : d.blocks.length ≤ 1000) :
    Calls Tryz.prog 46 #[.pointer (some ⟨xb, 0, none⟩), .slice (some ⟨lb, 0, none⟩) n cap] w (WritePost2 w xb jb db bb mb pause clock cv j d rs) := by
  have hxne : xb ≠ db ∧ xb ≠ bb ∧ xb ≠ jb := by
    obtain ⟨_, _, _, _, h1, h2, _⟩ := h
    exact ⟨ne_of_kind hx h1 (by simp [kindOf]), ne_of_kind hx h2 (by simp [kindOf]), ne_of_kind hx hj (by simp [kindOf])⟩
  have HA := Lib.hid (Append_calls (cap := cap) hj h hq hp hl hn hep hroom hb)
  have Hne := Lib.hid hxne
  have Hx := Lib.hid hx
  simp only [egCells] at hx
  clear h hj hq hp hl hn hep hroom hb hxne
  have hcv := cellv w
  go_enter Tryz.func46, Tryz.ntmps46
  go_upto_region 2 with (first
    | (go_at_call 65; refine Calls.mono HA.out ?_; rintro e w2 ⟨rfl, hf2, hd2, hj2⟩)
    | fail)
  have hx2 := hf2.get Hx.out (by have := Hne.out; omega)
  have Hf2 := Lib.hid hf2
  have Hd2 := Lib.hid hd2
  have Hj2 := Lib.hid hj2
  have Hx2 := Lib.hid hx2
  simp only [egCells] at hx2
  clear hcv hx hf2 hd2 hj2
  have hcv := cellv w2
  have hfv := frozv w2
  go_wp2_with fail
  go_ret
  have hs : Fr (· = xb) w2 (w2.setCell ⟨xb, 5, none⟩ (.bool false)) := Fr.one _ _ _ _
  have hK : ∀ k, k = xb → k ≠ db ∧ k ≠ bb ∧ ∃ o, w2.heap[k]? = some o ∧ kindOf o ≠ 108 := by rintro k rfl; exact ⟨Hne.out.1, Hne.out.2.1, _, hx2, by simp [kindOf]⟩
  refine ⟨rfl, (Hf2.out.mono (fun k _ e => by rcases e with e | e | e <;> simp [e])).setCell (b := xb) (fun _ => .inr (.inr (.inr rfl))) 5 _, Hd2.out.frame hs hK, ?_, ?_⟩
  · exact hs.get Hj2.out (fun e => Hne.out.2.2 e.symm)
  · rw [hp_setCell, if_pos rfl, Hx2.out]; simp [egCells]
end Go.Proofs.YtkafmfdipmhleaaGreatDoor
