/-
  What is proved: the partner: what it asks and answers; the drawn regions of Ask.
-/
import Derived.Test.YtkafmfdipmhleaaGreatDoorSgb
import Derived.Test.YtkafmfdipmhleaaGreatDoorPrs
import Derived.Deep.AppendLies
namespace Go.Proofs.YtkafmfdipmhleaaGreatDoor
open Go.RowKit

/-- The region of a number, out of a body. -/
def regionAt (n : Nat) : Code → Option Code
  | .region m l b => if m = n then some (.region m l b) else none
  | .loop c => regionAt n c
  | .seq a b => match regionAt n a with
    | some c => some c
    | none => regionAt n b
  | .block _ c => regionAt n c
  | .scope c => regionAt n c
  | .cond _ a b => match regionAt n a with
    | some c => some c
    | none => regionAt n b
  | _ => none

def CallM.cells (c : CallM) : List Value := [.int .i64 c.saga, .int .i64 c.step, .bool c.back, .string c.data]
structure PartM where
  log : List (CallM × Int)
  effs : List CallM
  l : List Int
  at_ : Int
  /-- All that is its own lies from here on. -/
  lo : Nat
def logCells (l : List (CallM × Int)) : List Value := l.flatMap fun p => p.1.cells ++ [.int .i64 p.2]
def effCells (l : List CallM) : List Value := l.flatMap CallM.cells
/-- A slice whose numbers read as l. -/
def IntsAt (w : World) (v : Value) (l : List Int) : Prop :=
  (l = [] ∧ ∃ a c, v = .slice a 0 c) ∨ ∃ b off cap c, v = .slice (some ⟨b, off, none⟩) l.length cap ∧ w.heap[b]? = some (.cells c 3 (0, 0)) ∧ ∀ j x, l[j]? = some x → c[off + j]? = some (.int .i64 x)
theorem IntsAt.keep {w w' : World} {v : Value} {l : List Int} (h : IntsAt w v l) (hf : ∀ (k : Nat) (o : Obj), w.heap[k]? = some o → kindOf o = 4 → w'.heap[k]? = some o) : IntsAt w' v l := by
  rcases h with h | ⟨b, off, cap, c, e, h1, h2⟩
  · exact .inl h
  · exact .inr ⟨b, off, cap, c, e, hf b _ h1 rfl, h2⟩
structure PAt (w : World) (pb : Nat) (p : PartM) : Prop where
  ex : ∃ lv ev iv B, w.heap[pb]? = some (.cells #[lv, ev, iv, .int .i64 p.at_] 44 (0, 0)) ∧ w.ownsRow B 48 5 lv p.log.length (logCells p.log) ∧ w.ownsRow B 46 4 ev p.effs.length (effCells p.effs) ∧ IntsAt w iv p.l ∧ (B ≤ w.heap.size ∧ B = p.lo ∧ B ≤ pb) ∧ ∀ a m c, iv = .slice (some a) m c → a.block < pb
theorem Tryz.info46 : (Tryz.prog.info? 46).map (fun i => (i.zero, i.size, i.bytes)) = some (some (.agg #[.int .i64 0, .int .i64 0, .bool false, .string ⟨#[]⟩]), 4, 40) := by kernel_rfl
theorem Tryz.info48 : (Tryz.prog.info? 48).map (fun i => (i.zero, i.size, i.bytes)) = some (some (.agg #[.int .i64 0, .int .i64 0, .bool false, .string ⟨#[]⟩, .int .i64 0]), 5, 48) := by kernel_rfl
theorem own_lt {w : World} {base : Nat} {e : TypeId} {size : Nat} {v : Value} {n : Nat} {xs : List Value} (h : w.ownsRow base e size v n xs) {k : Nat} (hv : v.ownBlock = some k) : k < w.heap.size := (h.lt k hv).2
theorem call_one (c : CallM) : ∀ u ∈ c.cells, u.oneCell' = true := by
  intro u hu
  simp [CallM.cells] at hu
  rcases hu with rfl | rfl | rfl | rfl <;> rfl

noncomputable def ptR8 : Code := ((Tryz.f58.body).bind (regionAt 8)).getD .skip
noncomputable def ptR18 : Code := ((Tryz.f58.body).bind (regionAt 18)).getD .skip
noncomputable def ptR3 : Code := ((Tryz.f58.body).bind (regionAt 3)).getD .skip

set_option maxRecDepth 100000 in
set_option maxHeartbeats 4000000 in
/-- p.Effects = append(p.Effects, c). -/
theorem pt_r8 (pb cb : Nat) (c : CallM) (effs : List CallM) (lv ev iv atv : Value) (B : Nat) (W : World)
    (hp : W.heap[pb]? = some (.cells #[lv, ev, iv, atv] 44 (0, 0))) (hc : W.heap[cb]? = some (.cells c.cells.toArray 46 (0, 0))) (ho : W.ownsRow B 46 4 ev effs.length (effCells effs)) (hB : B ≤ W.heap.size)
    (hne : ev.ownBlock ≠ some cb) (hl : effs.length < 2 ^ 30)
    {ds : List Deferred} {x1 x2 x4 x5 x6 x7 x8 x9 x10 x11 x12 x13 x14 x15 x16 x17 x18 x19 x20 x21 x22 x23 x24 x25 x26 x27 x28 x29 x30 x31 x32 x33 x34 x35 x36 x37 x38 x39 x40 x41 x42 x43 x44 x45 x46 x47 x48 x49 x50 x51 x52 x53 x54 x55 x56 x57 x58 x59 x60 x61 x62 x63 x64 x65 x66 x67 x68 x69 x70 x71 x72 x73 x74 x75 x76 x77 x78 x79 x80 x81 x82 x83 x84 x85 x86 x87 x88 x89 : Value} {Q : Exit → Act → World → Prop}
    (hQ : ∀ (y41 y42 y43 y44 y45 y46 y47 y48 y49 y50 ev' : Value) (w' : World), Fr (fun k => k = pb ∨ ev.ownBlock = some k) W w' → w'.heap[pb]? = some (.cells #[lv, ev', iv, atv] 44 (0, 0)) → w'.ownsRow B 46 4 ev' (effs ++ [c]).length (effCells (effs ++ [c])) → (∀ k, ev'.ownBlock = some k → ev.ownBlock = some k ∨ W.heap.size ≤ k) → Q .normal ⟨#[.pointer (some ⟨pb, 0, none⟩), x1, x2, .pointer (some ⟨cb, 0, none⟩), x4, x5, x6, x7, x8, x9, x10, x11, x12, x13, x14, x15, x16, x17, x18, x19, x20, x21, x22, x23, x24, x25, x26, x27, x28, x29, x30, x31, x32, x33, x34, x35, x36, x37, x38, x39, x40, y41, y42, y43, y44, y45, y46, y47, y48, y49, y50, x51, x52, x53, x54, x55, x56, x57, x58, x59, x60, x61, x62, x63, x64, x65, x66, x67, x68, x69, x70, x71, x72, x73, x74, x75, x76, x77, x78, x79, x80, x81, x82, x83, x84, x85, x86, x87, x88, x89], ds⟩ w') :
    Code.wp Tryz.prog ptR8 Q ⟨#[.pointer (some ⟨pb, 0, none⟩), x1, x2, .pointer (some ⟨cb, 0, none⟩), x4, x5, x6, x7, x8, x9, x10, x11, x12, x13, x14, x15, x16, x17, x18, x19, x20, x21, x22, x23, x24, x25, x26, x27, x28, x29, x30, x31, x32, x33, x34, x35, x36, x37, x38, x39, x40, x41, x42, x43, x44, x45, x46, x47, x48, x49, x50, x51, x52, x53, x54, x55, x56, x57, x58, x59, x60, x61, x62, x63, x64, x65, x66, x67, x68, x69, x70, x71, x72, x73, x74, x75, x76, x77, x78, x79, x80, x81, x82, x83, x84, x85, x86, x87, x88, x89], ds⟩ W := by
  have hsh := own_slice ho
  obtain ⟨va, vm, vc, rfl⟩ := hsh
  have a1 : W.cell? ⟨pb, 1, none⟩ = some (.slice va vm vc) := by rw [cellv, hp]; rfl
  have f1 : W.frozen? ⟨pb, 1, none⟩ = false := by rw [frozv, hp]; rfl
  have c0 : W.cell? ⟨cb, 0, none⟩ = some (.int .i64 c.saga) := by rw [cellv, hc]; rfl
  have c1 : W.cell? ⟨cb, 1, none⟩ = some (.int .i64 c.step) := by rw [cellv, hc]; rfl
  have c2 : W.cell? ⟨cb, 2, none⟩ = some (.bool c.back) := by rw [cellv, hc]; rfl
  have c3 : W.cell? ⟨cb, 3, none⟩ = some (.string c.data) := by rw [cellv, hc]; rfl
  have hpe : (Value.slice va vm vc).ownBlock ≠ some pb := by
    intro e
    exact own_other ho hp (by simp [kindOf]) e
  have Hpb := Lib.hid hp
  have HF : Hid (∀ (w' : World), Fr (fun k => (Value.slice va vm vc).ownBlock = some k) W.drew w' → w'.heap[pb]? = some (.cells #[lv, .slice va vm vc, iv, atv] 44 (0, 0))) := fun w' hf => hf.get (w := W.drew) hp hpe
  obtain ⟨i46, hi46, hz46, hs46, hb46⟩ := info_parts Tryz.info46
  have hml : effs.length + 1 ≤ maxLen := by unfold maxLen; omega
  have hmb : (effs.length + 1) * 40 ≤ 140737488355328 := by omega
  have HO := Lib.hid ho
  have HQ := Lib.hid hQ
  have HB := Lib.hid hB
  clear hp hc ho hne hl hQ hB hpe
  conv => arg 2; whnf
  have hA : Hid (W.heap.size ≠ pb) := fun e => by have h := lt_of_hp Hpb.out; omega
  have hcell : ∀ (j : Nat) (u : Value), c.cells[j]? = some u → (W.drew.alloc (.cells c.cells.toArray 46)).cell? ((⟨W.heap.size, 0, none⟩ : Addr).add j) = some u := World.news_of_block (heap_alloc_new W.drew _)
  have Hcell := Lib.hid hcell
  clear hcell
  have aA : (W.alloc (.cells #[.int .i64 c.saga, .int .i64 c.step, .bool c.back, .string c.data] 46)).cell? ⟨pb, 1, none⟩ = some (.slice va vm vc) := by
    rw [cellv, heap_alloc_keep _ Hpb.out]; rfl
  refine wp_region_noPanic ?_
  go_region_law (first
    | (refine step_append_lies _ (by rfl) (.tmp 45) (.tmp 47) 42 (by rfl) B 46 i46 (.agg #[.int .i64 0, .int .i64 0, .bool false, .string ⟨#[]⟩]) 4 40 Tryz.underlying42 hi46 hz46 hs46 hb46 rfl (by omega) (.slice va vm vc) effs.length (effCells effs) (by rfl) ((ownsRow_drew HO.out).alloc _) ⟨W.heap.size, 0, none⟩ 1 1 c.cells (by rfl) rfl Hcell.out (call_one c) (by omega) hml hmb (Nat.le_trans HB.out (by simp)) _ rfl ?_; intro gq capq w3 hown3 hgrow3 hat3 hlt3; have hF3 := ((Fr.refl (fun k => (Value.slice va vm vc).ownBlock = some k) W.drew).alloc (.cells c.cells.toArray 46)).trans (Fr.ofGrown hgrow3); have hp3 := HF.out _ hF3; have hcv3 := cellv w3; have hfv3 := frozv w3)
    | fail)
  all_goals
    have hFa : Fr (fun k => k = pb ∨ (Value.slice va vm vc).ownBlock = some k) W w3 := (Fr.refl _ W).drew.trans (hF3.mono (fun _ _ h => .inr h))
    refine NoPanic.normal (HQ.out _ _ _ _ _ _ _ _ _ _ (.slice (some ⟨gq, 0, none⟩) (effs.length + 1) capq) _ (hFa.trans' (Fr.one pb w3 1 (.slice (some ⟨gq, 0, none⟩) (effs.length + 1) capq)) (fun _ _ e => .inl e)) ?_ ?_ ?_)
    · rw [hp_setCell, if_pos rfl, hp3]; rfl
    · have := ownsRow_fr hown3 (Fr.one pb w3 1 (.slice (some ⟨gq, 0, none⟩) (effs.length + 1) capq)) (by rintro k rfl; exact ⟨_, hp3, by simp [kindOf]⟩)
      rw [List.length_append, show effCells (effs ++ [c]) = effCells effs ++ c.cells by simp [effCells]]
      exact this
    · intro k hk
      simp only [Value.ownBlock, Option.some.injEq] at hk
      subst hk
      rcases hat3 with h | h
      · exact .inl h
      · right; rw [h]; simp
theorem ask_one (c : CallM) (rp : Int) : ∀ u ∈ c.cells ++ [Value.int .i64 rp], u.oneCell' = true := by
  intro u hu
  rw [List.mem_append] at hu
  rcases hu with h | h
  · exact call_one c u h
  · simp at h; subst h; rfl
set_option maxRecDepth 100000 in
set_option maxHeartbeats 4000000 in
/-- p.Log = append(p.Log, Asked{c, reply}). -/
theorem pt_r18 (pb cb : Nat) (c : CallM) (log : List (CallM × Int)) (rp : Int) (lv ev iv atv : Value) (B : Nat) (W : World)
    (hp : W.heap[pb]? = some (.cells #[lv, ev, iv, atv] 44 (0, 0))) (hc : W.heap[cb]? = some (.cells c.cells.toArray 46 (0, 0))) (ho : W.ownsRow B 48 5 lv log.length (logCells log)) (hB : B ≤ W.heap.size)
    (hne : lv.ownBlock ≠ some cb) (hl : log.length < 2 ^ 30)
    {ds : List Deferred} {x1 x2 x4 x5 x7 x8 x9 x10 x11 x12 x13 x14 x15 x16 x17 x18 x19 x20 x21 x22 x23 x24 x25 x26 x27 x28 x29 x30 x31 x32 x33 x34 x35 x36 x37 x38 x39 x40 x41 x42 x43 x44 x45 x46 x47 x48 x49 x50 x51 x52 x53 x54 x55 x56 x57 x58 x59 x60 x61 x62 x63 x64 x65 x66 x67 x68 x69 x70 x71 x72 x73 x74 x75 x76 x77 x78 x79 x80 x81 x82 x83 x84 x85 x86 x87 x88 x89 : Value} {Q : Exit → Act → World → Prop}
    (hQ : ∀ (y77 y78 y79 y80 y81 y82 y83 y84 y85 y86 y87 y88 lv' : Value) (w' : World), Fr (fun k => k = pb ∨ lv.ownBlock = some k) W w' → w'.heap[pb]? = some (.cells #[lv', ev, iv, atv] 44 (0, 0)) → w'.ownsRow B 48 5 lv' (log ++ [(c, rp)]).length (logCells (log ++ [(c, rp)])) → (∀ k, lv'.ownBlock = some k → lv.ownBlock = some k ∨ W.heap.size ≤ k) → Q .normal ⟨#[.pointer (some ⟨pb, 0, none⟩), x1, x2, .pointer (some ⟨cb, 0, none⟩), x4, x5, .int .i64 rp, x7, x8, x9, x10, x11, x12, x13, x14, x15, x16, x17, x18, x19, x20, x21, x22, x23, x24, x25, x26, x27, x28, x29, x30, x31, x32, x33, x34, x35, x36, x37, x38, x39, x40, x41, x42, x43, x44, x45, x46, x47, x48, x49, x50, x51, x52, x53, x54, x55, x56, x57, x58, x59, x60, x61, x62, x63, x64, x65, x66, x67, x68, x69, x70, x71, x72, x73, x74, x75, x76, y77, y78, y79, y80, y81, y82, y83, y84, y85, y86, y87, y88, x89], ds⟩ w') :
    Code.wp Tryz.prog ptR18 Q ⟨#[.pointer (some ⟨pb, 0, none⟩), x1, x2, .pointer (some ⟨cb, 0, none⟩), x4, x5, .int .i64 rp, x7, x8, x9, x10, x11, x12, x13, x14, x15, x16, x17, x18, x19, x20, x21, x22, x23, x24, x25, x26, x27, x28, x29, x30, x31, x32, x33, x34, x35, x36, x37, x38, x39, x40, x41, x42, x43, x44, x45, x46, x47, x48, x49, x50, x51, x52, x53, x54, x55, x56, x57, x58, x59, x60, x61, x62, x63, x64, x65, x66, x67, x68, x69, x70, x71, x72, x73, x74, x75, x76, x77, x78, x79, x80, x81, x82, x83, x84, x85, x86, x87, x88, x89], ds⟩ W := by
  have hsh := own_slice ho
  obtain ⟨va, vm, vc, rfl⟩ := hsh
  have a1 : W.cell? ⟨pb, 0, none⟩ = some (.slice va vm vc) := by rw [cellv, hp]; rfl
  have f1 : W.frozen? ⟨pb, 0, none⟩ = false := by rw [frozv, hp]; rfl
  have c0 : W.cell? ⟨cb, 0, none⟩ = some (.int .i64 c.saga) := by rw [cellv, hc]; rfl
  have c1 : W.cell? ⟨cb, 1, none⟩ = some (.int .i64 c.step) := by rw [cellv, hc]; rfl
  have c2 : W.cell? ⟨cb, 2, none⟩ = some (.bool c.back) := by rw [cellv, hc]; rfl
  have c3 : W.cell? ⟨cb, 3, none⟩ = some (.string c.data) := by rw [cellv, hc]; rfl
  have hpe : (Value.slice va vm vc).ownBlock ≠ some pb := by
    intro e
    exact own_other ho hp (by simp [kindOf]) e
  have Hpb := Lib.hid hp
  have HF : Hid (∀ (w' : World), Fr (fun k => (Value.slice va vm vc).ownBlock = some k) W.drew w' → w'.heap[pb]? = some (.cells #[.slice va vm vc, ev, iv, atv] 44 (0, 0))) := fun w' hf => hf.get (w := W.drew) hp hpe
  obtain ⟨i48, hi48, hz48, hs48, hb48⟩ := info_parts Tryz.info48
  have hml : log.length + 1 ≤ maxLen := by unfold maxLen; omega
  have hmb : (log.length + 1) * 48 ≤ 140737488355328 := by omega
  have HO := Lib.hid ho
  have HQ := Lib.hid hQ
  have HB := Lib.hid hB
  clear hp hc ho hne hl hQ hB hpe
  conv => arg 2; whnf
  have hA : Hid (W.heap.size ≠ pb) := fun e => by have h := lt_of_hp Hpb.out; omega
  have hcell : ∀ (j : Nat) (u : Value), (c.cells ++ [Value.int .i64 rp])[j]? = some u → (W.drew.alloc (.cells (c.cells ++ [Value.int .i64 rp]).toArray 48)).cell? ((⟨W.heap.size, 0, none⟩ : Addr).add j) = some u := World.news_of_block (heap_alloc_new W.drew _)
  have Hcell := Lib.hid hcell
  clear hcell
  have aA : (W.alloc (.cells #[.int .i64 c.saga, .int .i64 c.step, .bool c.back, .string c.data, .int .i64 rp] 48)).cell? ⟨pb, 0, none⟩ = some (.slice va vm vc) := by
    rw [cellv, heap_alloc_keep _ Hpb.out]; rfl
  refine wp_region_noPanic ?_
  go_region_law (first
    | (refine step_append_lies _ (by rfl) (.tmp 81) (.tmp 85) 41 (by rfl) B 48 i48 (.agg #[.int .i64 0, .int .i64 0, .bool false, .string ⟨#[]⟩, .int .i64 0]) 5 48 Tryz.underlying41 hi48 hz48 hs48 hb48 rfl (by omega) (.slice va vm vc) log.length (logCells log) (by rfl) ((ownsRow_drew HO.out).alloc _) ⟨W.heap.size, 0, none⟩ 1 1 (c.cells ++ [Value.int .i64 rp]) (by rfl) rfl Hcell.out (ask_one c rp) (by omega) hml hmb (Nat.le_trans HB.out (by simp)) _ rfl ?_; intro gq capq w3 hown3 hgrow3 hat3 hlt3; have hF3 := ((Fr.refl (fun k => (Value.slice va vm vc).ownBlock = some k) W.drew).alloc (.cells (c.cells ++ [Value.int .i64 rp]).toArray 48)).trans (Fr.ofGrown hgrow3); have hp3 := HF.out _ hF3; have hcv3 := cellv w3; have hfv3 := frozv w3)
    | fail)
  all_goals
    have hFa : Fr (fun k => k = pb ∨ (Value.slice va vm vc).ownBlock = some k) W w3 := (Fr.refl _ W).drew.trans (hF3.mono (fun _ _ h => .inr h))
    refine NoPanic.normal (HQ.out _ _ _ _ _ _ _ _ _ _ _ _ (.slice (some ⟨gq, 0, none⟩) (log.length + 1) capq) _ (hFa.trans' (Fr.one pb w3 0 (.slice (some ⟨gq, 0, none⟩) (log.length + 1) capq)) (fun _ _ e => .inl e)) ?_ ?_ ?_)
    · rw [hp_setCell, if_pos rfl, hp3]; rfl
    · have := ownsRow_fr hown3 (Fr.one pb w3 0 (.slice (some ⟨gq, 0, none⟩) (log.length + 1) capq)) (by rintro k rfl; exact ⟨_, hp3, by simp [kindOf]⟩)
      rw [List.length_append, show logCells (log ++ [(c, rp)]) = logCells log ++ (c.cells ++ [Value.int .i64 rp]) by simp [logCells]]
      exact this
    · intro k hk
      simp only [Value.ownBlock, Option.some.injEq] at hk
      subst hk
      rcases hat3 with h | h
      · exact .inl h
      · right; rw [h]; simp
end Go.Proofs.YtkafmfdipmhleaaGreatDoor
