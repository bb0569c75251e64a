/-
  What is proved: a Submit and a Tick on a disk that tells no errors, and the journal behind a Submit and a Tick on whatever disk. (No program in sight.) what holds of a journal and of a partner, whatever the disk tells and whenever power fails. (No program in sight.) a disk of the script, its journal empty or none: Format. what the caller owns of a script's world: the drawn regions. a disk more in a script's world: the drawn region. a disk of the script: Open, and what is found. a disk of the script: what Open answers is the document's answer. a script's world, and a step on what the caller owns. a disk more in a script's world, its partner too: the drawn region. the partner's Ask, and the engine that asks it: which blocks turn. the contract of a Submit that is refused, or that is no new one.
-/
import Derived.Test.YtkafmfdipmhleaaGreatDoorRy6
import Derived.BigQuiet
import Derived.Deep.AppendLies

namespace Go.Proofs.YtkafmfdipmhleaaGreatDoor
open Go.RowKit Go.Maps
theorem sureG_quiet {d : DiskM} (h : d.quiet) (i : Nat) (l : List UInt8) : d.sureG i l = (d.sure i l, true) := by
  unfold DiskM.sureG
  rw [h.bad, (h.put i l).bad]; rfl
theorem appendG_quiet {d : DiskM} (h : d.quiet) (ep ix : Nat) (rs : List RecM) : d.appendG ep ix rs = (d.append ep ix rs, true) := by
  induction rs generalizing d ix with
  | nil => rfl
  | cons r rs ih =>
    simp only [DiskM.appendG, sureG_quiet h, if_true]
    rw [ih (d := d.sure ix _) ((h.put _ _).flush)]; rfl
theorem appendA_quiet {d : DiskM} (h : d.quiet) (j : JnM) (rs : List RecM) : d.appendA j rs = ((settleD j d).append j.epoch j.en rs, true) := by
  unfold DiskM.appendA
  rw [if_neg (by rintro ⟨_, e⟩; rw [h.bad] at e; cases e), appendG_quiet (settle_quiet _ _ h)]
end Go.Proofs.YtkafmfdipmhleaaGreatDoor

namespace Go.Proofs.YtkafmfdipmhleaaGreatDoor
open Go.RowKit Go.Maps
/-- A disk's counts grow by k at most. -/
def Grew (k : Nat) (d d' : DiskM) : Prop := (0 ≤ d.calls → d.calls + k ≤ 2 ^ 41 → 0 ≤ d'.calls ∧ d'.calls ≤ d.calls + k) ∧ d'.off = d.off
theorem Grew.refl (d : DiskM) : Grew 0 d d := ⟨fun h _ => ⟨h, by omega⟩, rfl⟩
theorem Grew.trans {a b : Nat} {d e f : DiskM} (h1 : Grew a d e) (h2 : Grew b e f) : Grew (a + b) d f :=
  ⟨fun h0 h => by
    obtain ⟨a1, a2⟩ := h1.1 h0 (by omega)
    obtain ⟨b1, b2⟩ := h2.1 a1 (by omega)
    exact ⟨b1, by omega⟩, h2.2.trans h1.2⟩
theorem Grew.mono {a b : Nat} {d e : DiskM} (h : Grew a d e) (hab : a ≤ b) : Grew b d e :=
  ⟨fun h0 h1 => by obtain ⟨a1, a2⟩ := h.1 h0 (by omega); exact ⟨a1, by omega⟩, h.2⟩
theorem Grew.count (d : DiskM) : Grew 1 d d.count := ⟨fun h0 h => by
  have : d.count.calls = d.calls + 1 := wrap_in _ (by omega)
  rw [this]; omega, rfl⟩
theorem Grew.put (d : DiskM) (i : Nat) (l : List UInt8) : Grew 1 d (d.put i l) := Grew.count d
theorem Grew.flush (d : DiskM) : Grew 1 d d.flush := Grew.count d
theorem Grew.settle (j : JnM) (d : DiskM) : Grew 1 d (settleD j d) := by
  unfold settleD; split
  · exact Grew.flush d
  · exact (Grew.refl d).mono (by omega)
theorem Grew.sureG (d : DiskM) (i : Nat) (l : List UInt8) : Grew 2 d (d.sureG i l).1 := by
  unfold DiskM.sureG; split
  · exact (Grew.count d).mono (by omega)
  · split
    · exact (Grew.put d i l).trans (Grew.count _)
    · exact (Grew.put d i l).trans (Grew.flush _)
theorem Grew.appendG (d : DiskM) (ep ix : Nat) (rs : List RecM) : Grew (2 * rs.length) d (d.appendG ep ix rs).1 := by
  induction rs generalizing d ix with
  | nil => exact Grew.refl d
  | cons r rs ih =>
    simp only [DiskM.appendG]
    split
    · exact ((Grew.sureG d ix _).trans (ih _ _)).mono (by rw [List.length_cons]; omega)
    · exact (Grew.sureG d ix _).mono (by rw [List.length_cons]; omega)
theorem Grew.appendA (d : DiskM) (j : JnM) (rs : List RecM) : Grew (1 + 2 * rs.length) d (d.appendA j rs).1 := by
  unfold DiskM.appendA; split
  · exact (Grew.count d).mono (by omega)
  · exact (Grew.settle j d).trans (Grew.appendG _ _ _ _)
end Go.Proofs.YtkafmfdipmhleaaGreatDoor

namespace Go.Proofs.YtkafmfdipmhleaaGreatDoor
open Go.RowKit Go.Maps
def hdrE (ep : Nat) : List UInt8 := padB (recBytes ⟨1, ep, 0, 0, 0, []⟩)
theorem parse_hdrE (ep : Nat) (he : ep < 2 ^ 32) : parseM (hdrE ep) = some (⟨1, ep, 0, 0, 0, []⟩, true) := by
  unfold hdrE
  rw [pad_short _ (by show (1 : Nat) ≠ 2; decide)]
  exact parse_short _ _ ⟨by show 1 < 256; omega, he, by show 0 < 65536; omega, by show 0 < 65536; omega, by show 0 < 256; omega, fun _ => rfl, fun h => by (cases h)⟩ (by show (1 : Nat) ≠ 2; decide) (by show 1 ≤ 1 ∧ 1 ≤ 4; decide)
set_option maxHeartbeats 1000000 in
theorem fits109 {w : World} {kb : Nat} {cs : Array Value} {n : Nat} (h : w.heap[kb]? = some (.cells cs 165 (0, 0))) (hn : cs[2]? = some (.int .i64 n)) :
    Calls Tryz.prog 109 #[.pointer (some ⟨kb, 0, none⟩)] w fun e w' => e = .returned (.bool (decide (8 ≤ n) && decide (n ≤ 400))) ∧ w = w' := by
  have a2 : w.cell? ⟨kb, 2, none⟩ = some (.int .i64 n) := by rw [cellv, h, cellOf_cells]; exact hn
  clear h hn
  by_cases h1 : 8 ≤ n
  · have h1I : (8 : Int) ≤ n := by omega
    by_cases h2 : n ≤ 400
    · have h2I : (n : Int) ≤ 400 := by omega
      go_enter Tryz.func109, Tryz.ntmps109
      go_wp2_with fail
      go_ret
      exact ⟨by simp [h1, h2], rfl⟩
    · have h2I : ¬ (n : Int) ≤ 400 := by omega
      go_enter Tryz.func109, Tryz.ntmps109
      go_wp2_with fail
      go_ret
      exact ⟨by simp [h1, h2], rfl⟩
  · have h1I : ¬ (8 : Int) ≤ n := by omega
    go_enter Tryz.func109, Tryz.ntmps109
    go_wp2_with fail
    go_ret
    exact ⟨by simp [h1], rfl⟩
set_option maxRecDepth 100000 in
set_option maxHeartbeats 2000000 in
theorem pFormat_size {w : World} {db bb : Nat} {d : DiskM} (h : DiskAt w db bb d) (hl : d.fits = false) :
    Calls Tryz.prog 39 #[.pointer (some ⟨db, 0, none⟩)] w (FailPost w fmtStr 7) := by
  have HF := Lib.hid (fits_calls h)
  rw [hl] at HF
  clear h hl
  have key : Hid (Calls Tryz.prog 61 #[.iface 27 (.pointer (some ⟨db, 0, none⟩))] w (FailPost w fmtStr 7)) := by
    show Calls _ _ _ _ _
    go_enter Tryz.func61, Tryz.ntmps61
    go_wp2_with (first
      | (go_at_call 79; refine Calls.mono HF.out ?_; rintro e w2 ⟨rfl, rfl⟩)
      | (go_at_call 40; refine Calls.mono (fail_calls w fmtStr 7) ?_; rintro e w2 ⟨v, rfl, hv, hf2⟩)
      | fail)
    go_ret
    exact ⟨v, rfl, hv, hf2⟩
  go_enter Tryz.func39, Tryz.ntmps39
  go_wp2_with (first
    | (go_at_call 61; refine Calls.mono key.out ?_; rintro e w2 ⟨v, rfl, hv, hf2⟩)
    | fail)
  go_ret
  exact ⟨v, rfl, hv, hf2⟩
end Go.Proofs.YtkafmfdipmhleaaGreatDoor

namespace Go.Proofs.YtkafmfdipmhleaaGreatDoor
open Go.RowKit Go.Maps
noncomputable def owR4 : Code := ((Tryz.f85.body).bind (regionAt 4)).getD .skip
noncomputable def owR8 : Code := ((Tryz.f85.body).bind (regionAt 8)).getD .skip
set_option maxRecDepth 100000 in
set_option maxHeartbeats 4000000 in
/-- w.keep = append(w.keep, o.A) -/
theorem ow_r4 (wb ob : Nat) (x : Int) (c0 c1 c3 c4 c5 : Value) (ks : List Int) (kv rv sv dv fv : Value) (B : Nat) (W : World)
    (hp : W.heap[wb]? = some (.cells #[kv, rv, sv, dv, fv] 118 (0, 0))) (hc : W.heap[ob]? = some (.cells #[c0, c1, .int .i64 x, c3, c4, c5] 112 (0, 0))) (ho : W.ownsRow B 3 1 kv ks.length (ks.map encZ)) (hB : B ≤ W.heap.size) (hl : ks.length < 2 ^ 30)
    {ds : List Deferred} {x1 x2 x4 x5 x6 x7 x8 x9 x10 x11 x12 x13 x14 x15 x16 x17 x18 x19 x20 x21 x22 x23 x24 x25 x26 x27 x28 x29 x30 x31 x32 x33 x34 x35 x36 x37 x38 x39 x40 x41 x42 x43 x44 x45 x46 x47 x48 x49 x50 x51 x52 x53 x54 x55 x56 x57 x58 x59 x60 x61 x62 x63 x64 x65 x66 x67 x68 x69 x70 x71 x72 x73 x74 x75 x76 x77 x78 x79 x80 x81 x82 x83 x84 x85 x86 x87 x88 x89 x90 x91 x92 x93 x94 x95 x96 x97 : Value} {Q : Exit → Act → World → Prop}
    (hQ : ∀ (y11 y12 y13 y14 y15 y16 y17 y18 y19 y20 y21 kv' : Value) (w' : World), Fr (fun k => k = wb ∨ kv.ownBlock = some k) W w' → w'.heap[wb]? = some (.cells #[kv', rv, sv, dv, fv] 118 (0, 0)) → w'.ownsRow B 3 1 kv' (ks ++ [x]).length ((ks ++ [x]).map encZ) → (∀ k, kv'.ownBlock = some k → kv.ownBlock = some k ∨ W.heap.size ≤ k) → Q .normal ⟨#[.pointer (some ⟨wb, 0, none⟩), x1,x2, .pointer (some ⟨ob, 0, none⟩), x4,x5,x6,x7,x8,x9,x10,y11,y12,y13,y14,y15,y16,y17,y18,y19,y20,y21,x22,x23,x24,x25,x26,x27,x28,x29,x30,x31,x32,x33,x34,x35,x36,x37,x38,x39,x40,x41,x42,x43,x44,x45,x46,x47,x48,x49,x50,x51,x52,x53,x54,x55,x56,x57,x58,x59,x60,x61,x62,x63,x64,x65,x66,x67,x68,x69,x70,x71,x72,x73,x74,x75,x76,x77,x78,x79,x80,x81,x82,x83,x84,x85,x86,x87,x88,x89,x90,x91,x92,x93,x94,x95,x96,x97], ds⟩ w') :
    Code.wp Tryz.prog owR4 Q ⟨#[.pointer (some ⟨wb, 0, none⟩), x1,x2, .pointer (some ⟨ob, 0, none⟩), x4,x5,x6,x7,x8,x9,x10,x11,x12,x13,x14,x15,x16,x17,x18,x19,x20,x21,x22,x23,x24,x25,x26,x27,x28,x29,x30,x31,x32,x33,x34,x35,x36,x37,x38,x39,x40,x41,x42,x43,x44,x45,x46,x47,x48,x49,x50,x51,x52,x53,x54,x55,x56,x57,x58,x59,x60,x61,x62,x63,x64,x65,x66,x67,x68,x69,x70,x71,x72,x73,x74,x75,x76,x77,x78,x79,x80,x81,x82,x83,x84,x85,x86,x87,x88,x89,x90,x91,x92,x93,x94,x95,x96,x97], ds⟩ W := by
  have hsh := own_slice ho
  obtain ⟨va, vm, vc, rfl⟩ := hsh
  have a1 : W.cell? ⟨wb, 0, none⟩ = some (.slice va vm vc) := by rw [cellv, hp]; rfl
  have f1 : W.frozen? ⟨wb, 0, none⟩ = false := by rw [frozv, hp]; rfl
  have c2 : W.cell? ⟨ob, 2, none⟩ = some (.int .i64 x) := by rw [cellv, hc]; rfl
  have hpe : (Value.slice va vm vc).ownBlock ≠ some wb := by
    intro e
    exact own_other ho hp (by simp [kindOf]) e
  have Hpb := Lib.hid hp
  have HF : Hid (∀ (w' : World), Fr (fun k => (Value.slice va vm vc).ownBlock = some k) W.drew w' → w'.heap[wb]? = some (.cells #[.slice va vm vc, rv, sv, dv, fv] 118 (0, 0))) := fun w' hf => hf.get (w := W.drew) hp hpe
  obtain ⟨i3, hi3, hz3, hs3, hb3⟩ := info_parts Tryz.info3z
  have hml : ks.length + 1 ≤ maxLen := by unfold maxLen; omega
  have hmb : (ks.length + 1) * 8 ≤ 140737488355328 := by omega
  have HO := Lib.hid ho
  have HQ := Lib.hid hQ
  have HB := Lib.hid hB
  clear hp hc ho hl hQ hB hpe
  conv => arg 2; whnf
  have hA : Hid (W.heap.size ≠ wb) := fun e => by have h := lt_of_hp Hpb.out; omega
  have hcell : ∀ (j : Nat) (u : Value), [Value.int .i64 x][j]? = some u → (W.drew.alloc (.cells #[.int .i64 x] 3)).cell? ((⟨W.heap.size, 0, none⟩ : Addr).add j) = some u := World.news_of_block (heap_alloc_new W.drew _)
  have Hcell := Lib.hid hcell
  clear hcell
  have aA : (W.alloc (.cells #[.int .i64 x] 3)).cell? ⟨wb, 0, none⟩ = some (.slice va vm vc) := by
    rw [cellv, heap_alloc_keep _ Hpb.out]; rfl
  refine wp_region_noPanic ?_
  go_region_law (first
    | (refine step_append_lies _ (by rfl) (.tmp 15) (.tmp 18) 22 (by rfl) B 3 i3 (.int .i64 0) 1 8 Tryz.underlying22 hi3 hz3 hs3 hb3 rfl (by omega) (.slice va vm vc) ks.length (ks.map encZ) (by rfl) ((ownsRow_drew HO.out).alloc _) ⟨W.heap.size, 0, none⟩ 1 1 [Value.int .i64 x] (by rfl) rfl Hcell.out (by intro u hu; simp at hu; subst hu; rfl) (by omega) hml hmb (Nat.le_trans HB.out (by simp)) _ rfl ?_; intro gq capq w3 hown3 hgrow3 hat3 hlt3; have hF3 := ((Fr.refl (fun k => (Value.slice va vm vc).ownBlock = some k) W.drew).alloc (.cells #[.int .i64 x] 3)).trans (Fr.ofGrown hgrow3); have hp3 := HF.out _ hF3; have hcv3 := cellv w3; have hfv3 := frozv w3)
    | fail)
  all_goals
    have hFa : Fr (fun k => k = wb ∨ (Value.slice va vm vc).ownBlock = some k) W w3 := (Fr.refl _ W).drew.trans (hF3.mono (fun _ _ h => .inr h))
    refine NoPanic.normal (HQ.out _ _ _ _ _ _ _ _ _ _ _ (.slice (some ⟨gq, 0, none⟩) (ks.length + 1) capq) _ (hFa.trans' (Fr.one wb w3 0 (.slice (some ⟨gq, 0, none⟩) (ks.length + 1) capq)) (fun _ _ e => .inl e)) ?_ ?_ ?_)
    · rw [hp_setCell, if_pos rfl, hp3]; rfl
    · have := ownsRow_fr hown3 (Fr.one wb w3 0 (.slice (some ⟨gq, 0, none⟩) (ks.length + 1) capq)) (by rintro k rfl; exact ⟨_, hp3, by simp [kindOf]⟩)
      rw [List.length_append, List.map_append]
      exact this
    · intro k hk
      simp only [Value.ownBlock, Option.some.injEq] at hk
      subst hk
      rcases hat3 with h | h
      · exact .inl h
      · right; rw [h]; simp
set_option maxRecDepth 100000 in
set_option maxHeartbeats 4000000 in
/-- w.replies = append(w.replies, o.A) -/
theorem ow_r8 (wb ob : Nat) (x : Int) (c0 c1 c3 c4 c5 : Value) (ks : List Int) (kv rv sv dv fv : Value) (B : Nat) (W : World)
    (hp : W.heap[wb]? = some (.cells #[rv, kv, sv, dv, fv] 118 (0, 0))) (hc : W.heap[ob]? = some (.cells #[c0, c1, .int .i64 x, c3, c4, c5] 112 (0, 0))) (ho : W.ownsRow B 3 1 kv ks.length (ks.map encZ)) (hB : B ≤ W.heap.size) (hl : ks.length < 2 ^ 30)
    {ds : List Deferred} {x1 x2 x4 x5 x6 x7 x8 x9 x10 x11 x12 x13 x14 x15 x16 x17 x18 x19 x20 x21 x22 x23 x24 x25 x26 x27 x28 x29 x30 x31 x32 x33 x34 x35 x36 x37 x38 x39 x40 x41 x42 x43 x44 x45 x46 x47 x48 x49 x50 x51 x52 x53 x54 x55 x56 x57 x58 x59 x60 x61 x62 x63 x64 x65 x66 x67 x68 x69 x70 x71 x72 x73 x74 x75 x76 x77 x78 x79 x80 x81 x82 x83 x84 x85 x86 x87 x88 x89 x90 x91 x92 x93 x94 x95 x96 x97 : Value} {Q : Exit → Act → World → Prop}
    (hQ : ∀ (y29 y30 y31 y32 y33 y34 y35 y36 y37 y38 y39 kv' : Value) (w' : World), Fr (fun k => k = wb ∨ kv.ownBlock = some k) W w' → w'.heap[wb]? = some (.cells #[rv, kv', sv, dv, fv] 118 (0, 0)) → w'.ownsRow B 3 1 kv' (ks ++ [x]).length ((ks ++ [x]).map encZ) → (∀ k, kv'.ownBlock = some k → kv.ownBlock = some k ∨ W.heap.size ≤ k) → Q .normal ⟨#[.pointer (some ⟨wb, 0, none⟩), x1,x2, .pointer (some ⟨ob, 0, none⟩), x4,x5,x6,x7,x8,x9,x10,x11,x12,x13,x14,x15,x16,x17,x18,x19,x20,x21,x22,x23,x24,x25,x26,x27,x28,y29,y30,y31,y32,y33,y34,y35,y36,y37,y38,y39,x40,x41,x42,x43,x44,x45,x46,x47,x48,x49,x50,x51,x52,x53,x54,x55,x56,x57,x58,x59,x60,x61,x62,x63,x64,x65,x66,x67,x68,x69,x70,x71,x72,x73,x74,x75,x76,x77,x78,x79,x80,x81,x82,x83,x84,x85,x86,x87,x88,x89,x90,x91,x92,x93,x94,x95,x96,x97], ds⟩ w') :
    Code.wp Tryz.prog owR8 Q ⟨#[.pointer (some ⟨wb, 0, none⟩), x1,x2, .pointer (some ⟨ob, 0, none⟩), x4,x5,x6,x7,x8,x9,x10,x11,x12,x13,x14,x15,x16,x17,x18,x19,x20,x21,x22,x23,x24,x25,x26,x27,x28,x29,x30,x31,x32,x33,x34,x35,x36,x37,x38,x39,x40,x41,x42,x43,x44,x45,x46,x47,x48,x49,x50,x51,x52,x53,x54,x55,x56,x57,x58,x59,x60,x61,x62,x63,x64,x65,x66,x67,x68,x69,x70,x71,x72,x73,x74,x75,x76,x77,x78,x79,x80,x81,x82,x83,x84,x85,x86,x87,x88,x89,x90,x91,x92,x93,x94,x95,x96,x97], ds⟩ W := by
  have hsh := own_slice ho
  obtain ⟨va, vm, vc, rfl⟩ := hsh
  have a1 : W.cell? ⟨wb, 1, none⟩ = some (.slice va vm vc) := by rw [cellv, hp]; rfl
  have f1 : W.frozen? ⟨wb, 1, none⟩ = false := by rw [frozv, hp]; rfl
  have c2 : W.cell? ⟨ob, 2, none⟩ = some (.int .i64 x) := by rw [cellv, hc]; rfl
  have hpe : (Value.slice va vm vc).ownBlock ≠ some wb := by
    intro e
    exact own_other ho hp (by simp [kindOf]) e
  have Hpb := Lib.hid hp
  have HF : Hid (∀ (w' : World), Fr (fun k => (Value.slice va vm vc).ownBlock = some k) W.drew w' → w'.heap[wb]? = some (.cells #[rv, .slice va vm vc, sv, dv, fv] 118 (0, 0))) := fun w' hf => hf.get (w := W.drew) hp hpe
  obtain ⟨i3, hi3, hz3, hs3, hb3⟩ := info_parts Tryz.info3z
  have hml : ks.length + 1 ≤ maxLen := by unfold maxLen; omega
  have hmb : (ks.length + 1) * 8 ≤ 140737488355328 := by omega
  have HO := Lib.hid ho
  have HQ := Lib.hid hQ
  have HB := Lib.hid hB
  clear hp hc ho hl hQ hB hpe
  conv => arg 2; whnf
  have hA : Hid (W.heap.size ≠ wb) := fun e => by have h := lt_of_hp Hpb.out; omega
  have hcell : ∀ (j : Nat) (u : Value), [Value.int .i64 x][j]? = some u → (W.drew.alloc (.cells #[.int .i64 x] 3)).cell? ((⟨W.heap.size, 0, none⟩ : Addr).add j) = some u := World.news_of_block (heap_alloc_new W.drew _)
  have Hcell := Lib.hid hcell
  clear hcell
  have aA : (W.alloc (.cells #[.int .i64 x] 3)).cell? ⟨wb, 1, none⟩ = some (.slice va vm vc) := by
    rw [cellv, heap_alloc_keep _ Hpb.out]; rfl
  refine wp_region_noPanic ?_
  go_region_law (first
    | (refine step_append_lies _ (by rfl) (.tmp 33) (.tmp 36) 22 (by rfl) B 3 i3 (.int .i64 0) 1 8 Tryz.underlying22 hi3 hz3 hs3 hb3 rfl (by omega) (.slice va vm vc) ks.length (ks.map encZ) (by rfl) ((ownsRow_drew HO.out).alloc _) ⟨W.heap.size, 0, none⟩ 1 1 [Value.int .i64 x] (by rfl) rfl Hcell.out (by intro u hu; simp at hu; subst hu; rfl) (by omega) hml hmb (Nat.le_trans HB.out (by simp)) _ rfl ?_; intro gq capq w3 hown3 hgrow3 hat3 hlt3; have hF3 := ((Fr.refl (fun k => (Value.slice va vm vc).ownBlock = some k) W.drew).alloc (.cells #[.int .i64 x] 3)).trans (Fr.ofGrown hgrow3); have hp3 := HF.out _ hF3; have hcv3 := cellv w3; have hfv3 := frozv w3)
    | fail)
  all_goals
    have hFa : Fr (fun k => k = wb ∨ (Value.slice va vm vc).ownBlock = some k) W w3 := (Fr.refl _ W).drew.trans (hF3.mono (fun _ _ h => .inr h))
    refine NoPanic.normal (HQ.out _ _ _ _ _ _ _ _ _ _ _ (.slice (some ⟨gq, 0, none⟩) (ks.length + 1) capq) _ (hFa.trans' (Fr.one wb w3 1 (.slice (some ⟨gq, 0, none⟩) (ks.length + 1) capq)) (fun _ _ e => .inl e)) ?_ ?_ ?_)
    · rw [hp_setCell, if_pos rfl, hp3]; rfl
    · have := ownsRow_fr hown3 (Fr.one wb w3 1 (.slice (some ⟨gq, 0, none⟩) (ks.length + 1) capq)) (by rintro k rfl; exact ⟨_, hp3, by simp [kindOf]⟩)
      rw [List.length_append, List.map_append]
      exact this
    · intro k hk
      simp only [Value.ownBlock, Option.some.injEq] at hk
      subst hk
      rcases hat3 with h | h
      · exact .inl h
      · right; rw [h]; simp
end Go.Proofs.YtkafmfdipmhleaaGreatDoor

namespace Go.Proofs.YtkafmfdipmhleaaGreatDoor
open Go.RowKit Go.Maps
noncomputable def owR16 : Code := ((Tryz.f85.body).bind (regionAt 16)).getD .skip
def NewD (W w : World) (n : Nat) (dv : Value) : Prop := ∃ db bb, dv = .pointer (some ⟨db, 0, none⟩) ∧ W.heap.size ≤ db ∧ W.heap.size ≤ bb ∧ DiskAt w db bb (DiskM.new n)
theorem NewD.new {W w w' : World} {n : Nat} {dv : Value} (h : NewD W w n dv) (hf : New w w') : NewD W w' n dv := by
  obtain ⟨db, bb, h1, h2, h3, h4⟩ := h
  exact ⟨db, bb, h1, h2, h3, h4.new hf⟩
end Go.Proofs.YtkafmfdipmhleaaGreatDoor

namespace Go.Proofs.YtkafmfdipmhleaaGreatDoor
open Go.RowKit Go.Maps
noncomputable def opR6 : Code := ((Tryz.f89.body).bind (regionAt 6)).getD .skip
set_option maxRecDepth 100000 in
set_option maxHeartbeats 4000000 in
/-- x, err := plain.Open(d.d, pause, d.p) -/
theorem op_r6 (kb db pb : Nat) (pv : Value) (W : World) (R : Value → Value → World → Prop) (hc0 : W.cell? ⟨kb, 0, none⟩ = some (.pointer (some ⟨db, 0, none⟩))) (hc1 : W.cell? ⟨kb, 1, none⟩ = some (.pointer (some ⟨pb, 0, none⟩)))
    (hC : Calls Tryz.prog 30 #[.pointer (some ⟨db, 0, none⟩), pv, .pointer (some ⟨pb, 0, none⟩)] W.drew fun e w' => ∃ xv ev, e = .returned (.tuple #[xv, ev]) ∧ R xv ev w' ∧ w'.cell? ⟨kb, 0, none⟩ = some (.pointer (some ⟨db, 0, none⟩)) ∧ w'.cell? ⟨kb, 1, none⟩ = some (.pointer (some ⟨pb, 0, none⟩)))
    {ds : List Deferred} {x2 x3 x4 x5 x6 x7 x8 x9 x10 x11 x12 x13 x14 x15 x16 x17 x18 x19 x20 x21 x22 x23 x24 x25 x26 x27 x28 x29 x30 x31 x32 x33 x34 x35 x36 x37 x38 x39 x40 x41 x42 x43 x44 x45 x46 x47 x48 x49 x50 x51 x52 x53 x54 x55 x56 x57 x58 x59 x60 x61 x62 x63 x64 x65 x66 x67 x68 x69 x70 x71 x72 x73 x74 x75 x76 x77 x78 x79 x80 x81 x82 x83 x84 x85 x86 x87 x88 x89 x90 x91 x92 x93 x94 x95 x96 x97 x98 x99 x100 x101 x102 x103 x104 x105 x106 x107 x108 x109 x110 x111 x112 x113 x114 x115 x116 x117 x118 x119 x120 x121 x122 x123 x124 x125 x126 x127 x128 x129 x130 x131 x132 : Value} {Q : Exit → Act → World → Prop}
    (hQ : ∀ (y41 y42 y43 y44 y45 y46 y47 y48 y49 y50 y51 y52 y53 xv ev : Value) (w' : World), R xv ev w' → Q .normal ⟨#[.pointer (some ⟨kb, 0, none⟩), pv, x2,x3,x4,x5,x6,x7,x8, xv, ev, x11,x12,x13,x14,x15,x16,x17,x18,x19,x20,x21,x22,x23,x24,x25,x26,x27,x28,x29,x30,x31,x32,x33,x34,x35,x36,x37,x38,x39,x40,y41,y42,y43,y44,y45,y46,y47,y48,y49,y50,y51,y52,y53,x54,x55,x56,x57,x58,x59,x60,x61,x62,x63,x64,x65,x66,x67,x68,x69,x70,x71,x72,x73,x74,x75,x76,x77,x78,x79,x80,x81,x82,x83,x84,x85,x86,x87,x88,x89,x90,x91,x92,x93,x94,x95,x96,x97,x98,x99,x100,x101,x102,x103,x104,x105,x106,x107,x108,x109,x110,x111,x112,x113,x114,x115,x116,x117,x118,x119,x120,x121,x122,x123,x124,x125,x126,x127,x128,x129,x130,x131,x132], ds⟩ w') :
    Code.wp Tryz.prog opR6 Q ⟨#[.pointer (some ⟨kb, 0, none⟩), pv, x2,x3,x4,x5,x6,x7,x8,x9,x10,x11,x12,x13,x14,x15,x16,x17,x18,x19,x20,x21,x22,x23,x24,x25,x26,x27,x28,x29,x30,x31,x32,x33,x34,x35,x36,x37,x38,x39,x40,x41,x42,x43,x44,x45,x46,x47,x48,x49,x50,x51,x52,x53,x54,x55,x56,x57,x58,x59,x60,x61,x62,x63,x64,x65,x66,x67,x68,x69,x70,x71,x72,x73,x74,x75,x76,x77,x78,x79,x80,x81,x82,x83,x84,x85,x86,x87,x88,x89,x90,x91,x92,x93,x94,x95,x96,x97,x98,x99,x100,x101,x102,x103,x104,x105,x106,x107,x108,x109,x110,x111,x112,x113,x114,x115,x116,x117,x118,x119,x120,x121,x122,x123,x124,x125,x126,x127,x128,x129,x130,x131,x132], ds⟩ W := by
  have HQ := Lib.hid hQ
  have HC := Lib.hid hC
  clear hQ hC
  conv => arg 2; whnf
  refine wp_region_noPanic ?_
  refine wp_region_held_drew (S := (fun w' => w'.cell? ⟨kb, 0, none⟩ = some (.pointer (some ⟨db, 0, none⟩)) ∧ w'.cell? ⟨kb, 1, none⟩ = some (.pointer (some ⟨pb, 0, none⟩)))) (by kernel_rfl) ⟨hc0, hc1⟩ (fun hHeld => ?_)
  refine wpAnyH_take (i := 0) (v := ?vo0) rfl (by kernel_rfl) (by kernel_rfl) (by kernel_rfl) (fun _ _ _ h => h) (Or.inl ⟨by rfl, ?yo0⟩) hHeld ?ro0
  case yo0 => intro w hSw; (try dsimp only at hSw); go_simp; (try with_reducible rfl)
  simp only [List.getElem_toArray, List.getElem_cons_zero, List.getElem_cons_succ, Act.put, List.setIfInBounds_toArray, List.set_cons_zero, List.set_cons_succ]
  refine wpAnyH_take (i := 1) (v := ?vo1) rfl (by kernel_rfl) (by kernel_rfl) (by kernel_rfl) (fun _ _ _ h => h) (Or.inl ⟨by rfl, ?yo1⟩) hHeld ?ro1
  case yo1 => intro w hSw; (try dsimp only at hSw); go_simp; (try with_reducible rfl)
  simp only [List.getElem_toArray, List.getElem_cons_zero, List.getElem_cons_succ, Act.put, List.setIfInBounds_toArray, List.set_cons_zero, List.set_cons_succ]
  refine wpAnyH_take (i := 2) (v := ?vo2) rfl (by kernel_rfl) (by kernel_rfl) (by kernel_rfl) (fun _ _ _ h => h) (Or.inl ⟨by rfl, ?yo2⟩) hHeld ?ro2
  case yo2 => intro w hSw; (try dsimp only at hSw); go_simp; (try with_reducible rfl)
  simp only [List.getElem_toArray, List.getElem_cons_zero, List.getElem_cons_succ, Act.put, List.setIfInBounds_toArray, List.set_cons_zero, List.set_cons_succ]
  refine wpAnyH_take (i := 3) (v := ?vo3) rfl (by kernel_rfl) (by kernel_rfl) (by kernel_rfl) (fun _ _ _ h => h) (Or.inl ⟨by rfl, ?yo3⟩) hHeld ?ro3
  case yo3 => intro w hSw; (try dsimp only at hSw); go_simp; (try with_reducible rfl)
  simp only [List.getElem_toArray, List.getElem_cons_zero, List.getElem_cons_succ, Act.put, List.setIfInBounds_toArray, List.set_cons_zero, List.set_cons_succ]
  refine wpAnyH_take (i := 4) (v := ?vo4) rfl (by kernel_rfl) (by kernel_rfl) (by kernel_rfl) (fun _ _ _ h => h) (Or.inl ⟨by rfl, ?yo4⟩) hHeld ?ro4
  case yo4 => intro w hSw; (try dsimp only at hSw); go_simp; (try with_reducible rfl)
  simp only [List.getElem_toArray, List.getElem_cons_zero, List.getElem_cons_succ, Act.put, List.setIfInBounds_toArray, List.set_cons_zero, List.set_cons_succ]
  refine wpAnyH_take (i := 5) (v := ?vo5) rfl (by kernel_rfl) (by kernel_rfl) (by kernel_rfl) (fun _ _ _ h => h) (Or.inl ⟨by rfl, ?yo5⟩) hHeld ?ro5
  case yo5 => intro w hSw; (try dsimp only at hSw); go_simp; (try with_reducible rfl)
  simp only [List.getElem_toArray, List.getElem_cons_zero, List.getElem_cons_succ, Act.put, List.setIfInBounds_toArray, List.set_cons_zero, List.set_cons_succ]
  refine wpAnyH_take (i := 6) (v := ?vo6) rfl (by kernel_rfl) (by kernel_rfl) (by kernel_rfl) (fun _ _ _ h => h) (Or.inl ⟨by rfl, ?yo6⟩) hHeld ?ro6
  case yo6 => intro w hSw; (try dsimp only at hSw); go_simp; (try with_reducible rfl)
  simp only [List.getElem_toArray, List.getElem_cons_zero, List.getElem_cons_succ, Act.put, List.setIfInBounds_toArray, List.set_cons_zero, List.set_cons_succ]
  refine wpAnyH_take (i := 7) (v := ?vo7) rfl (by kernel_rfl) (by kernel_rfl) (by kernel_rfl) (fun _ _ _ h => h) (Or.inl ⟨by rfl, ?yo7⟩) hHeld ?ro7
  case yo7 => intro w hSw; (try dsimp only at hSw); go_simp; (try with_reducible rfl)
  simp only [List.getElem_toArray, List.getElem_cons_zero, List.getElem_cons_succ, Act.put, List.setIfInBounds_toArray, List.set_cons_zero, List.set_cons_succ]
  refine wpAnyH_take (i := 8) (v := ?vo8) rfl (by kernel_rfl) (by kernel_rfl) (by kernel_rfl) (fun _ _ _ h => h) (Or.inl ⟨by rfl, ?yo8⟩) hHeld ?ro8
  case yo8 => intro w hSw; (try dsimp only at hSw); go_simp; (try with_reducible rfl)
  simp only [List.getElem_toArray, List.getElem_cons_zero, List.getElem_cons_succ, Act.put, List.setIfInBounds_toArray, List.set_cons_zero, List.set_cons_succ]
  refine wpAnyH_ready (rs := [9]) (by kernel_rfl) (by simp) ?_
  refine AllReadyH.cons rfl (fun K hK => ?_) AllReadyH.nil
  go_simp
  go_at_call 30
  refine Calls.mono HC.out ?_
  rintro e w2 ⟨xv, ev, rfl, hR, hS2⟩
  refine Shut.out hK _ _ hS2 ?_
  clear hK K
  intro hHeld2
  clear hHeld
  try simp only [List.getElem_toArray, List.getElem_cons_zero, List.getElem_cons_succ, Act.put, List.setIfInBounds_toArray, List.set_cons_zero, List.set_cons_succ]
  refine wpAnyH_take (i := 10) (v := ?vp10) rfl (by kernel_rfl) (by kernel_rfl) (by kernel_rfl) (fun _ _ _ h => h) (Or.inl ⟨by rfl, ?yp10⟩) hHeld2 ?rp10
  case yp10 => intro w hSw; (try dsimp only at hSw); go_simp; (try with_reducible rfl)
  simp only [List.getElem_toArray, List.getElem_cons_zero, List.getElem_cons_succ, Act.put, List.setIfInBounds_toArray, List.set_cons_zero, List.set_cons_succ]
  refine wpAnyH_take (i := 11) (v := ?vp11) rfl (by kernel_rfl) (by kernel_rfl) (by kernel_rfl) (fun _ _ _ h => h) (Or.inl ⟨by rfl, ?yp11⟩) hHeld2 ?rp11
  case yp11 => intro w hSw; (try dsimp only at hSw); go_simp; (try with_reducible rfl)
  simp only [List.getElem_toArray, List.getElem_cons_zero, List.getElem_cons_succ, Act.put, List.setIfInBounds_toArray, List.set_cons_zero, List.set_cons_succ]
  refine wpAnyH_take (i := 12) (v := ?vp12) rfl (by kernel_rfl) (by kernel_rfl) (by kernel_rfl) (fun _ _ _ h => h) (Or.inl ⟨by rfl, ?yp12⟩) hHeld2 ?rp12
  case yp12 => intro w hSw; (try dsimp only at hSw); go_simp; (try with_reducible rfl)
  simp only [List.getElem_toArray, List.getElem_cons_zero, List.getElem_cons_succ, Act.put, List.setIfInBounds_toArray, List.set_cons_zero, List.set_cons_succ]
  refine wpAnyH_take (i := 13) (v := ?vp13) rfl (by kernel_rfl) (by kernel_rfl) (by kernel_rfl) (fun _ _ _ h => h) (Or.inl ⟨by rfl, ?yp13⟩) hHeld2 ?rp13
  case yp13 => intro w hSw; (try dsimp only at hSw); go_simp; (try with_reducible rfl)
  simp only [List.getElem_toArray, List.getElem_cons_zero, List.getElem_cons_succ, Act.put, List.setIfInBounds_toArray, List.set_cons_zero, List.set_cons_succ]
  refine wpAnyH_take (i := 14) (v := ?vp14) rfl (by kernel_rfl) (by kernel_rfl) (by kernel_rfl) (fun _ _ _ h => h) (Or.inl ⟨by rfl, ?yp14⟩) hHeld2 ?rp14
  case yp14 => intro w hSw; (try dsimp only at hSw); go_simp; (try with_reducible rfl)
  simp only [List.getElem_toArray, List.getElem_cons_zero, List.getElem_cons_succ, Act.put, List.setIfInBounds_toArray, List.set_cons_zero, List.set_cons_succ]
  refine wpAnyH_done (by kernel_rfl) ?_ _
  refine NoPanic.normal ?_
  exact HQ.out _ _ _ _ _ _ _ _ _ _ _ _ _ xv ev w2 hR
end Go.Proofs.YtkafmfdipmhleaaGreatDoor

namespace Go.Proofs.YtkafmfdipmhleaaGreatDoor
open Go.RowKit Go.Maps
def default_rec : RecM := ⟨0, 0, 0, 0, 0, []⟩
end Go.Proofs.YtkafmfdipmhleaaGreatDoor

namespace Go.Proofs.YtkafmfdipmhleaaGreatDoor
open Go.RowKit Go.Maps
/-- A step of a script. -/
structure OpM where
  k : Int
  x : Int
  a : Int
  b : Int
  s : ByteArray
  t : ByteArray
def OpM.cells (o : OpM) : Array Value := #[.int .i64 o.k, .int .i64 o.x, .int .i64 o.a, .int .i64 o.b, .string o.s, .string o.t]
def OpM.ok (o : OpM) : Prop := i64 o.k ∧ i64 o.x ∧ i64 o.a ∧ i64 o.b
theorem Tryz.info192 : (Tryz.prog.info? 192).map (fun i => (i.zero, i.size, i.bytes)) = some (some (.agg #[.string ⟨#[]⟩, .string ⟨#[]⟩]), 2, 32) := by kernel_rfl
theorem Tryz.info159 : (Tryz.prog.info? 159).map (fun i => (i.zero, i.size, i.bytes)) = some (some (.pointer none), 1, 8) := by kernel_rfl
theorem Tryz.info4b : (Tryz.prog.info? 4).map (fun i => (i.zero, i.size, i.bytes)) = some (some (.bool false), 1, 1) := by kernel_rfl
theorem own_frB {w w' : World} {B e size n : Nat} {v : Value} {xs : List Value} {S : Nat → Prop} (h : w.ownsRow B e size v n xs) (hf : Fr S w w') (hS : ∀ k, v.ownBlock = some k → ¬ S k) : w'.ownsRow B e size v n xs := by
  obtain ⟨h1, h2⟩ := h
  refine ⟨h1, ?_⟩
  rcases h2 with h2 | ⟨g, cap, cur, hv, hg, hh, r⟩
  · exact .inl h2
  · exact .inr ⟨g, cap, cur, hv, hg, hf.get hh (hS g (by rw [hv]; rfl)), r⟩
theorem own_baseM {w : World} {B C e size n : Nat} {v : Value} {xs : List Value} (h : w.ownsRow B e size v n xs) (hC : C ≤ B) : w.ownsRow C e size v n xs := by
  obtain ⟨h1, h2⟩ := h
  refine ⟨h1, ?_⟩
  rcases h2 with h2 | ⟨g, cap, cur, hv, hg, r⟩
  · exact .inl h2
  · exact .inr ⟨g, cap, cur, hv, Nat.le_trans hC hg, r⟩
theorem stp_len (l : List (ByteArray × ByteArray)) : (stepCells l).length = l.length * 2 := by
  induction l with
  | nil => rfl
  | cons a l ih => simp [stepCells] at ih ⊢; omega
end Go.Proofs.YtkafmfdipmhleaaGreatDoor

namespace Go.Proofs.YtkafmfdipmhleaaGreatDoor
open Go.RowKit Go.Maps
/-- A partner that was not asked yet. -/
def PFresh (A : Nat) (w : World) (pb : Nat) (l : List Int) : Prop := ∃ iv, w.heap[pb]? = some (.cells #[.slice none 0 0, .slice none 0 0, iv, .int .i64 0] 44 (0, 0)) ∧ PAt w pb ⟨[], [], l, 0, A⟩ ∧ (l = [] → iv = .slice none 0 0) ∧ ∀ a n c, iv = .slice (some a) n c → A ≤ a.block
theorem PFresh.new {A : Nat} {w w' : World} {pb : Nat} {l : List Int} (h : PFresh A w pb l) (hf : New w w') : PFresh A w' pb l := by
  obtain ⟨iv, h1, h2, h3⟩ := h
  exact ⟨iv, hf.get h1 (fun f => f), h2.keepK (hf.toK (K := []) (fun _ _ f _ => f.elim)) (by decide) (by decide) (by decide) (by decide), h3⟩
def NewPR (W w : World) (rs : List Int) (pv : Value) : Prop := ∃ pb, pv = .pointer (some ⟨pb, 0, none⟩) ∧ W.heap.size ≤ pb ∧ PFresh W.heap.size w pb rs
theorem NewPR.new {W w w' : World} {rs : List Int} {pv : Value} (h : NewPR W w rs pv) (hf : New w w') : NewPR W w' rs pv := by
  obtain ⟨pb, h1, h2, h3⟩ := h
  exact ⟨pb, h1, h2, h3.new hf⟩
set_option maxRecDepth 100000 in
set_option maxHeartbeats 2000000 in
theorem NewPartnerR_all {w : World} {v : Value} {l : List Int} (h : IntsAt w v l) (hl : l.length ≤ 100000) (lo : Nat) (hlo : lo ≤ w.heap.size) :
    Calls Tryz.prog 15 #[v] w fun e w' => ∃ pb, e = .returned (.pointer (some ⟨pb, 0, none⟩)) ∧ w.heap.size ≤ pb ∧ PFresh lo w' pb l ∧ New w w' := by
  obtain ⟨i0, hi, hz0, hz1, hz2⟩ := info_parts Tryz.info3z
  by_cases h0 : l = []
  · subst h0
    obtain ⟨a, c, rfl⟩ := h.shape
    have hr : ∀ ty, (Builtin.append_ #[22, 22] ty #[.slice none 0 0, .slice a 0 c]).run Tryz.prog w = .ok (.slice none 0 0) w := by
      intro ty
      simp [Builtin.append_, run_underlying Tryz.underlying22, sizeOf, typeInfo, hi, Builtin.lenOf, Builtin.firstCells]
      cases a <;> simp [Builtin.firstCells, loadCells, loadCellsFrom]
    go_enter Tryz.func15, Tryz.ntmps15
    go_wp2_with (first
      | (at_builtin; refine Lib.wpList_append_run _ rfl _ _ _ _ rfl _ _ rfl rfl _ _ (hr _) ?_; go_frame)
      | fail)
    go_ret
    exact ⟨_, rfl, Nat.le_refl _, ⟨.slice none 0 0, heap_alloc_new w _, newP_done hlo (.inl ⟨rfl, none, 0, rfl⟩) (Fr.refl _ _) (fun a m c e => by cases e), fun _ => rfl, fun a n c e => by cases e⟩, (Fr.refl _ w).alloc _⟩
  · rcases h with ⟨h, _⟩ | ⟨b, off, cap, cc, rfl, hb, hc⟩
    · exact absurd h h0
    have hnews : ∀ (j : Nat) (u : Value), (l.map encZ)[j]? = some u → w.cell? ((⟨b, off, none⟩ : Addr).add j) = some u := by
      intro j u hj
      rw [Addr.add_lit, cellv, hb, cellOf_cells]
      rw [List.getElem?_map] at hj
      cases hx : l[j]? with
      | none => rw [hx] at hj; simp at hj
      | some x => rw [hx] at hj; cases hj; exact hc j x hx
    have Hn := Lib.hid hnews
    have Hl0 := Lib.hid h0
    clear hb hc hnews h0
    go_enter Tryz.func15, Tryz.ntmps15
    go_wp2_with (first
      | (at_builtin; refine wpList_append_own _ rfl _ _ 22 rfl w.heap.size 3 i0 (.int .i64 0) 1 8 Tryz.underlying22 hi hz0 hz1 hz2 rfl (by decide) _ _ _ rfl (World.ownsRow_nil w w.heap.size 3 1) ⟨b, off, none⟩ l.length cap (l.map encZ) rfl (by simp) Hn.out (by intro u hu; rw [List.mem_map] at hu; obtain ⟨x, _, rfl⟩ := hu; rfl) (by unfold maxLen; omega) (by omega) (Nat.le_refl _) ?_; intro sv' w1 hown1 hg1 _; obtain ⟨va, vm, vc, rfl⟩ := own_slice hown1; go_frame)
      | fail)
    go_ret
    rw [Nat.zero_add, List.nil_append] at hown1
    have hf1 : New w w1 := (Fr.ofGrown hg1).mono (fun _ _ e => by cases e)
    have hat : ∀ a m c, Value.slice va vm vc = .slice (some a) m c → w.heap.size ≤ a.block ∧ a.block < w1.heap.size := by
      intro a m c e
      have e2 : va = some a := by simp only [Value.slice.injEq] at e; exact e.1
      subst e2
      exact hown1.lt a.block (by
        rcases hown1.2 with ⟨e, _⟩ | ⟨g, cap, cur, e, _⟩
        · cases e
        · simp only [Value.slice.injEq, Option.some.injEq] at e
          rw [e.1]; rfl)
    exact ⟨_, rfl, hf1.size, ⟨_, heap_alloc_new w1 _, newP_done hlo (own_ints hown1) hf1 (fun a m c e => (hat a m c e).2), fun e => absurd e Hl0.out, fun a m c e => by have := (hat a m c e).1; omega⟩, hf1.alloc _⟩
set_option maxRecDepth 100000 in
set_option maxHeartbeats 8000000 in
/-- d := &disk{..} -/
theorem ow_r16R (wb ob : Nat) (x : Int) (c0 c1 c3 c4 c5 : Value) (rs : List Int) (kv rv sv dv fv : Value) (W : World)
    (hp : W.heap[wb]? = some (.cells #[kv, rv, sv, dv, fv] 118 (0, 0))) (hc : W.heap[ob]? = some (.cells #[c0, c1, .int .i64 x, c3, c4, c5] 112 (0, 0))) (ho : IntsAt W rv rs) (hl : rs.length ≤ 100000)
    {ds : List Deferred} {x1 x2 x4 x5 x6 x7 x8 x9 x10 x11 x12 x13 x14 x15 x16 x17 x18 x19 x20 x21 x22 x23 x24 x25 x26 x27 x28 x29 x30 x31 x32 x33 x34 x35 x36 x37 x38 x39 x40 x41 x42 x43 x44 x45 x46 x47 x48 x49 x50 x51 x52 x53 x54 x55 x56 x57 x58 x59 x60 x61 x62 x63 x64 x65 x66 x67 x68 x69 x70 x71 x72 x73 x74 x75 x76 x77 x78 x79 x80 x81 x82 x83 x84 x85 x86 x87 x88 x89 x90 x91 x92 x93 x94 x95 x96 x97 : Value} {Q : Exit → Act → World → Prop}
    (hQ : ∀ (y66 y67 y68 y69 y70 y71 y72 y73 y74 y75 y76 y77 y78 dv2 pv2 : Value) (w3 : World), New W w3 → NewD W w3 (blkM x) dv2 → NewPR W w3 rs pv2 → Q .normal ⟨#[.pointer (some ⟨wb, 0, none⟩), x1,x2, .pointer (some ⟨ob, 0, none⟩), x4,x5, .pointer (some ⟨w3.heap.size, 0, none⟩), x7,x8,x9,x10,x11,x12,x13,x14,x15,x16,x17,x18,x19,x20,x21,x22,x23,x24,x25,x26,x27,x28,x29,x30,x31,x32,x33,x34,x35,x36,x37,x38,x39,x40,x41,x42,x43,x44,x45,x46,x47,x48,x49,x50,x51,x52,x53,x54,x55,x56,x57,x58,x59,x60,x61,x62,x63,x64,x65,y66,y67,y68,y69,y70,y71,y72,y73,y74,y75,y76,y77,y78,x79,x80,x81,x82,x83,x84,x85,x86,x87,x88,x89,x90,x91,x92,x93,x94,x95,x96,x97], ds⟩ (w3.alloc (.cells #[dv2, pv2, .int .i64 (blkM x), .bool true, .bool false, .pointer none, .int .i64 0, .int .i64 0, .bool false, .slice none 0 0] 165))) :
    Code.wp Tryz.prog owR16 Q ⟨#[.pointer (some ⟨wb, 0, none⟩), x1,x2, .pointer (some ⟨ob, 0, none⟩), x4,x5,x6,x7,x8,x9,x10,x11,x12,x13,x14,x15,x16,x17,x18,x19,x20,x21,x22,x23,x24,x25,x26,x27,x28,x29,x30,x31,x32,x33,x34,x35,x36,x37,x38,x39,x40,x41,x42,x43,x44,x45,x46,x47,x48,x49,x50,x51,x52,x53,x54,x55,x56,x57,x58,x59,x60,x61,x62,x63,x64,x65,x66,x67,x68,x69,x70,x71,x72,x73,x74,x75,x76,x77,x78,x79,x80,x81,x82,x83,x84,x85,x86,x87,x88,x89,x90,x91,x92,x93,x94,x95,x96,x97], ds⟩ W := by
  obtain ⟨va, vc, rfl⟩ := ho.shape
  generalize hvm : rs.length = vm at *
  have HS : Hid (∀ w', New W w' → w'.cell? ⟨ob, 2, none⟩ = some (.int .i64 x) ∧ w'.cell? ⟨wb, 1, none⟩ = some (.slice va vm vc)) := by
    intro w' hf
    rw [cellv, cellv, hf.get hp (fun f => f), hf.get hc (fun f => f)]
    exact ⟨rfl, rfl⟩
  have HB := Lib.hid (fun (w' : World) => blocks_calls w' x)
  have HD := Lib.hid (fun (w' : World) => NewDisk_all w' x)
  have HP := Lib.hid (fun (w' : World) (hf : New W w') => NewPartnerR_all (ho.new hf) (by rw [hvm]; exact hl) W.heap.size hf.size)
  have HQ := Lib.hid hQ
  have hn0 : New W W.drew := (Fr.refl _ W).drew
  clear hp hc ho hl hQ
  conv => arg 2; whnf
  refine wp_region_noPanic ?_
  refine wp_region_held_drew (S := (fun w' => w'.cell? ⟨ob, 2, none⟩ = some (.int .i64 x) ∧ w'.cell? ⟨wb, 1, none⟩ = some (.slice va vm vc))) (by kernel_rfl) (HS.out _ hn0) (fun hHeld => ?_)
  refine wpAnyH_take (i := 0) (v := ?vz0) rfl (by kernel_rfl) (by kernel_rfl) (by kernel_rfl) (fun _ _ _ h => h) (Or.inl ⟨by rfl, ?yz0⟩) hHeld ?rz0
  case yz0 => intro w hSw; (try dsimp only at hSw); go_simp; (try with_reducible rfl)
  simp only [List.getElem_toArray, List.getElem_cons_zero, List.getElem_cons_succ, Act.put, List.setIfInBounds_toArray, List.set_cons_zero, List.set_cons_succ]
  refine wpAnyH_take (i := 1) (v := ?vz1) rfl (by kernel_rfl) (by kernel_rfl) (by kernel_rfl) (fun _ _ _ h => h) (Or.inl ⟨by rfl, ?yz1⟩) hHeld ?rz1
  case yz1 => intro w hSw; (try dsimp only at hSw); go_simp; (try with_reducible rfl)
  simp only [List.getElem_toArray, List.getElem_cons_zero, List.getElem_cons_succ, Act.put, List.setIfInBounds_toArray, List.set_cons_zero, List.set_cons_succ]
  refine wpAnyH_take (i := 3) (v := ?vz3) rfl (by kernel_rfl) (by kernel_rfl) (by kernel_rfl) (fun _ _ _ h => h) (Or.inl ⟨by rfl, ?yz3⟩) hHeld ?rz3
  case yz3 => intro w hSw; (try dsimp only at hSw); go_simp; (try with_reducible rfl)
  simp only [List.getElem_toArray, List.getElem_cons_zero, List.getElem_cons_succ, Act.put, List.setIfInBounds_toArray, List.set_cons_zero, List.set_cons_succ]
  refine wpAnyH_take (i := 4) (v := ?vz4) rfl (by kernel_rfl) (by kernel_rfl) (by kernel_rfl) (fun _ _ _ h => h) (Or.inl ⟨by rfl, ?yz4⟩) hHeld ?rz4
  case yz4 => intro w hSw; (try dsimp only at hSw); go_simp; (try with_reducible rfl)
  simp only [List.getElem_toArray, List.getElem_cons_zero, List.getElem_cons_succ, Act.put, List.setIfInBounds_toArray, List.set_cons_zero, List.set_cons_succ]
  refine wpAnyH_take (i := 5) (v := ?vz5) rfl (by kernel_rfl) (by kernel_rfl) (by kernel_rfl) (fun _ _ _ h => h) (Or.inl ⟨by rfl, ?yz5⟩) hHeld ?rz5
  case yz5 => intro w hSw; (try dsimp only at hSw); go_simp; (try with_reducible rfl)
  simp only [List.getElem_toArray, List.getElem_cons_zero, List.getElem_cons_succ, Act.put, List.setIfInBounds_toArray, List.set_cons_zero, List.set_cons_succ]
  refine wpAnyH_take (i := 6) (v := ?vz6) rfl (by kernel_rfl) (by kernel_rfl) (by kernel_rfl) (fun _ _ _ h => h) (Or.inl ⟨by rfl, ?yz6⟩) hHeld ?rz6
  case yz6 => intro w hSw; (try dsimp only at hSw); go_simp; (try with_reducible rfl)
  simp only [List.getElem_toArray, List.getElem_cons_zero, List.getElem_cons_succ, Act.put, List.setIfInBounds_toArray, List.set_cons_zero, List.set_cons_succ]
  refine wpAnyH_take (i := 8) (v := ?vz8) rfl (by kernel_rfl) (by kernel_rfl) (by kernel_rfl) (fun _ _ _ h => h) (Or.inl ⟨by rfl, ?yz8⟩) hHeld ?rz8
  case yz8 => intro w hSw; (try dsimp only at hSw); go_simp; (try with_reducible rfl)
  simp only [List.getElem_toArray, List.getElem_cons_zero, List.getElem_cons_succ, Act.put, List.setIfInBounds_toArray, List.set_cons_zero, List.set_cons_succ]
  refine wpAnyH_take (i := 9) (v := ?vz9) rfl (by kernel_rfl) (by kernel_rfl) (by kernel_rfl) (fun _ _ _ h => h) (Or.inl ⟨by rfl, ?yz9⟩) hHeld ?rz9
  case yz9 => intro w hSw; (try dsimp only at hSw); go_simp; (try with_reducible rfl)
  simp only [List.getElem_toArray, List.getElem_cons_zero, List.getElem_cons_succ, Act.put, List.setIfInBounds_toArray, List.set_cons_zero, List.set_cons_succ]
  refine wpAnyH_ready (rs := [2]) (by kernel_rfl) (by simp) ?_
  refine AllReadyH.cons rfl (fun K hK => ?_) AllReadyH.nil
  · go_simp
    go_at_call 38
    refine Calls.mono (HD.out _) ?_
    rintro e w38_2 ⟨hf38_2, db2, bb2, hdb2, hbb2, rfl, hd2⟩
    refine Shut.out hK _ _ (HS.out _ ((hn0).trans hf38_2)) ?_
    clear hK K
    intro hHeld2_2
    try simp only [List.getElem_toArray, List.getElem_cons_zero, List.getElem_cons_succ, Act.put, List.setIfInBounds_toArray, List.set_cons_zero, List.set_cons_succ]
    refine wpAnyH_ready (rs := [7]) (by kernel_rfl) (by simp) ?_
    refine AllReadyH.cons rfl (fun K hK => ?_) AllReadyH.nil
    · go_simp
      go_at_call 15
      refine Calls.mono (HP.out _ ((hn0).trans hf38_2)) ?_
      rintro e w15_4 ⟨pb4, rfl, hpb4, hq4, hf15_4⟩
      refine Shut.out hK _ _ (HS.out _ ((((hn0).trans hf38_2)).trans hf15_4)) ?_
      clear hK K
      intro hHeld4_7
      try simp only [List.getElem_toArray, List.getElem_cons_zero, List.getElem_cons_succ, Act.put, List.setIfInBounds_toArray, List.set_cons_zero, List.set_cons_succ]
      refine wpAnyH_ready (rs := [10]) (by kernel_rfl) (by simp) ?_
      refine AllReadyH.cons rfl (fun K hK => ?_) AllReadyH.nil
      · go_simp
        go_at_call 107
        refine Calls.mono (HB.out _) ?_
        rintro e w107_6 ⟨rfl, rfl⟩
        refine Shut.out hK _ _ (HS.out _ ((((hn0).trans hf38_2)).trans hf15_4)) ?_
        clear hK K
        intro hHeld6_10
        try simp only [List.getElem_toArray, List.getElem_cons_zero, List.getElem_cons_succ, Act.put, List.setIfInBounds_toArray, List.set_cons_zero, List.set_cons_succ]
        refine wpAnyH_take (i := 11) (v := ?vq1_11) rfl (by kernel_rfl) (by kernel_rfl) (by kernel_rfl) (fun _ _ _ h => h) (Or.inl ⟨by rfl, ?yq1_11⟩) hHeld6_10 ?rq1_11
        case yq1_11 => intro w hSw; (try dsimp only at hSw); go_simp; (try with_reducible rfl)
        simp only [List.getElem_toArray, List.getElem_cons_zero, List.getElem_cons_succ, Act.put, List.setIfInBounds_toArray, List.set_cons_zero, List.set_cons_succ]
        refine wpAnyH_ready (rs := [12]) (by kernel_rfl) (by simp) ?_
        refine AllReadyH.cons rfl (fun K hK => ?_) AllReadyH.nil
        go_simp
        refine Shut.out hK _ _ (HS.out _ ((((((hn0).trans hf38_2)).trans hf15_4)).alloc _)) ?_
        clear hK K
        intro hHeldZ
        try simp only [List.getElem_toArray, List.getElem_cons_zero, List.getElem_cons_succ, Act.put, List.setIfInBounds_toArray, List.set_cons_zero, List.set_cons_succ]
        refine wpAnyH_take (i := 13) (v := ?vr1_13) rfl (by kernel_rfl) (by kernel_rfl) (by kernel_rfl) (fun _ _ _ h => h) (Or.inl ⟨by rfl, ?yr1_13⟩) hHeldZ ?rr1_13
        case yr1_13 => intro w hSw; (try dsimp only at hSw); go_simp; (try with_reducible rfl)
        simp only [List.getElem_toArray, List.getElem_cons_zero, List.getElem_cons_succ, Act.put, List.setIfInBounds_toArray, List.set_cons_zero, List.set_cons_succ]
        refine wpAnyH_done (by kernel_rfl) ?_ _
        refine NoPanic.normal ?_
        exact HQ.out _ _ _ _ _ _ _ _ _ _ _ _ _ _ _ w15_4 ((((hn0).trans hf38_2)).trans hf15_4) ((show NewD W w38_2 (blkM x) _ from ⟨db2, bb2, rfl, Nat.le_trans (hn0).size hdb2, Nat.le_trans (hn0).size hbb2, hd2⟩).new hf15_4) (show NewPR W w15_4 rs _ from ⟨pb4, rfl, Nat.le_trans (((hn0).trans hf38_2)).size hpb4, hq4⟩)
end Go.Proofs.YtkafmfdipmhleaaGreatDoor

namespace Go.Proofs.YtkafmfdipmhleaaGreatDoor
open Go.RowKit
/-- The partner, its log and its effects lie in G. -/
def PG (w : World) (pb : Nat) (G : Nat → Prop) (iv : Value) : Prop :=
  G pb ∧ ∃ lv ev av, w.heap[pb]? = some (.cells #[lv, ev, iv, av] 44 (0, 0)) ∧ (∀ k, lv.ownBlock = some k → G k) ∧ (∀ k, ev.ownBlock = some k → G k) ∧ ∀ a m c, iv = .slice (some a) m c → G a.block
/-- Of what was there only what is the partner's turns. -/
def PGo (w : World) (pb : Nat) (w' : World) : Prop := ∀ (G : Nat → Prop) (iv : Value), (∀ k, w.heap.size ≤ k → G k) → PG w pb G iv → PG w' pb G iv ∧ Fr G w w'
theorem PG.fr {w w' : World} {pb : Nat} {G S : Nat → Prop} {iv : Value} (h : PG w pb G iv) (hf : Fr S w w') (hS : ¬ S pb) : PG w' pb G iv := by
  obtain ⟨h0, lv, ev, av, h1, h2, h3⟩ := h
  exact ⟨h0, lv, ev, av, hf.get h1 hS, h2, h3⟩
theorem PG.new {w w' : World} {pb : Nat} {G : Nat → Prop} {iv : Value} (h : PG w pb G iv) (hf : New w w') : PG w' pb G iv := h.fr hf (fun f => f)
theorem PG.one {w : World} {pb rb o : Nat} {v : Value} {G : Nat → Prop} {iv : Value} (h : PG w pb G iv) (_ : G rb) (hr : pb ≠ rb) : PG (w.setCell ⟨rb, o, none⟩ v) pb G iv := h.fr (Fr.one rb w o v) (fun e => hr e)
set_option maxRecDepth 100000 in
set_option maxHeartbeats 4000000 in
theorem Ask_G {w : World} {pb : Nat} {p : PartM} (h : PAt w pb p) (c : CallM) (hs : p.small) :
    Calls Tryz.prog 58 #[.pointer (some ⟨pb, 0, none⟩), c.val] w fun e w' => e = .returned (.int .i64 (replyM (p.knows c) c.back p.k)) ∧ PAt w' pb (p.ask c) ∧ FrK [45, 47, 49] w w' ∧ PGo w pb w' := by
  obtain ⟨⟨lv, ev, iv, B, h1, hlo, heo, hil, hB0, hib⟩⟩ := h
  have hB := hB0.1
  have HB0 := Lib.hid hB0.2
  clear hB0
  have hcv := cellv w
  have h1a := heap_alloc_keep (.cells #[.int .i64 c.saga, .int .i64 c.step, .bool c.back, .string c.data] 46) h1
  have hca := heap_alloc_new w (.cells #[.int .i64 c.saga, .int .i64 c.step, .bool c.back, .string c.data] 46)
  unfold CallM.val
  go_enter Tryz.func58, Tryz.ntmps58
  go_upto_region 1 with fail
  have HW1 : Hid (New w (w.alloc (.cells #[.int .i64 c.saga, .int .i64 c.step, .bool c.back, .string c.data] 46))) := (Fr.refl _ _).alloc _
  generalize w.alloc (.cells #[.int .i64 c.saga, .int .i64 c.step, .bool c.back, .string c.data] 46) = W1 at h1a hca HW1 ⊢
  generalize hN : w.heap.size = N at hca ⊢
  have HN := Lib.hid hN
  clear hN hcv
  have hcv := cellv W1
  have hfv := frozv W1
  have hilv : ∃ a n cc, iv = .slice a n cc ∧ n = p.l.length := by
    rcases hil with ⟨e, a, cc, rfl⟩ | ⟨b, off, cap, cc, rfl, _⟩
    · exact ⟨a, 0, cc, rfl, by simp [e]⟩
    · exact ⟨_, _, _, rfl, rfl⟩
  obtain ⟨ia, im, ic, rfl, him⟩ := hilv
  have Him := Lib.hid him
  have Hil := Lib.hid hil
  have Hlo := Lib.hid hlo
  have Heo := Lib.hid heo
  have HB := Lib.hid hB
  have Hs := Lib.hid hs
  have H1 := Lib.hid h1
  have Hib := Lib.hid hib
  clear hil hlo heo hB hs h1 him hib
  go_upto_if 12 with fail
  go_cut [5] (fun s5 wx => s5 = .int .i64 p.k ∧ Fr (· = pb) W1 wx ∧ wx.heap[pb]? = some (.cells #[lv, ev, .slice ia im ic, .int .i64 p.next] 44 (0, 0)))
  case first =>
    by_cases hl : p.l = []
    · have hk : Hid (p.k = 0) := by show _ = _; simp [PartM.k, hl]
      have hn : Hid (p.next = p.at_) := by show _ = _; simp [PartM.next, hl]
      have h0 : ¬ 0 < im := by have := Him.out; rw [hl] at this; simp at this; omega
      clear hl
      go_wp2_with fail
      go_meet
      exact ⟨by rw [hk.out], Fr.refl _ _, by rw [hn.out]; exact h1a⟩
    · obtain ⟨m, hm⟩ : ∃ m : Nat, p.at_ = (m : Int) := ⟨p.at_.toNat, by have := Hs.out.2.2.2.1; omega⟩
      have hlp : 0 < p.l.length := by
        cases hh : p.l with
        | nil => exact absurd hh hl
        | cons a l => simp
      have hmb : m < 2 ^ 40 := by have := Hs.out.2.2.2.2; omega
      have hlb : p.l.length < 2 ^ 40 := by have := Hs.out.2.2.1; omega
      rcases Hil.out with ⟨e, _⟩ | ⟨b, off, cap, cc, eiv, hbb, hcc⟩
      · exact absurd e hl
      · simp only [Value.slice.injEq] at eiv
        obtain ⟨rfl, rfl, rfl⟩ := eiv
        have hidx : m % p.l.length < p.l.length := Nat.mod_lt _ hlp
        have hx := hcc (m % p.l.length) p.l[m % p.l.length] (List.getElem?_eq_getElem hidx)
        have hxw : W1.cell? ⟨b, off + m % p.l.length, none⟩ = some (.int .i64 p.l[m % p.l.length]) := by
          rw [cellv, HW1.out.get hbb (fun f => f)]; exact hx
        have hk : Hid (p.k = if (p.l[m % p.l.length]).tmod 6 < 0 then (p.l[m % p.l.length]).tmod 6 + 6 else (p.l[m % p.l.length]).tmod 6) := by
          show _ = _
          have e1 : p.at_.toNat = m := by omega
          have e2 : p.l.getD (m % p.l.length) 0 = p.l[m % p.l.length] := by simp [List.getD_eq_getElem?_getD, hidx]
          unfold PartM.k
          rw [if_neg hl, e1, e2]
        have hn : Hid (p.next = (m : Int) + 1) := by show _ = _; simp [PartM.next, hl, hm]
        have h0 : 0 < p.l.length := hlp
        have h1b := h1a
        rw [hm] at h1b
        have Hm := Lib.hid hm
        generalize p.l[m % p.l.length] = x at hk hxw
        have hr1 : -6 < x.tmod 6 ∧ x.tmod 6 < 6 := by
          have a1 := Int.lt_tmod_of_pos x (show (0 : Int) < 6 by omega)
          have a2 := Int.tmod_lt_of_pos x (show (0 : Int) < 6 by omega)
          exact ⟨a1, a2⟩
        clear hl hm hx hcc hbb h1a hcv hfv
        go_upto_region 3 with fail
        refine pt_r3 pb b off ic 0 m p.l lv ev x W1 hmb hlb h1b hxw hlp rfl ?_
        intro y13 y14 y15 y16 y17 y18 y19 y20 y21 y22 y23 y24 y25 y26 y27 y28 q
        have h2 : (W1.drewN q).heap[pb]? = some (.cells #[lv, ev, .slice (some ⟨b, off, none⟩) p.l.length ic, .int .i64 (m : Int)] 44 (0, 0)) := h1b
        have HF2 : Hid (Fr (· = pb) W1 (W1.drewN q)) := (Fr.refl _ _).drewN _
        clear h1b hxw
        generalize W1.drewN q = W2 at h2 HF2 ⊢
        have hcv := cellv W2
        have hfv := frozv W2
        generalize x.tmod 6 = r at hk hr1
        have hm1 : wrap64 ((m : Int) + 1) = (m : Int) + 1 := wrap_in _ (by omega)
        by_cases hr : r < 0
        · have hk' : Hid (p.k = r + 6) := by show _ = _; rw [hk.out, if_pos hr]
          go_wp2_with fail
          go_meet
          refine ⟨by rw [hk'.out], HF2.out.trans (Fr.one _ _ _ _), ?_⟩
          rw [hp_setCell, if_pos rfl, h2, hn.out]; rfl
        · have hk' : Hid (p.k = r) := by show _ = _; rw [hk.out, if_neg hr]
          go_wp2_with fail
          go_meet
          refine ⟨by rw [hk'.out], HF2.out.trans (Fr.one _ _ _ _), ?_⟩
          rw [hp_setCell, if_pos rfl, h2, hn.out]; rfl
  case rest =>
    obtain ⟨rfl, hfx, hpx⟩ := hcut
    obtain ⟨wc0, hwc0⟩ : ∃ wc0, wc0 = wc := ⟨_, rfl⟩
    subst hwc0
    have hNp : ¬ N = pb := by
      intro e
      have := lt_of_hp H1.out
      have := HN.out
      omega
    have hcx := hfx.get hca hNp
    have hFw : Fr (· = pb) w wc0 := (HW1.out.mono (fun _ _ f => f.elim)).trans hfx
    have hpw : ∀ k, k = pb → ∃ o, w.heap[k]? = some o ∧ kindOf o = 45 := by rintro k rfl; exact ⟨_, H1.out, rfl⟩
    have hlx := ownsRow_fr Hlo.out hFw (fun k hk => by obtain ⟨o, ho, he⟩ := hpw k hk; exact ⟨o, ho, by rw [he]; decide⟩)
    have hex := ownsRow_fr Heo.out hFw (fun k hk => by obtain ⟨o, ho, he⟩ := hpw k hk; exact ⟨o, ho, by rw [he]; decide⟩)
    have hix : IntsAt wc0 (.slice ia im ic) p.l := Hil.out.keep (fun k o ho he => hFw.get ho (by rintro rfl; rw [H1.out] at ho; cases ho; simp [kindOf] at he))
    have hBx : B ≤ wc0.heap.size := Nat.le_trans HB.out hFw.size
    have Hp : Hid (PAt wc0 pb ⟨p.log, p.effs, p.l, p.next, p.lo⟩) := ⟨⟨lv, ev, .slice ia im ic, B, hpx, hlx, hex, hix, ⟨hBx, HB0.out⟩, Hib.out⟩⟩
    have hef : p.effs.length < 2 ^ 30 := Hs.out.2.1
    have hlf : p.log.length < 2 ^ 30 := Hs.out.1
    have heN : ev.ownBlock ≠ some N := by
      intro e
      have := own_lt Heo.out e
      have := HN.out
      omega
    have hlN : lv.ownBlock ≠ some N := by
      intro e
      have := own_lt Hlo.out e
      have := HN.out
      omega
    have Hfw := Lib.hid hFw
    have Hlx := Lib.hid hlx
    have Hex := Lib.hid hex
    have Hix := Lib.hid hix
    have HBx := Lib.hid hBx
    have Hef := Lib.hid hef
    have Hlf := Lib.hid hlf
    have HeN := Lib.hid heN
    have HlN := Lib.hid hlN
    have Hcx := Lib.hid hcx
    have Hpx := Lib.hid hpx
    clear hcv hfv hFw hpw hlx hex hix hBx hef hlf heN hlN hfx h1a hca
    have Hr : Hid (replyM (p.knows c) c.back p.k = if p.knows c = true then (if p.k = 3 ∨ p.k = 4 then 1 else 0) else if p.k = 3 ∨ (p.k = 5 ∧ c.back = true) then 1 else if p.k = 5 then 2 else if p.k = 4 then 1 else 0) := rfl
    have He : Hid ((p.ask c).effs = if p.knows c = true ∨ p.k = 3 ∨ p.k = 5 then p.effs else p.effs ++ [c]) := rfl
    have Hlog : Hid ((p.ask c).log = p.log ++ [(c, replyM (p.knows c) c.back p.k)]) := rfl
    generalize hkk : p.k = k at Hr He Hlog ⊢
    have Hkk := Lib.hid hkk
    clear hkk
    generalize hrr : replyM (p.knows c) c.back k = rp at Hr Hlog ⊢
    have Hrr := Lib.hid hrr
    clear hrr
    go_upto_block 0 with fail
    go_cut [6] (fun s6 wx => s6 = .int .i64 rp ∧ Fr (fun k => k = pb ∨ ev.ownBlock = some k) wc0 wx ∧ ∃ ev', wx.heap[pb]? = some (.cells #[lv, ev', .slice ia im ic, .int .i64 p.next] 44 (0, 0)) ∧ (wx.ownsRow B 46 4 ev' (p.ask c).effs.length (effCells (p.ask c).effs) ∧ ∀ k, ev'.ownBlock = some k → ev.ownBlock = some k ∨ w.heap.size ≤ k))
    case first =>
      have HD := Lib.hid (done_calls (p := ⟨p.log, p.effs, p.l, p.next, p.lo⟩) Hp.out c Hef.out)
      have Hkn : Hid ((p.effs.any fun e => sameCall e c) = p.knows c) := rfl
      simp only [Hkn.out] at HD
      have hcx2 := Hcx.out
      have hcv := cellv wc0
      clear Hkn hpx
      have HQ : Hid (∀ w2, New wc0 w2 → w2.heap[N]? = some (.cells c.cells.toArray 46 (0, 0)) ∧ w2.heap[pb]? = some (.cells #[lv, ev, .slice ia im ic, .int .i64 p.next] 44 (0, 0)) ∧ w2.ownsRow B 46 4 ev p.effs.length (effCells p.effs) ∧ B ≤ w2.heap.size) := by
        intro w2 hf
        exact ⟨hf.get Hcx.out (fun f => f), hf.get Hpx.out (fun f => f), ownsRow_fr Hex.out hf (fun _ f => f.elim), Nat.le_trans HBx.out hf.size⟩
      cases hd : p.knows c
      · rw [hd] at HD Hr He
        clear hd
        by_cases k3 : k = 3
        · subst k3
          go_wp2_with (first
            | (go_at_call 83; refine Calls.mono HD.out ?_; rintro e w2 ⟨rfl, hf2⟩)
            | fail)
          go_meet
          obtain ⟨_, q2, q3, _⟩ := HQ.out w2 hf2
          exact ⟨by rw [Hr.out]; simp, hf2.mono (fun _ _ f => f.elim), ev, q2, by rw [He.out]; simpa using q3, fun _ h => .inl h⟩
        · have k3' : (k == 3) = false := by simpa using k3
          by_cases k5 : k = 5
          · subst k5
            go_upto_region 14 with (first
              | (go_at_call 83; refine Calls.mono HD.out ?_; rintro e w2 ⟨rfl, hf2⟩)
              | fail)
            have hcv2 := cellv w2
            have hcx3 := hf2.get Hcx.out (fun f => f)
            obtain ⟨_, q2, q3, _⟩ := HQ.out w2 hf2
            have Q2 := Lib.hid q2
            have Q3 := Lib.hid q3
            clear hcv hcx2 q2 q3
            by_cases hbk : c.back = true
            · have Hb := Lib.hid hbk
              go_wp2_with fail
              go_meet
              exact ⟨by rw [Hr.out]; simp [Hb.out], hf2.mono (fun _ _ f => f.elim), ev, Q2.out, by rw [He.out]; simpa using Q3.out, fun _ h => .inl h⟩
            · have hbk' : c.back = false := by simpa using hbk
              have Hb := Lib.hid hbk'
              clear hbk
              go_wp2_with fail
              go_meet
              exact ⟨by rw [Hr.out]; simp [Hb.out], hf2.mono (fun _ _ f => f.elim), ev, Q2.out, by rw [He.out]; simpa using Q3.out, fun _ h => .inl h⟩
          · have k5' : (k == 5) = false := by simpa using k5
            have He' : Hid ((p.ask c).effs = p.effs ++ [c]) := by show _ = _; rw [He.out]; simp [k3, k5]
            by_cases k4 : k = 4
            · subst k4
              have Hr' : Hid (rp = 1) := by show _ = _; rw [Hr.out]; simp
              clear k3 k5 k3' k5'
              go_upto_region 8 with (first
                | (go_at_call 83; refine Calls.mono HD.out ?_; rintro e w2 ⟨rfl, hf2⟩)
                | fail)
              obtain ⟨q1, q2, q3, q4⟩ := HQ.out w2 hf2
              refine pt_r8 pb N c p.effs lv ev (.slice ia im ic) (.int .i64 p.next) B w2 q2 q1 q3 q4 HeN.out Hef.out ?_
              intro y41 y42 y43 y44 y45 y46 y47 y48 y49 y50 ev' w3 hf3 hp3 ho3 hw3
              clear hcv hcx2 q1 q2 q3 q4
              go_wp2_with fail
              go_meet
              exact ⟨by rw [Hr'.out], (hf2.mono (fun _ _ f => f.elim)).trans hf3, ev', hp3, by rw [He'.out]; exact ho3, fun k hk => (hw3 k hk).imp id (fun h => Nat.le_trans (Nat.le_trans Hfw.out.size hf2.size) h)⟩
            · have k4' : (k == 4) = false := by simpa using k4
              have Hr' : Hid (rp = 0) := by show _ = _; rw [Hr.out]; simp [k3, k4, k5]
              clear k3 k5 k4
              go_upto_region 8 with (first
                | (go_at_call 83; refine Calls.mono HD.out ?_; rintro e w2 ⟨rfl, hf2⟩)
                | fail)
              obtain ⟨q1, q2, q3, q4⟩ := HQ.out w2 hf2
              refine pt_r8 pb N c p.effs lv ev (.slice ia im ic) (.int .i64 p.next) B w2 q2 q1 q3 q4 HeN.out Hef.out ?_
              intro y41 y42 y43 y44 y45 y46 y47 y48 y49 y50 ev' w3 hf3 hp3 ho3 hw3
              clear hcv hcx2 q1 q2 q3 q4
              go_wp2_with fail
              go_meet
              exact ⟨by rw [Hr'.out], (hf2.mono (fun _ _ f => f.elim)).trans hf3, ev', hp3, by rw [He'.out]; exact ho3, fun k hk => (hw3 k hk).imp id (fun h => Nat.le_trans (Nat.le_trans Hfw.out.size hf2.size) h)⟩
      · rw [hd] at HD Hr He
        clear hd
        by_cases k3 : k = 3
        · subst k3
          go_wp2_with (first
            | (go_at_call 83; refine Calls.mono HD.out ?_; rintro e w2 ⟨rfl, hf2⟩)
            | fail)
          go_meet
          obtain ⟨_, q2, q3, _⟩ := HQ.out w2 hf2
          exact ⟨by rw [Hr.out]; simp, hf2.mono (fun _ _ f => f.elim), ev, q2, by rw [He.out]; simpa using q3, fun _ h => .inl h⟩
        · have k3' : (k == 3) = false := by simpa using k3
          by_cases k4 : k = 4
          · subst k4
            go_wp2_with (first
              | (go_at_call 83; refine Calls.mono HD.out ?_; rintro e w2 ⟨rfl, hf2⟩)
              | fail)
            go_meet
            obtain ⟨_, q2, q3, _⟩ := HQ.out w2 hf2
            exact ⟨by rw [Hr.out]; simp, hf2.mono (fun _ _ f => f.elim), ev, q2, by rw [He.out]; simpa using q3, fun _ h => .inl h⟩
          · have k4' : (k == 4) = false := by simpa using k4
            have Hr' : Hid (rp = 0) := by show _ = _; rw [Hr.out]; simp [k3, k4]
            clear k3 k4
            go_wp2_with (first
              | (go_at_call 83; refine Calls.mono HD.out ?_; rintro e w2 ⟨rfl, hf2⟩)
              | fail)
            go_meet
            obtain ⟨_, q2, q3, _⟩ := HQ.out w2 hf2
            exact ⟨by rw [Hr'.out], hf2.mono (fun _ _ f => f.elim), ev, q2, by rw [He.out]; simpa using q3, fun _ h => .inl h⟩
    case rest =>
      obtain ⟨rfl, hfy, ev', hpy, hey, hwy⟩ := hcut
      have Hfy := Lib.hid hfy
      have Hwy := Lib.hid hwy
      clear hwy
      have hK2 : ∀ (q : Nat) (o : Obj), (q = pb ∨ ev.ownBlock = some q) → (World.heap wc0)[q]? = some o → kindOf o = 45 ∨ kindOf o = 47 := by
        rintro q o (rfl | hq) ho
        · rw [Hpx.out] at ho; cases ho; exact .inl rfl
        · obtain ⟨o', ho', he⟩ := own_kind Hex.out hq
          rw [ho'] at ho; cases ho; exact .inr he
      have hcN := hfy.get Hcx.out (by
        rintro (e | e)
        · exact hNp e
        · exact HeN.out e)
      have hlo2 := ownsRow_fr Hlx.out hfy (fun q hq => by
        rcases hq with rfl | hq
        · exact ⟨_, Hpx.out, by simp [kindOf]⟩
        · obtain ⟨o', ho', he⟩ := own_kind Hex.out hq
          exact ⟨o', ho', by rw [he]; decide⟩)
      have hix2 := Hix.out.keep (w' := wc) (fun q o ho he => hfy.get ho (fun hq => by rcases hK2 q o hq ho with e | e <;> omega))
      have hFK : FrK [45, 47, 49] w wc := (Hfw.out.toK (fun q o hq ho => by
          subst hq; rw [H1.out] at ho; cases ho; simp [kindOf])).trans (hfy.toK (fun q o hq ho => by rcases hK2 q o hq ho with e | e <;> simp [e]))
      have hB2 := Nat.le_trans HBx.out hfy.size
      have Hlo2 := Lib.hid hlo2
      have Hey := Lib.hid hey
      have Hix2 := Lib.hid hix2
      have HFK := Lib.hid hFK
      have Hpy := Lib.hid hpy
      have HB2 := Lib.hid hB2
      clear hpx hcx hK2 hfy hFK hix2 hey
      go_upto_region 18 with fail
      refine pt_r18 pb N c p.log rp lv ev' (.slice ia im ic) (.int .i64 p.next) B wc hpy hcN hlo2 hB2 HlN.out Hlf.out ?_
      intro y77 y78 y79 y80 y81 y82 y83 y84 y85 y86 y87 y88 lv' w5 hf5 hp5 ho5 hw5
      clear hpy hcN hlo2
      go_wp2_with fail
      go_ret
      have hK5 : ∀ (q : Nat) (o : Obj), (q = pb ∨ lv.ownBlock = some q) → wc.heap[q]? = some o → kindOf o = 45 ∨ kindOf o = 49 := by
        rintro q o (rfl | hq) ho
        · rw [Hpy.out] at ho; cases ho; exact .inl rfl
        · obtain ⟨o', ho', he⟩ := own_kind Hlo2.out hq
          rw [ho'] at ho; cases ho; exact .inr he
      refine ⟨by rw [Hkk.out, Hrr.out]; rfl, ⟨⟨lv', ev', .slice ia im ic, B, hp5, ?_, ?_, ?_, ?_, Hib.out⟩⟩, ?_⟩
      · rw [Hlog.out]; exact ho5
      · refine ownsRow_fr Hey.out hf5 (fun q hq => ?_)
        rcases hq with rfl | hq
        · exact ⟨_, Hpy.out, by simp [kindOf]⟩
        · obtain ⟨o', ho', he⟩ := own_kind Hlo2.out hq
          exact ⟨o', ho', by rw [he]; decide⟩
      · exact Hix2.out.keep (fun q o ho he => hf5.get ho (fun hq => by rcases hK5 q o hq ho with e | e <;> omega))
      · exact ⟨Nat.le_trans HB2.out hf5.size, HB0.out⟩
      · refine ⟨HFK.out.trans (hf5.toK (fun q o hq ho => by rcases hK5 q o hq ho with e | e <;> simp [e])), ?_⟩
        rintro G iv0 hG ⟨hg0, lv0, ev0, av0, hh, hl0, he0, hi0⟩
        rw [H1.out] at hh
        simp only [Option.some.injEq, Obj.cells.injEq, Array.mk.injEq, List.cons.injEq] at hh
        obtain ⟨⟨rfl, rfl, rfl, _⟩, _⟩ := hh
        refine ⟨⟨hg0, lv', ev', _, hp5, fun k hk => (hw5 k hk).elim (hl0 k) (fun h => hG k (Nat.le_trans (Nat.le_trans Hfw.out.size Hfy.out.size) h)), fun k hk => (Hwy.out k hk).elim (he0 k) (hG k), hi0⟩, ?_⟩
        refine ((Hfw.out.mono (fun k _ e => ?_)).trans (Hfy.out.mono (fun k _ h => h.elim (fun e => ?_) (he0 k)))).trans (hf5.mono (fun k _ h => h.elim (fun e => ?_) (hl0 k)))
        · rw [e]; exact hg0
        · rw [e]; exact hg0
        · rw [e]; exact hg0
set_option maxRecDepth 100000 in
set_option maxHeartbeats 4000000 in
theorem ask_r2G (xb cb rb pb jb mb : Nat) (pause clock : Int) (failed : Bool) (c : CallM) (p : PartM) (W : World)
    (hx : W.heap[xb]? = some (.cells (egCells jb mb pause (askFn pb) clock failed) 79 (0, 0))) (hc : W.heap[cb]? = some (.cells c.cells.toArray 46 (0, 0))) (hr : W.heap[rb]? = some (.cells #[.int .i64 0] 3 (0, 0)))
    (hp : PAt W pb p) (hs : p.small) (hrb : pb < rb)
    {ds : List Deferred} {x1 x2 x5 x6 x7 x8 x9 x10 x11 : Value} {Q : Exit → Act → World → Prop}
    (hQ : ∀ (y6 y7 y8 y9 y10 y11 : Value) (w' : World), FrKS [45, 47, 49] (· = rb) W w' → (∀ (G : Nat → Prop) (iv : Value), G rb → (∀ k, W.heap.size ≤ k → G k) → PG W pb G iv → PG w' pb G iv ∧ Fr G W w') → PAt w' pb (p.ask c) → w'.heap[rb]? = some (.cells #[.int .i64 (replyM (p.knows c) c.back p.k)] 3 (0, 0)) → Q .normal ⟨#[.pointer (some ⟨xb, 0, none⟩), x1,x2, .pointer (some ⟨cb, 0, none⟩), .pointer (some ⟨rb, 0, none⟩), x5,y6,y7,y8,y9,y10,y11], ds⟩ w') :
    Code.wp Tryz.prog askR2 Q ⟨#[.pointer (some ⟨xb, 0, none⟩), x1,x2, .pointer (some ⟨cb, 0, none⟩), .pointer (some ⟨rb, 0, none⟩), x5,x6,x7,x8,x9,x10,x11], ds⟩ W := by
  have a3 : W.cell? ⟨xb, 3, none⟩ = some (askFn pb) := by rw [cellv, hx]; rfl
  have c0 : W.cell? ⟨cb, 0, none⟩ = some (.int .i64 c.saga) := by rw [cellv, hc]; rfl
  have c1 : W.cell? ⟨cb, 1, none⟩ = some (.int .i64 c.step) := by rw [cellv, hc]; rfl
  have c2 : W.cell? ⟨cb, 2, none⟩ = some (.bool c.back) := by rw [cellv, hc]; rfl
  have c3 : W.cell? ⟨cb, 3, none⟩ = some (.string c.data) := by rw [cellv, hc]; rfl
  have HA := Lib.hid (Ask_G (w := W.drew) ⟨hp.ex⟩ c hs)
  have Hr := Lib.hid hr
  have HQ := Lib.hid hQ
  unfold askFn at a3
  unfold CallM.val at HA
  have Hrk : Hid (∀ w' : World, FrK [45, 47, 49] W.drew w' → w'.heap[rb]? = some (.cells #[.int .i64 0] 3 (0, 0))) := fun w' hf => hf.block rb _ hr (by simp [kindOf])
  have Hrb := Lib.hid hrb
  clear hx hc hr hp hs hQ hrb
  conv => arg 2; whnf
  refine wp_region_noPanic ?_
  go_region_law (first
    | (go_simp; go_at_call 58; refine Calls.mono HA.out ?_; rintro e w2 ⟨rfl, hp2, hf2, ho2⟩; have hr2 := Hrk.out w2 hf2; have hcv2 := cellv w2; have hfv2 := frozv w2)
    | fail)
  all_goals
    refine NoPanic.normal (HQ.out _ _ _ _ _ _ _ ?_ ?_ ?_ ?_)
    · have h0 : FrK [45, 47, 49] W w2 := ⟨hf2.os, hf2.tape, hf2.output, hf2.size, hf2.block⟩
      exact h0.set rb 0 _
    · intro G iv0 hr hG hpg
      obtain ⟨h1, h2⟩ := ho2 G iv0 hG (show PG W.drew pb G iv0 from hpg)
      refine ⟨h1.one hr (by have := Hrb.out; omega), ((Fr.refl G W).drew.trans h2).trans ((Fr.one rb w2 0 _).mono (fun k _ e => ?_))⟩
      rw [e]; exact hr
    · refine hp2.keep (by simp) (fun k o ho hk => ?_)
      rw [hp_setCell, if_neg]
      · exact ho
      · rintro rfl
        rw [hr2] at ho
        cases ho
        simp [kindOf] at hk
        have := Hrb.out
        omega
    · rw [hp_setCell, if_pos rfl, hr2]; rfl
/-- What the engine hears. -/
def HearG (w : World) (pb : Nat) (p : PartM) (c : CallM) (e : Ending) (w' : World) : Prop :=
  e = .returned (.int .i64 (replyM (p.knows c) c.back p.k)) ∧ PAt w' pb (p.ask c) ∧ FrK [45, 47, 49] w w' ∧ PGo w pb w'
set_option maxRecDepth 100000 in
set_option maxHeartbeats 4000000 in
theorem ask_G {w : World} {xb pb jb mb : Nat} {pause clock : Int} {failed : Bool} (c : CallM) (p : PartM)
    (hx : w.heap[xb]? = some (.cells (egCells jb mb pause (askFn pb) clock failed) 79 (0, 0))) (hp : PAt w pb p) (hs : p.small) :
    Calls Tryz.prog 51 #[.pointer (some ⟨xb, 0, none⟩), c.val] w (HearG w pb p c) := by
  have hmf : ∀ (fn : Fn) (first cap : Array Value) (w : World), (Instr.makeFunc fn first cap).run Tryz.prog w = .ok (.func fn first cap) w := fun _ _ _ _ => rfl
  have hpb : pb < w.heap.size := by obtain ⟨⟨_, _, _, _, h, _⟩⟩ := hp; exact lt_of_hp h
  have hN : New w ((w.alloc (.cells c.cells.toArray 46)).alloc (.cells #[.int .i64 0] 3)) := ((Fr.refl _ _).alloc _).alloc _
  have hx1 := hN.get hx (fun f => f)
  have hc1 := heap_alloc_keep (.cells #[.int .i64 0] 3) (heap_alloc_new w (.cells c.cells.toArray 46))
  have hr1 := heap_alloc_new (w.alloc (.cells c.cells.toArray 46)) (.cells #[.int .i64 0] 3)
  have hp1 : PAt ((w.alloc (.cells c.cells.toArray 46)).alloc (.cells #[.int .i64 0] 3)) pb p := hp.keep hN.size (fun k o ho _ => hN.get ho (fun f => f))
  rw [sz_alloc] at hr1
  have Hx1 := Lib.hid hx1
  have Hc1 := Lib.hid hc1
  have Hr1 := Lib.hid hr1
  have Hp1 := Lib.hid hp1
  have Hs := Lib.hid hs
  have Hpb := Lib.hid hpb
  have HN := Lib.hid hN
  clear hx hp hs hpb hN hx1 hc1 hr1 hp1
  unfold CallM.val
  go_enter_defers Tryz.func51, Tryz.ntmps51
  go_upto_region 2 with fail
  refine ask_r2G xb w.heap.size (w.heap.size + 1) pb jb mb pause clock failed c p _ Hx1.out Hc1.out Hr1.out Hp1.out Hs.out (by have := Hpb.out; omega) ?_
  intro y6 y7 y8 y9 y10 y11 w5 hf5 ho5 hp5 hr5
  have hz : w.heap.size < w.heap.size + 1 := by omega
  have hfk : FrK [45, 47, 49] w w5 := by
    have h0 := HN.out
    refine ⟨hf5.os.trans h0.os, hf5.tape.trans h0.tape, hf5.output.trans h0.output, Nat.le_trans h0.size hf5.size, fun k o ho hk => ?_⟩
    exact hf5.block k o (h0.get ho (fun f => f)) hk (by have := lt_of_hp ho; omega)
  have hoo : PGo w pb w5 := by
    intro G iv0 hG hpg
    have h1 := hpg.new HN.out
    obtain ⟨h2, h3⟩ := ho5 G iv0 (hG _ (by omega)) (fun k hk => hG k (Nat.le_trans HN.out.size hk)) h1
    exact ⟨h2, (HN.out.mono (fun _ _ f => f.elim)).trans h3⟩
  have Hoo := Lib.hid hoo
  have Hfk := Lib.hid hfk
  have Hp5 := Lib.hid hp5
  clear hfk hp5 hf5 hz hoo ho5
  have hcv := cellv w5
  go_wp2_with fail
  refine leaves_cons (f := 72) (args := #[.pointer (some ⟨w.heap.size + 1, 0, none⟩)]) (by simp) (by simp [go_sem]) ?_
  refine (idle72 _ _).mono ?_
  rintro e u' w'' ⟨rfl, rfl, rfl⟩
  have hsome : w''.cell? ⟨w.heap.size + 1, 0, none⟩ = some (.int .i64 (replyM (p.knows c) c.back p.k)) := by rw [cellv, hr5]; rfl
  refine ⟨.int .i64 (replyM (p.knows c) c.back p.k), ?_, rfl, Hp5.out, Hfk.out, Hoo.out⟩
  simp [results, Tryz.results51, go_sem, hsome]
end Go.Proofs.YtkafmfdipmhleaaGreatDoor

namespace Go.Proofs.YtkafmfdipmhleaaGreatDoor
open Go.RowKit Go.Maps
def subStr : ByteArray := ⟨#[115, 117, 98, 109, 105, 116]⟩
end Go.Proofs.YtkafmfdipmhleaaGreatDoor
