/-
  What is proved: the contract of the journal's Append's parts, on a disk that tells no errors.
-/
import Derived.Test.YtkafmfdipmhleaaGreatDoorJn
import Derived.Test.YtkafmfdipmhleaaGreatDoorSg
import Derived.Deep.RegionHeld3
namespace Go.Proofs.YtkafmfdipmhleaaGreatDoor
open Go.RowKit

/-- Where nothing panics: what stands behind need not look at a panic. -/
def calm (Q : Exit → Act → World → Prop) : Exit → Act → World → Prop
  | .panic _, _, _ => False
  | e, a, w => Q e a w
theorem wp_calm {P : Program} {c : Code} {Q : Exit → Act → World → Prop} {a : Act} {w : World} (h : c.wp P (calm Q) a w) : c.wp P Q a w :=
  Code.wp_mono (fun e a w h => by cases e <;> first | exact h | exact h.elim) h
/-- A record that can be written. -/
structure RecM.ok (r : RecM) : Prop where
  kind : r.kind < 256
  epoch : r.epoch < 2 ^ 32
  index : r.index < 65536
  saga : r.saga < 65536
  reply : r.reply < 256
  none : r.kind ≠ 2 → r.steps = []
  small : r.kind = 2 → smallSteps r.steps
theorem bytes_rec (w : World) (r : RecM) (sv : Value) (h : r.ok) (hsv : r.kind = 2 → StepsAt w sv r.steps) :
    Calls Tryz.prog 96 #[.agg (rcells r.kind r.epoch r.index r.saga r.reply sv)] w (BytesPost w r) := by
  by_cases hk : r.kind = 2
  · obtain ⟨k, ep, ix, sg, rp, l⟩ := r
    obtain rfl : k = 2 := hk
    exact bytes_body w ep ix sg rp h.epoch h.index h.saga h.reply sv l (hsv rfl) (h.small rfl)
  · have hst := h.none hk
    obtain ⟨k, ep, ix, sg, rp, l⟩ := r
    obtain rfl : l = [] := hst
    have hk' : k ≠ 2 := hk
    exact bytes_head w k ep ix sg rp h.kind h.epoch h.index h.saga h.reply sv (by simpa using hk')
theorem recB_len_ok (r : RecM) (h : r.ok) : (recB r).length = 128 := by
  by_cases hk : r.kind = 2
  · refine recB_len r ?_
    obtain ⟨h1, h2, h3⟩ := h.small hk
    have := stepsB_le r.steps h3
    simp [bodyB, headB, hk, leN_length]
    omega
  · exact recB_len1 r hk

def placed (r : RecM) (ep ix : Nat) : RecM := { r with epoch := ep, index := ix }
def DiskM.append (d : DiskM) (ep ix : Nat) : List RecM → DiskM
  | [] => d
  | r :: rs => (d.sure ix (recBytes (placed r ep ix))).append ep (ix + 1) rs
theorem append_snoc (d : DiskM) (ep ix : Nat) (l : List RecM) (r : RecM) : d.append ep ix (l ++ [r]) = (d.append ep ix l).sure (ix + l.length) (recBytes (placed r ep (ix + l.length))) := by
  induction l generalizing d ix with
  | nil => rfl
  | cons a l ih =>
    have := ih (d.sure ix (recBytes (placed a ep ix))) (ix + 1)
    simp only [List.cons_append, DiskM.append, List.length_cons]
    rw [this, show ix + 1 + l.length = ix + (l.length + 1) by omega]
theorem DiskM.quiet.append {d : DiskM} (h : d.quiet) (ep ix : Nat) (l : List RecM) : (d.append ep ix l).quiet := by
  induction l generalizing d ix with
  | nil => exact h
  | cons a l ih => exact ih (d := d.sure ix _) ((h.put _ _).flush) _
theorem sure_len (d : DiskM) (i : Nat) (l : List UInt8) : (d.sure i l).blocks.length = d.blocks.length := by
  simp [DiskM.sure, DiskM.flush, DiskM.put, DiskM.count]
theorem append_len (d : DiskM) (ep ix : Nat) (l : List RecM) : (d.append ep ix l).blocks.length = d.blocks.length := by
  induction l generalizing d ix with
  | nil => rfl
  | cons a l ih => rw [DiskM.append, ih, sure_len]
theorem append_pend (d : DiskM) (ep ix : Nat) (l : List RecM) (h : d.pend = none) : (d.append ep ix l).pend = none := by
  induction l generalizing d ix with
  | nil => exact h
  | cons a l ih => exact ih _ _ rfl

/-- A list of records as it lies in memory. -/
structure RecsAt (w : World) (lb : Nat) (rs : List RecM) : Prop where
  ok : ∀ r ∈ rs, ∀ ep ix, ep < 2 ^ 32 → ix < 65536 → (placed r ep ix).ok
  ex : ∃ lc, w.heap[lb]? = some (.cells lc 91 (0, 0)) ∧ ∀ k r, rs[k]? = some r → ∃ sv, (∃ a m c, sv = .slice a m c) ∧ (r.kind = 2 → StepsAt w sv r.steps) ∧ ∀ i, i < 6 → lc[k * 6 + i]? = (rcells r.kind r.epoch r.index r.saga r.reply sv)[i]?
theorem RecsAt.frame {w w' : World} {lb : Nat} {rs : List RecM} {S : Nat → Prop} (h : RecsAt w lb rs) (hf : Fr S w w') (hS : ∀ k, S k → ∃ o, w.heap[k]? = some o ∧ kindOf o ≠ 55 ∧ kindOf o ≠ 92) : RecsAt w' lb rs := by
  obtain ⟨hok, lc, h1, h2⟩ := h
  refine ⟨hok, lc, hf.get h1 (fun hs => ?_), fun k r hr => ?_⟩
  · obtain ⟨o, ho, _, hk⟩ := hS lb hs
    rw [h1] at ho
    exact hk (by rw [← Option.some.inj ho]; rfl)
  · obtain ⟨sv, e1, e2, e3⟩ := h2 k r hr
    exact ⟨sv, e1, fun hk => (e2 hk).frame hf (fun k hs => by obtain ⟨o, ho, h5, _⟩ := hS k hs; exact ⟨o, ho, h5⟩), e3⟩

def AppPost (w : World) (jb db bb : Nat) (j : JnM) (d : DiskM) (rs : List RecM) (e : Ending) (w' : World) : Prop :=
  e = .returned .nilIface ∧ Fr (fun k => k = db ∨ k = bb ∨ k = jb) w w' ∧ DiskAt w' db bb ((settleD j d).append j.epoch j.en rs) ∧ JnAt w' jb db ⟨j.epoch, j.en + rs.length, false⟩
theorem settle_pend (j : JnM) (d : DiskM) (h : d.pend = none) : (settleD j d).pend = none := by
  unfold settleD; split
  · rfl
  · exact h
theorem settle_len (j : JnM) (d : DiskM) (h : d.pend = none) : (settleD j d).blocks.length = d.blocks.length := by
  unfold settleD; split
  · simp [DiskM.flush, h, DiskM.count]
  · rfl
theorem settle_quiet (j : JnM) (d : DiskM) (h : d.quiet) : (settleD j d).quiet := by
  unfold settleD; split
  · exact h.flush
  · exact h

/-- The region of a number, out of a body. -/
def regOf (n : Nat) : Code → Option Code
  | .region m l b => if m = n then some (.region m l b) else none
  | .loop c => regOf n c
  | .seq a b => match regOf n a with
    | some c => some c
    | none => regOf n b
  | .block _ c => regOf n c
  | .scope c => regOf n c
  | .cond _ a b => match regOf n a with
    | some c => some c
    | none => regOf n b
  | _ => none
noncomputable def appR9 : Code := ((Tryz.f65.body).bind (regOf 9)).getD .skip
noncomputable def appR8 : Code := ((Tryz.f65.body).bind (regOf 8)).getD .skip

set_option maxRecDepth 100000 in
set_option maxHeartbeats 4000000 in
/-- j.v.sure(r.Index, r.bytes()). -/
theorem app_r9 (jb db bb R ix : Nat) (j : JnM) (d : DiskM) (r : RecM) (sa : Option Addr) (sm sc : Nat) (W : World) (hne : jb ≠ db ∧ jb ≠ bb) (hRd : R ≠ db ∧ R ≠ bb)
    (hj : W.heap[jb]? = some (.cells (jnCells db j) 132 (0, 0))) (hr : W.heap[R]? = some (.cells #[.int .u8 r.kind, .int .u32 r.epoch, .int .i64 r.index, .int .i64 r.saga, .int .i64 r.reply, .slice sa sm sc] 91 (0, 0)))
    (hst : r.kind = 2 → StepsAt W (.slice sa sm sc) r.steps) (hok : r.ok) (hd : DiskAt W db bb d) (hq : d.quiet) (hp : d.pend = none) (hix : ix = r.index) (hil : ix < d.blocks.length)
    {ds : List Deferred} {x1 x2 x3 x4 x5 x6 x8 x9 x10 x11 x12 x13 x14 x15 x16 x17 x18 x19 x20 x21 x22 x23 x24 x25 x26 x27 x28 x29 x30 x31 x32 x33 x34 x35 x36 x37 x38 x39 x40 x41 x42 x43 x44 x45 x46 x47 x48 x49 x50 x51 : Value} {Q : Exit → Act → World → Prop}
    (hQ : ∀ (y33 y34 y35 y36 y37 y38 y39 y40 y41 : Value) (w' : World), Fr (fun k => k = db ∨ k = bb) W w' → DiskAt w' db bb (d.sure ix (recBytes r)) → Q .normal ⟨#[.pointer (some ⟨jb, 0, none⟩), x1, x2, x3, x4, x5, x6, .pointer (some ⟨R, 0, none⟩), x8, x9, x10, x11, x12, x13, x14, x15, x16, x17, x18, x19, x20, x21, x22, x23, x24, x25, x26, x27, x28, x29, x30, x31, x32, y33, y34, y35, y36, y37, y38, y39, y40, y41, x42, x43, x44, x45, x46, x47, x48, x49, x50, x51], ds⟩ w') :
    Code.wp Tryz.prog appR9 Q ⟨#[.pointer (some ⟨jb, 0, none⟩), x1, x2, x3, x4, x5, x6, .pointer (some ⟨R, 0, none⟩), x8, x9, x10, x11, x12, x13, x14, x15, x16, x17, x18, x19, x20, x21, x22, x23, x24, x25, x26, x27, x28, x29, x30, x31, x32, x33, x34, x35, x36, x37, x38, x39, x40, x41, x42, x43, x44, x45, x46, x47, x48, x49, x50, x51], ds⟩ W := by
  subst hix
  have a0 : W.cell? ⟨jb, 0, none⟩ = some (.iface 27 (.pointer (some ⟨db, 0, none⟩))) := by rw [cellv, hj]; rfl
  have r0 : W.cell? ⟨R, 0, none⟩ = some (.int .u8 r.kind) := by rw [cellv, hr]; rfl
  have r1 : W.cell? ⟨R, 1, none⟩ = some (.int .u32 r.epoch) := by rw [cellv, hr]; rfl
  have r2 : W.cell? ⟨R, 2, none⟩ = some (.int .i64 r.index) := by rw [cellv, hr]; rfl
  have r3 : W.cell? ⟨R, 3, none⟩ = some (.int .i64 r.saga) := by rw [cellv, hr]; rfl
  have r4 : W.cell? ⟨R, 4, none⟩ = some (.int .i64 r.reply) := by rw [cellv, hr]; rfl
  have r5 : W.cell? ⟨R, 5, none⟩ = some (.slice sa sm sc) := by rw [cellv, hr]; rfl
  have HK := Lib.hid (show ∀ (w' : World), Fr (fun k => k = db ∨ k = bb) W.drew w' → w'.cell? ⟨jb, 0, none⟩ = some (.iface 27 (.pointer (some ⟨db, 0, none⟩))) ∧ w'.cell? ⟨R, 0, none⟩ = some (.int .u8 r.kind) ∧ w'.cell? ⟨R, 1, none⟩ = some (.int .u32 r.epoch) ∧ w'.cell? ⟨R, 2, none⟩ = some (.int .i64 r.index) ∧ w'.cell? ⟨R, 3, none⟩ = some (.int .i64 r.saga) ∧ w'.cell? ⟨R, 4, none⟩ = some (.int .i64 r.reply) ∧ w'.cell? ⟨R, 5, none⟩ = some (.slice sa sm sc) from by
    intro w' hf
    have e1 := hf.get (w := W.drew) hj (by omega)
    have e2 := hf.get (w := W.drew) hr (by omega)
    refine ⟨?_, ?_, ?_, ?_, ?_, ?_, ?_⟩ <;> rw [cellv] <;> first | (rw [e1]; rfl) | (rw [e2]; rfl))
  have HB := Lib.hid (show Calls Tryz.prog 96 #[.agg #[.int .u8 r.kind, .int .u32 r.epoch, .int .i64 r.index, .int .i64 r.saga, .int .i64 r.reply, .slice sa sm sc]] W.drew (BytesPost W.drew r) from bytes_rec W.drew r (.slice sa sm sc) hok (fun h => hst h))
  have HS := Lib.hid (fun (w10 : World) (nb : Nat) (hf10 : New W.drew w10) (hwc : w10.heap[nb]? = some (.cells (wayCells (recB r) 4) 201 (0, 0))) => show Calls Tryz.prog 95 #[.agg #[.iface 27 (.pointer (some ⟨db, 0, none⟩))], .int .i64 r.index, .slice (some ⟨nb, 0, none⟩) (endOf r) (endOf r)] w10 (fun e w' => e = .returned (.tuple #[]) ∧ Fr (fun k => k = db ∨ k = bb) w10 w' ∧ DiskAt w' db bb (d.sure r.index (recBytes r))) from sure_quiet ((hd.new ((Fr.refl _ W).drew)).new hf10) hq r.index hil hp nb _ (recB_len_ok _ hok) hwc)
  have HQ := Lib.hid hQ
  clear hj hr hst hd hq hp hil hok hQ hne hRd
  conv => arg 2; whnf
  go_region_held3 (fun w' => w'.cell? ⟨jb, 0, none⟩ = some (.iface 27 (.pointer (some ⟨db, 0, none⟩))) ∧ w'.cell? ⟨R, 0, none⟩ = some (.int .u8 r.kind) ∧ w'.cell? ⟨R, 1, none⟩ = some (.int .u32 r.epoch) ∧ w'.cell? ⟨R, 2, none⟩ = some (.int .i64 r.index) ∧ w'.cell? ⟨R, 3, none⟩ = some (.int .i64 r.saga) ∧ w'.cell? ⟨R, 4, none⟩ = some (.int .i64 r.reply) ∧ w'.cell? ⟨R, 5, none⟩ = some (.slice sa sm sc))
    (first | exact HK.out _ (Fr.refl _ _) | exact HK.out _ (hf10.mono (fun _ _ f => f.elim)) | exact HK.out _ ((hf10.mono (fun _ _ f => f.elim)).trans hf11))
    ((first
      | (go_at_call 96; refine Calls.mono HB.out ?_; rintro e w10 ⟨nb, rfl, hnb, hwc, hf10⟩)
      | (go_at_call 95; refine Calls.mono (HS.out _ _ hf10 hwc) ?_; rintro e w11 ⟨rfl, hf11, hd11⟩)
      | fail))
  exact HQ.out _ _ _ _ _ _ _ _ _ _ (((Fr.refl _ W).drew.trans (hf10.mono (fun _ _ f => f.elim))).trans hf11) hd11

set_option maxRecDepth 100000 in
set_option maxHeartbeats 4000000 in
/-- r.Epoch, r.Index = j.epoch, j.end+i. -/
theorem app_r8 (jb db R : Nat) (j : JnM) (kd ep ix sg rp k : Nat) (sv : Value) (W : World)
    (hj : W.heap[jb]? = some (.cells (jnCells db j) 132 (0, 0))) (hr : W.heap[R]? = some (.cells #[.int .u8 kd, .int .u32 ep, .int .i64 ix, .int .i64 sg, .int .i64 rp, sv] 91 (0, 0)))
    (hb : j.en ≤ 1000 ∧ k ≤ 1000)
    {ds : List Deferred} {x1 x2 x3 x4 x5 x8 x9 x10 x11 x12 x13 x14 x15 x16 x17 x18 x19 x20 x21 x22 x23 x24 x25 x26 x27 x28 x29 x30 x31 x32 x33 x34 x35 x36 x37 x38 x39 x40 x41 x42 x43 x44 x45 x46 x47 x48 x49 x50 x51 : Value} {Q : Exit → Act → World → Prop}
    (hQ : ∀ (y21 y22 y23 y24 y25 y26 y27 y28 y29 y30 y31 y32 : Value) (w' : World), Fr (· = R) W w' → w'.heap[R]? = some (.cells #[.int .u8 kd, .int .u32 j.epoch, .int .i64 ((j.en + k : Nat) : Int), .int .i64 sg, .int .i64 rp, sv] 91 (0, 0)) → Q .normal ⟨#[.pointer (some ⟨jb, 0, none⟩), x1, x2, x3, x4, x5, .int .i64 k, .pointer (some ⟨R, 0, none⟩), x8, x9, x10, x11, x12, x13, x14, x15, x16, x17, x18, x19, x20, y21, y22, y23, y24, y25, y26, y27, y28, y29, y30, y31, y32, x33, x34, x35, x36, x37, x38, x39, x40, x41, x42, x43, x44, x45, x46, x47, x48, x49, x50, x51], ds⟩ w') :
    Code.wp Tryz.prog appR8 Q ⟨#[.pointer (some ⟨jb, 0, none⟩), x1, x2, x3, x4, x5, .int .i64 k, .pointer (some ⟨R, 0, none⟩), x8, x9, x10, x11, x12, x13, x14, x15, x16, x17, x18, x19, x20, x21, x22, x23, x24, x25, x26, x27, x28, x29, x30, x31, x32, x33, x34, x35, x36, x37, x38, x39, x40, x41, x42, x43, x44, x45, x46, x47, x48, x49, x50, x51], ds⟩ W := by
  have hRj : jb ≠ R := ne_of_kind hj hr (by simp [kindOf])
  have hRj' : R ≠ jb := fun e => hRj e.symm
  simp only [jnCells] at hj
  have a1 : W.cell? ⟨jb, 1, none⟩ = some (.int .u32 j.epoch) := by rw [cellv, hj]; rfl
  have a2 : W.cell? ⟨jb, 2, none⟩ = some (.int .i64 j.en) := by rw [cellv, hj]; rfl
  have r1 : W.cell? ⟨R, 1, none⟩ = some (.int .u32 ep) := by rw [cellv, hr]; rfl
  have r2 : W.cell? ⟨R, 2, none⟩ = some (.int .i64 ix) := by rw [cellv, hr]; rfl
  have f1 : W.frozen? ⟨R, 1, none⟩ = false := by rw [frozv, hr]; rfl
  have f2 : W.frozen? ⟨R, 2, none⟩ = false := by rw [frozv, hr]; rfl
  have hw : wrap64 ((j.en : Int) + (k : Int)) = ((j.en + k : Nat) : Int) := by
    rw [wrap_in _ (by omega)]; omega
  have hw' : IntKind.i64.wrap ((j.en : Int) + (k : Int)) = ((j.en + k : Nat) : Int) := by
    rw [IntWalk.i64_in _ (by omega)]; omega
  have HQ := Lib.hid hQ
  have Hr := Lib.hid hr
  generalize j.en + k = s at hw hw' HQ
  clear hj hr hQ hb
  conv => arg 2; whnf
  go_region_held3 (fun w' => w'.cell? ⟨jb, 1, none⟩ = some (.int .u32 j.epoch) ∧ w'.cell? ⟨jb, 2, none⟩ = some (.int .i64 j.en) ∧ w'.frozen? ⟨R, 1, none⟩ = false ∧ w'.frozen? ⟨R, 2, none⟩ = false)
    (go_keep)
    ((fail))
  refine HQ.out _ _ _ _ _ _ _ _ _ _ _ _ _ ((Fr.one R W 1 (.int .u32 j.epoch)).trans (Fr.one R _ 2 (.int .i64 s))).drew ?_
  rw [hp_drew, hp_setCell, if_pos rfl, hp_setCell, if_pos rfl, Hr.out]; rfl
end Go.Proofs.YtkafmfdipmhleaaGreatDoor
