/-
  What is proved: the contract of journal's parse, wherever the texts do not go beyond the block (parseM says what it answers). the partner: what it asks and answers; the drawn regions of Ask. the partner's done. the contract of the partner's Ask. the contract of the disk's Write.
-/
import Derived.Test.YtkafmfdipmhleaaGreatDoorUx1
import Derived.Deep.RegionHeld3
import Derived.Deep.DeepCutAuto
import Derived.Deep.AppendLies
import Derived.Laws.ResultCell
import Derived.Deep.QuietTactic
import Derived.BigQuiet
import Derived.Deep.CutBlock
import Derived.Deep.RegionLaw
import Derived.Great.BuildSlice

namespace Go.Proofs.YtkafmfdipmhleaaGreatDoor
open Go.RowKit
/-- get over a part of a row of bytes. -/
theorem get_row {w : World} {g : Nat} {gc : Array Value} {gt : TypeId} {bs : List UInt8} (hb : w.heap[g]? = some (.cells gc gt (0, 0))) (hgc : ∀ j, j < 128 → gc[j]? = some (bv (bs.getD j 0))) (hbs : bs.length = 128) (off n cap : Nat) (h : off + n ≤ 128) (hn : n ≤ 4) :
    Calls Tryz.prog 131 #[.slice (some ⟨g, off, none⟩) n cap] w fun e w' => e = .returned (.int .i64 (leVal ((bs.drop off).take n))) ∧ w = w' := by
  have hl : ((bs.drop off).take n).length = n := by simp; omega
  have := get_calls w ((bs.drop off).take n) g off cap (by omega) (by
    intro j hj
    rw [hb, cellOf_cells, hgc _ (by omega)]
    rw [List.getD_eq_getElem?_getD, List.getD_eq_getElem?_getD, List.getElem?_take_of_lt (by omega), List.getElem?_drop])
  rwa [hl] at this
theorem get_q {w : World} {g : Nat} {gc : Array Value} {gt : TypeId} {bs : List UInt8} (hb : w.heap[g]? = some (.cells gc gt (0, 0))) (hgc : ∀ j, j < 128 → gc[j]? = some (bv (bs.getD j 0))) (hbs : bs.length = 128) (off n cap N : Nat) (h : off + n ≤ 128) (hn : n ≤ 4) :
    Calls Tryz.prog 131 #[.slice (some ⟨g, off, none⟩) n cap] (w.drewN N) fun e w' => e = .returned (.int .i64 (leVal ((bs.drop off).take n))) ∧ ∃ m, w' = w.drewN m :=
  (get_row (w := w.drewN N) hb hgc hbs off n cap h hn).mono fun _ _ ⟨h1, h2⟩ => ⟨h1, N, h2.symm⟩
theorem crc_q {w : World} {g : Nat} {gc : Array Value} {gt : TypeId} {bs : List UInt8} (hb : w.heap[g]? = some (.cells gc gt (0, 0))) (hgc : ∀ j, j < 128 → gc[j]? = some (bv (bs.getD j 0))) (hbs : bs.length = 128) (off n cap N : Nat) (h : off + n ≤ 128) :
    Calls Tryz.prog 119 #[.slice (some ⟨g, off, none⟩) n cap] (w.drewN N) fun e w' => e = .returned (.int .u32 (crcM ((bs.drop off).take n))) ∧ ∃ m, w' = w.drewN m := by
  have hl : ((bs.drop off).take n).length = n := by simp; omega
  have := crc_calls (w.drewN N) ((bs.drop off).take n) g off cap (by omega) (by
    intro j hj
    rw [hp_drewN, hb, cellOf_cells, hgc _ (by omega)]
    rw [List.getD_eq_getElem?_getD, List.getD_eq_getElem?_getD, List.getElem?_take_of_lt (by omega), List.getElem?_drop])
  rw [hl] at this
  exact this.mono fun _ _ ⟨h1, h2⟩ => ⟨h1, N, h2.symm⟩
def kindB (bs : List UInt8) : Nat := (bs[4]?.getD 0).toNat
def epochB (bs : List UInt8) : Nat := leVal ((bs.drop 5).take 4)
def indexB (bs : List UInt8) : Nat := leVal ((bs.drop 9).take 2)
def sagaB (bs : List UInt8) : Nat := leVal ((bs.drop 11).take 2)
def replyB (bs : List UInt8) : Nat := leVal ((bs.drop 13).take 1)
def rcells (k ep ix sg rp : Nat) (sv : Value) : Array Value := #[.int .u8 k, .int .u32 ep, .int .i64 ix, .int .i64 sg, .int .i64 rp, sv]
theorem S_of {w' : World} {g : Nat} {gc : Array Value} {gt : TypeId} {v : Value} {k : Nat} (h4 : gc[k]? = some v) (h : w'.heap[g]? = some (.cells gc gt (0, 0))) :
    w'.heap[g]? = some (.cells gc gt (0, 0)) ∧ w'.cell? ⟨g, k, none⟩ = some v := ⟨h, by rw [cellv, h, cellOf_cells]; exact h4⟩
/-- What a block holds, if it is taken for a record; none: nothing is said (its texts go too far). -/
def takeSteps : Nat → List UInt8 → Option (List (ByteArray × ByteArray))
  | 0, _ => some []
  | n + 1, r =>
    match takeOne r with
    | none => none
    | some (a, r1) =>
      match takeOne r1 with
      | none => none
      | some (b, r2) => (takeSteps n r2).map ((a, b) :: ·)
def recOf (bs : List UInt8) (l : List (ByteArray × ByteArray)) : RecM := ⟨kindB bs, epochB bs, indexB bs, sagaB bs, replyB bs, l⟩
def sumOk (bs : List UInt8) : Prop := (leVal (bs.take 4) : Int) = crcM ((bs.drop 4).take ((if kindB bs = 2 then 128 else 32) - 4))
instance (bs : List UInt8) : Decidable (sumOk bs) := by unfold sumOk; infer_instance
def parseM (bs : List UInt8) : Option (RecM × Bool) :=
  if sumOk bs then
    if kindB bs = 2 then (takeSteps (bs[14]?.getD 0).toNat (bs.drop 15)).map fun l => (recOf bs l, true)
    else some (recOf bs [], decide (1 ≤ kindB bs) && decide (kindB bs ≤ 4))
  else some (recOf bs [], false)
theorem results_row_tmp {P : Program} {fn : Func} {q u : Tmp} {ty : TypeId} (h : fn.results = #[.cell q ty, .tmp u]) (tmps : Array Value) (w : World) (g : Nat) (t : TypeId) (cs : Array Value) (fr : Nat × Nat) (d : TypeDesc)
    (hp : tmps.getD q undef = .pointer (some ⟨g, 0, none⟩)) (hg : w.heap[g]? = some (.cells cs t fr))
    (hu : P.underlying ty = some d) (hd : (match d with | .struct _ | .array _ _ => true | _ => false) = true) (hi : (P.info? ty).map (·.size) = some cs.size) :
    (results fn tmps).run P w = .ok (.tuple #[.agg cs, tmps.getD u undef]) w := by
  rw [results_cell_tmp h, hp]
  simp [asAddr, run_loadVar_row w g t ty cs fr d hg hu hd hi]
theorem Tryz.info91s : (Tryz.prog.info? 91).map (·.size) = some 6 := by kernel_rfl
theorem takeOne_some {R : List UInt8} {a : ByteArray} {r1 : List UInt8} (h : takeOne R = some (a, r1)) : ∃ x t, R = x :: t ∧ x.toNat < t.length ∧ a = ⟨(t.take x.toNat).toArray⟩ ∧ r1 = t.drop x.toNat := by
  cases R with
  | nil => simp [takeOne] at h
  | cons x t =>
    simp only [takeOne] at h
    split at h
    · rename_i hlt
      simp only [Option.some.injEq, Prod.mk.injEq] at h
      exact ⟨x, t, rfl, hlt, h.1.symm, h.2.symm⟩
    · cases h
theorem takeOne_len {R : List UInt8} {a : ByteArray} {r1 : List UInt8} (h : takeOne R = some (a, r1)) : r1.length ≤ R.length := by
  obtain ⟨x, t, rfl, _, _, rfl⟩ := takeOne_some h
  simp; omega
theorem takeSteps_succ {n : Nat} {R : List UInt8} {L : List (ByteArray × ByteArray)} (h : takeSteps (n + 1) R = some L) :
    ∃ a r1 b r2 L2, takeOne R = some (a, r1) ∧ takeOne r1 = some (b, r2) ∧ takeSteps n r2 = some L2 ∧ L = (a, b) :: L2 := by
  simp only [takeSteps] at h
  split at h
  · cases h
  · rename_i a r1 h1
    split at h
    · cases h
    · rename_i b r2 h2
      obtain ⟨L2, h3, rfl⟩ := Option.map_eq_some_iff.1 h
      exact ⟨a, r1, b, r2, L2, h1, h2, h3, rfl⟩
theorem take_c {w : World} {g q : Nat} {gc : Array Value} {gt : TypeId} {R r1 : List UInt8} {a : ByteArray} {v : Value} (h : takeOne R = some (a, r1)) (hlen : R.length ≤ 128) (hg : w.heap[g]? = some (.cells gc gt (0, 0)))
    (hq : w.heap[q]? = some (.cells #[v] 92 (0, 0))) (hr : RestAt gc g R v) :
    Calls Tryz.prog 132 #[.pointer (some ⟨q, 0, none⟩)] w fun e w' => ∃ v', e = .returned (.string a) ∧ w'.heap[q]? = some (.cells #[v'] 92 (0, 0)) ∧ RestAt gc g r1 v' ∧ Fr (· = q) w w' := by
  obtain ⟨x, t, rfl, hx, rfl, rfl⟩ := takeOne_some h
  exact take_calls w g q gc gt x t v (by simp at hlen; omega) hx hg hq hr
theorem Tryz.info54 : (Tryz.prog.info? 54).map (fun i => (i.zero, i.size, i.bytes)) = some (some (.agg #[.string ⟨#[]⟩, .string ⟨#[]⟩]), 2, 32) := by kernel_rfl
theorem heap_alloc_old' {w : World} {k : Nat} {x : Obj} (o : Obj) (h : w.heap[k]? = some x) : (w.alloc o).heap[k]? = some x := by
  rw [hp_alloc, if_neg (ne_size_of_hp h)]; exact h
theorem news2 (w : World) (x y : Value) (t : TypeId) : ∀ (j : Nat) u, ([x, y] : List Value)[j]? = some u → (w.alloc (.cells #[x, y] t)).cell? ((⟨w.heap.size, 0, none⟩ : Addr).add j) = some u := by
  intro j u hj
  match j, hj with
  | 0, hj => rw [← hj]; simp [Addr.add]
  | 1, hj => rw [← hj]; simp [Addr.add]
theorem one2 (a b : ByteArray) : ∀ u ∈ ([.string a, .string b] : List Value), u.oneCell' = true := by
  intro u hu
  simp at hu
  rcases hu with rfl | rfl <;> rfl
theorem own_other {w : World} {base : Nat} {e : TypeId} {size : Nat} {v : Value} {n : Nat} {xs : List Value} {k : Nat} {x : Obj} (h : w.ownsRow base e size v n xs) (hk : w.heap[k]? = some x) (hx : kindOf x ≠ e + 1) : ¬ v.ownBlock = some k := by
  intro hv
  rcases h.2 with ⟨rfl, _⟩ | ⟨g, cap, cur, rfl, hg, hh, r⟩
  · simp [Value.ownBlock] at hv
  · obtain rfl : g = k := by simpa [Value.ownBlock] using hv
    rw [hh] at hk
    exact hx (by rw [← Option.some.inj hk]; rfl)
theorem own_base {w : World} {base : Nat} {e : TypeId} {size : Nat} {v : Value} {n : Nat} {xs : List Value} {k : Nat} (h : w.ownsRow base e size v n xs) (hv : v.ownBlock = some k) : base ≤ k := by
  rcases h.2 with ⟨rfl, _⟩ | ⟨g, cap, cur, rfl, hg, hh, r⟩
  · simp [Value.ownBlock] at hv
  · obtain rfl : g = k := by simpa [Value.ownBlock] using hv
    exact hg
theorem own_slice {w : World} {base : Nat} {e : TypeId} {size : Nat} {v : Value} {n : Nat} {xs : List Value} (h : w.ownsRow base e size v n xs) : ∃ a m c, v = .slice a m c := by
  rcases h.2 with ⟨rfl, _⟩ | ⟨g, cap, cur, rfl, _⟩
  · exact ⟨_, _, _, rfl⟩
  · exact ⟨_, _, _, rfl⟩
theorem ownsRow_base_le {w : World} {base base' : Nat} {e : TypeId} {size : Nat} {v : Value} {n : Nat} {xs : List Value} (h : w.ownsRow base e size v n xs) (hb : base' ≤ base) : w.ownsRow base' e size v n xs := by
  refine ⟨h.1, ?_⟩
  rcases h.2 with h2 | ⟨g, cap, cur, hv, hg, r⟩
  · exact Or.inl h2
  · exact Or.inr ⟨g, cap, cur, hv, Nat.le_trans hb hg, r⟩
theorem ownsRow_drew {w : World} {base : Nat} {e : TypeId} {size : Nat} {v : Value} {n : Nat} {xs : List Value} (h : w.ownsRow base e size v n xs) : w.drew.ownsRow base e size v n xs := h
/-- What the call owns stays owned, if no block of its kind turns. -/
theorem ownsRow_fr {w w' : World} {base : Nat} {e : TypeId} {size : Nat} {v : Value} {n : Nat} {xs : List Value} {S : Nat → Prop} (h : w.ownsRow base e size v n xs) (hf : Fr S w w')
    (hS : ∀ k, S k → ∃ o, w.heap[k]? = some o ∧ kindOf o ≠ e + 1) : w'.ownsRow base e size v n xs := by
  obtain ⟨h1, h2⟩ := h
  refine ⟨h1, ?_⟩
  rcases h2 with h2 | ⟨g, cap, cur, hv, hg, hh, r⟩
  · exact Or.inl h2
  · refine Or.inr ⟨g, cap, cur, hv, hg, hf.get hh (fun hs => ?_), r⟩
    obtain ⟨o, ho, hk⟩ := hS g hs
    rw [hh] at ho
    exact hk (by rw [← Option.some.inj ho]; rfl)
/-- A slice value whose steps read as l: nil if there are none. -/
def StepsVal (w : World) (B : Nat) (v : Value) (l : List (ByteArray × ByteArray)) : Prop := w.ownsRow B 54 2 v l.length (stepCells l)
def ParsePost (w : World) (r : RecM) (ok : Bool) (e : Ending) (w' : World) : Prop :=
  ∃ sv, e = .returned (.tuple #[.agg (rcells r.kind r.epoch r.index r.saga r.reply sv), .bool ok]) ∧ StepsVal w' w.heap.size sv r.steps ∧ New w w'
theorem epochB_lt (bs : List UInt8) : epochB bs < 2 ^ 32 := by
  have := leVal_lt ((bs.drop 5).take 4)
  refine Nat.lt_of_lt_of_le this (Nat.pow_le_pow_right (by omega) ?_)
  simp; omega
theorem u32_wrap {n : Nat} (h : n < 2 ^ 32) : IntKind.u32.wrap (n : Int) = n := by
  simp [IntKind.wrap, IntKind.signed, IntKind.bits]
  omega
set_option maxRecDepth 100000 in
set_option maxHeartbeats 4000000 in
theorem parse_calls (w : World) (g : Nat) (gc : Array Value) (gt : TypeId) (bs : List UInt8) (r : RecM) (ok : Bool) (hbs : bs.length = 128) (hg : w.heap[g]? = some (.cells gc gt (0, 0))) (hgc : ∀ j, j < 128 → gc[j]? = some (bv (bs.getD j 0))) (hp : parseM bs = some (r, ok)) :
    Calls Tryz.prog 104 #[.slice (some ⟨g, 0, none⟩) 128 128] w (ParsePost w r ok) := by
  have h4 := hgc 4 (by omega)
  rw [List.getD_eq_getElem?_getD] at h4
  unfold bv at h4
  have hgl := lt_of_hp hg
  have hc4 : w.cell? ⟨g, 4, none⟩ = some (.int .u8 ((bs[4]?.getD 0).toNat : Int)) := by rw [cellv, hg, cellOf_cells, h4]
  have hwne := World.new_ne w ⟨g, 4, none⟩ hc4
  have Hgc := Lib.hid hgc
  have H4 := Lib.hid h4
  have Hbs := Lib.hid hbs
  have Hp := Lib.hid hp
  clear hgc h4 hbs hp
  go_enter Tryz.func104, Tryz.ntmps104
  go_upto_region 1 with fail
  go_cut [4] (fun s4 wx => s4 = .pointer (some ⟨w.heap.size + 1, 0, none⟩) ∧ wx.heap[w.heap.size + 1]? = some (.cells (rcells (kindB bs) (epochB bs) (indexB bs) (sagaB bs) (replyB bs) (.slice none 0 0)) 91 (0, 0)) ∧ New (w.alloc (.cells #[Value.int .u8 0, .int .u32 0, .int .i64 0, .int .i64 0, .int .i64 0, .slice none 0 0] 91)) wx)
  case first =>
    go_region_held3 (fun w' => w'.heap[g]? = some (.cells gc gt (0, 0)) ∧ w'.cell? ⟨g, 4, none⟩ = some (.int .u8 ((bs[4]?.getD 0).toNat : Int)))
      ((refine S_of H4.out ?_; (repeat (first | rw [hp_drew] | rw [hp_alloc, if_neg (by first | omega | (simp; omega))])); assumption))
      ((go_at_call 131; refine Calls.mono (get_row (gc := gc) (gt := gt) ?_ Hgc.out Hbs.out _ _ _ ?_ ?_) ?_; ((repeat (first | rw [hp_drew] | rw [hp_alloc, if_neg (by first | omega | (simp; omega))])); assumption); omega; omega; rintro e w' ⟨rfl, rfl⟩))
    all_goals
      have hwr := u32_wrap (epochB_lt bs)
      go_wp2_with fail
      go_meet
      refine ⟨rfl, ?_, ((Fr.refl _ _).alloc _).drew⟩
      rw [hp_drew, hp_alloc, if_pos (by simp)]
      simp only [rcells, kindB, indexB, sagaB, replyB]
      rw [← hwr]
      rfl
  case rest =>
    obtain ⟨rfl, hr1, hn1⟩ := hcut
    have hz1 : wc.heap[w.heap.size]? = some (.cells #[Value.int .u8 0, .int .u32 0, .int .i64 0, .int .i64 0, .int .i64 0, .slice none 0 0] 91 (0, 0)) := hn1.get (by rw [hp_alloc, if_pos rfl]) (fun f => f)
    have hg1 : wc.heap[g]? = some (.cells gc gt (0, 0)) := hn1.get (by rw [hp_alloc, if_neg (by omega)]; exact hg) (fun f => f)
    have hnw : New w wc := ((Fr.refl _ w).alloc _).trans hn1
    have hep := epochB_lt bs
    have hk : kindB bs < 256 := (bs[4]?.getD 0).toNat_lt
    simp only [rcells] at hr1
    clear hc4 hg hn1
    have hcv := cellv wc
    by_cases hk2 : kindB bs = 2
    · have hkB : ((kindB bs : Int) == 2) = true := by rw [hk2]; rfl
      have hso : sumOk bs ↔ (leVal ((bs.drop 0).take 4) : Int) = crcM ((bs.drop 4).take 124) := by simp [sumOk, hk2]
      have hkm : parseM bs = if sumOk bs then (takeSteps (bs[14]?.getD 0).toNat (bs.drop 15)).map (fun l => (recOf bs l, true)) else some (recOf bs [], false) := by simp [parseM, hk2]
      have qcrc := fun N => crc_q hg1 Hgc.out Hbs.out 4 124 124 N (by omega)
      have qget := fun N => get_q hg1 Hgc.out Hbs.out 0 4 128 N (by omega) (by omega)
      obtain ⟨hcr0, hcr1⟩ := crcM_u32 ((bs.drop 4).take 124)
      generalize crcM ((bs.drop 4).take 124) = cr at hcr0 hcr1 qcrc hso
      generalize leVal ((bs.drop 0).take 4) = lv at qget hso
      have Qcrc := Lib.hid qcrc
      have Qget := Lib.hid qget
      have Hkm := Lib.hid (hkm.symm.trans Hp.out)
      have hneq : ((lv : Int) != cr) = !decide (sumOk bs) := by
        by_cases h : sumOk bs
        · simp [h, hso.1 h]
        · have : ¬ (lv : Int) = cr := fun e => h (hso.2 e)
          simp [h, this]
      have hk2n : Hid (kindB bs = 2) := hk2
      clear hkm hso qcrc qget hk2
      by_cases hs : sumOk bs
      · rw [decide_eq_true hs] at hneq
        have Hs := Lib.hid hs
        clear hs
        have hmf : ∀ (fn : Fn) (first cap : Array Value) (w : World), (Instr.makeFunc fn first cap).run Tryz.prog w = .ok (.func fn first cap) w := fun _ _ _ _ => rfl
        have h14 := Hgc.out 14 (by omega)
        rw [List.getD_eq_getElem?_getD] at h14
        unfold bv at h14
        have hcl : (bs[14]?.getD 0).toNat < 256 := (bs[14]?.getD 0).toNat_lt
        go_wp2_with fail
        go_quiet (first | (go_at_call 131; exact Qget.out _) | (go_at_call 119; exact Qcrc.out _))
        have hcv2 := cellv (wc.drewN nq)
        have hr2 := (hp_drewN wc nq _).trans hr1
        have hz2 := (hp_drewN wc nq _).trans hz1
        have hg2 := (hp_drewN wc nq _).trans hg1
        have hn2 := hnw.drewN nq
        generalize wc.drewN nq = W2 at hcv2 hr2 hz2 hg2 hn2 ⊢
        clear hr1 hz1 hg1 hnw hcv
        have Hgl2 := Lib.hid (lt_of_hp hg2)
        have Hrl2 := Lib.hid (lt_of_hp hr2)
        have Hzl2 := Lib.hid (lt_of_hp hz2)
        have hcvA := cellv (W2.alloc (.cells #[.slice (some ⟨g, 15, none⟩) 113 113] 92))
        have hgA : (W2.alloc (.cells #[.slice (some ⟨g, 15, none⟩) 113 113] 92)).heap[g]? = some (.cells gc gt (0, 0)) := by rw [hp_alloc, if_neg (Nat.ne_of_lt Hgl2.out)]; exact hg2
        go_wp2_with fail
        have hgl2 := Hgl2.out
        have hrl2 := Hrl2.out
        have hzl2 := Hzl2.out
        clear hcvA hgA
        have hkm := Hkm.out
        rw [if_pos Hs.out] at hkm
        generalize hcnt : (bs[14]?.getD 0).toNat = cnt at hkm hcl ⊢
        obtain ⟨L, hL, hkm2⟩ := Option.map_eq_some_iff.1 hkm
        simp only [Prod.mk.injEq] at hkm2
        have HL := Lib.hid hL
        have Hkm2 := Lib.hid hkm2
        have Hcnt := Lib.hid hcnt
        clear hkm hkm2 hL hcnt h14 hcv2
        go_loopw [49] (fun i wr => ∃ m acc R L' sv v, m ≤ cnt ∧ R.length ≤ 113 ∧ i = .int .i64 (m : Nat) ∧ acc.length = m ∧ takeSteps (cnt - m) R = some L' ∧ acc ++ L' = L ∧ RestAt gc g R v ∧ wr.heap[W2.heap.size]? = some (.cells #[v] 92 (0, 0)) ∧
          wr.heap[w.heap.size + 1]? = some (.cells (rcells (kindB bs) (epochB bs) (indexB bs) (sagaB bs) (replyB bs) sv) 91 (0, 0)) ∧ StepsVal wr W2.heap.size sv acc ∧ Fr (fun k => k = W2.heap.size ∨ k = w.heap.size + 1) W2 wr) (fun i _ => cnt - (intOf i).toNat)
        case atStart =>
          refine ⟨0, [], bs.drop 15, L, .slice none 0 0, .slice (some ⟨g, 15, none⟩) 113 113, by omega, by simp [Hbs.out], rfl, rfl, HL.out, rfl, ⟨15, by simp [Hbs.out], ?_⟩, by rw [hp_alloc, if_pos rfl], ?_, ?_, (Fr.refl _ _).alloc _⟩
          · intro j hj
            simp [Hbs.out] at hj
            rw [Hgc.out _ (by omega)]
            simp [List.getElem?_drop]
          · rw [hp_alloc, if_neg (by omega)]; exact hr2
          · exact ⟨by simp [stepCells], Or.inl ⟨rfl, rfl⟩⟩
        case round =>
          obtain ⟨m, acc, R, L', sv, v, hm, hRl, rfl, hal, hts, hacc, hR, hq, hrr, hsv, hfr⟩ := hrel
          have hgr : wr.heap[g]? = some (.cells gc gt (0, 0)) := hfr.get hg2 (by omega)
          have hzr := hfr.get hz2 (by omega)
          by_cases hlt : m < cnt
          · obtain ⟨k, hk1⟩ : ∃ k, cnt - m = k + 1 := ⟨cnt - m - 1, by omega⟩
            rw [hk1] at hts
            obtain ⟨a, r1, b, r2, L2, ht1, ht2, ht3, rfl⟩ := takeSteps_succ hts
            have hl1 := takeOne_len ht1
            have hl2 := takeOne_len ht2
            have hgq : g ≠ W2.heap.size := Nat.ne_of_lt hgl2
            have hrq : w.heap.size + 1 ≠ W2.heap.size := Nat.ne_of_lt hrl2
            have HTS := Lib.hid (And.intro hacc ht3)
            have Hal := Lib.hid hal
            have Hk1 := Lib.hid hk1
            have Hfr := Lib.hid hfr
            have hBr : W2.heap.size ≤ wr.heap.size := hfr.size
            have Hzr := Lib.hid hzr
            clear hts hacc hal hk1 ht3 hfr hzr
            go_wp2_with fail
            refine Calls.mono (take_c ht1 (by omega) hgr hq hR) ?_
            rintro e w1 ⟨v1, rfl, hq1, hR1, hf1⟩
            have hg1 := hf1.get hgr hgq
            have hrr1 := hf1.get hrr hrq
            have hsv1 := ownsRow_fr hsv hf1 (by rintro k rfl; exact ⟨_, hq, by simp [kindOf]⟩)
            have Hf1 := Lib.hid hf1
            have HB2 := Lib.hid (Nat.le_trans hBr hf1.size)
            obtain ⟨i54, hi54, hz54, hs54, hb54⟩ := info_parts Tryz.info54
            have hml : acc.length + 1 ≤ maxLen := by rw [Hal.out]; unfold maxLen; omega
            have hmb : (acc.length + 1) * 32 ≤ 140737488355328 := by rw [Hal.out]; omega
            clear hq hgr hrr hsv hf1
            go_wp2_with fail
            have hr5 : (rcells (kindB bs) (epochB bs) (indexB bs) (sagaB bs) (replyB bs) sv)[5]? = some sv := rfl
            have hcv1 := cellv w1
            go_region_law (first
              | (refine step_append_lies _ (by rfl) (.tmp 54) (.tmp 59) 34 (by rfl) W2.heap.size 54 i54 (.agg #[.string ⟨#[]⟩, .string ⟨#[]⟩]) 2 32 Tryz.underlying34 hi54 hz54 hs54 hb54 rfl (by omega) sv acc.length (stepCells acc) (by rfl) hsvA ⟨w2.heap.size, 0, none⟩ 1 1 [.string a, .string b] (by rfl) rfl (news2 _ _ _ _) (one2 _ _) (by omega) hml hmb (Nat.le_trans hB2 (by simp)) _ rfl ?_; intro gq capq w3 hown3 hgrow3 hat3 hlt3; have hrr3 := (Fr.ofGrown hgrow3).get hrrA (own_other hsvA hrrA (by simp [kindOf])); have hfv3 := frozv w3; have hcv3 := cellv w3)
              | (go_simp; go_at_call 132; refine Calls.mono (take_c ht2 ?_ hg1 hq1 hR1) ?_; omega; rintro e w2 ⟨v2, rfl, hq2, hR2, hf2⟩; have hrr2 := hf2.get ((hp_drew _ _).trans hrr1) hrq; have hcv2 := cellv w2; have hrrA := (heap_alloc_old' (.cells #[.string a, .string b] 54) hrr2); have hsvA := (ownsRow_fr (ownsRow_drew hsv1) hf2 (by rintro k rfl; exact ⟨_, (hp_drew _ _).trans hq1, by simp [kindOf]⟩)).alloc (.cells #[.string a, .string b] 54); have hB2 := Nat.le_trans HB2.out hf2.size; have hcvA := cellv (w2.alloc (.cells #[.string a, .string b] 54)))
              | fail)
            all_goals
              have hq3 := (Fr.ofGrown hgrow3).get (heap_alloc_old' _ hq2) (own_other hsvA (heap_alloc_old' _ hq2) (by simp [kindOf]))
              have hfe : Fr (fun k => k = W2.heap.size ∨ k = w.heap.size + 1) W2 (w3.setCell ⟨w.heap.size + 1, 5, none⟩ (.slice (some ⟨gq, 0, none⟩) (acc.length + 1) capq)) := by
                have e1 := ((Hfr.out.trans' Hf1.out (fun _ _ h => Or.inl h)).drew.trans' hf2 (fun _ _ h => Or.inl h)).alloc (.cells #[.string a, .string b] 54)
                have e2 := e1.trans' (Fr.ofGrown hgrow3) (fun i hi h => absurd (own_base hsvA h) (by omega))
                exact e2.trans' (Fr.one _ _ _ _) (fun _ _ h => Or.inr h)
              have Hfin : Hid (∃ (m' : Nat) (acc' : List (ByteArray × ByteArray)) (R' : List UInt8) (L3 : List (ByteArray × ByteArray)) (sv' v' : Value), m' ≤ cnt ∧ R'.length ≤ 113 ∧ Value.int .i64 ((m : Int) + 1) = .int .i64 (m' : Nat) ∧ acc'.length = m' ∧ takeSteps (cnt - m') R' = some L3 ∧ acc' ++ L3 = L ∧ RestAt gc g R' v' ∧ (w3.setCell ⟨w.heap.size + 1, 5, none⟩ (.slice (some ⟨gq, 0, none⟩) (acc.length + 1) capq)).heap[W2.heap.size]? = some (.cells #[v'] 92 (0, 0)) ∧
                  (w3.setCell ⟨w.heap.size + 1, 5, none⟩ (.slice (some ⟨gq, 0, none⟩) (acc.length + 1) capq)).heap[w.heap.size + 1]? = some (.cells (rcells (kindB bs) (epochB bs) (indexB bs) (sagaB bs) (replyB bs) sv') 91 (0, 0)) ∧ StepsVal (w3.setCell ⟨w.heap.size + 1, 5, none⟩ (.slice (some ⟨gq, 0, none⟩) (acc.length + 1) capq)) W2.heap.size sv' acc' ∧ Fr (fun k => k = W2.heap.size ∨ k = w.heap.size + 1) W2 (w3.setCell ⟨w.heap.size + 1, 5, none⟩ (.slice (some ⟨gq, 0, none⟩) (acc.length + 1) capq))) := by
                refine ⟨m + 1, acc ++ [(a, b)], r2, L2, .slice (some ⟨gq, 0, none⟩) (acc.length + 1) capq, v2, by omega, by omega, by go_num, by simp [Hal.out], ?_, by simpa using HTS.out.1, hR2, ?_, ?_, ?_, hfe⟩
                · rw [show cnt - (m + 1) = k by have := Hk1.out; omega]; exact HTS.out.2
                · rw [hp_setCell, if_neg (Ne.symm hrq)]; exact hq3
                · rw [hp_setCell, if_pos rfl, hrr3]; rfl
                · have := ownsRow_fr hown3 (Fr.one (w.heap.size + 1) w3 5 (.slice (some ⟨gq, 0, none⟩) (acc.length + 1) capq)) (by rintro k rfl; exact ⟨_, hrr3, by simp [kindOf]⟩)
                  unfold StepsVal
                  rw [List.length_append, show stepCells (acc ++ [(a, b)]) = stepCells acc ++ [.string a, .string b] by simp [stepCells]]
                  exact this
              clear hfe hq3 hcv3 hfv3 hrr3 hcvA hcv2 hrr2 hcv1 hr5
              go_wp2_with fail
              go_roundw
              case rel => exact Hfin.out
              case measure => simp [intOf]; omega
          · obtain rfl : m = cnt := by omega
            rw [Nat.sub_self] at hts
            simp only [takeSteps, Option.some.injEq] at hts
            obtain rfl : acc = L := by rw [← hacc, ← hts]; simp
            have hkv : 1 ≤ kindB bs ∧ kindB bs ≤ 4 := by rw [hk2n.out]; omega
            have d1 : decide ((1 : Int) ≤ kindB bs) = true := by simp; omega
            have d2 : decide ((kindB bs : Int) ≤ 4) = true := by simp; omega
            have hnr : New w wr := hn2.trans' hfr (fun i hi h => by omega)
            obtain ⟨sa, sn, sc, rfl⟩ := own_slice hsv
            have Hsv := Lib.hid hsv
            have hcv := cellv wr
            have hfv := frozv wr
            simp only [rcells] at hrr
            clear hq hgr hts hacc hal hfr hsv hgl2 hrl2 hzl2
            go_wp2_with fail
            go_region
            all_goals
              go_wp2_with fail
              refine bodyPost_ret (results_row_tmp rfl _ _ w.heap.size 91 (rcells (kindB bs) (epochB bs) (indexB bs) (sagaB bs) (replyB bs) (.slice sa sn sc)) (0, 0) _ rfl (by simp [hp_drew, hp_setCell, hzr, rcells]) Tryz.underlying91 rfl Tryz.info91s) rfl ?_
              obtain ⟨rfl, rfl⟩ := Hkm2.out
              refine ⟨_, rfl, ?_, ?_⟩
              · refine ownsRow_base_le (ownsRow_fr (S := (· = w.heap.size)) Hsv.out ?_ (by rintro k rfl; exact ⟨_, hzr, by simp [kindOf]⟩)) (by have := hn2.size; omega)
                refine Fr.drew ?_
                repeat refine Fr.setCell (b := w.heap.size) ?_ (fun _ => by exact rfl) _ _
                exact Fr.refl _ _
              · refine Fr.drew ?_
                repeat refine Fr.setCell ?_ (fun hi => absurd hi (by omega)) _ _
                exact hnr
      · rw [decide_eq_false hs] at hneq
        have Hs := Lib.hid hs
        clear hs
        go_wp2_with fail
        go_quiet (first | (go_at_call 131; exact Qget.out _) | (go_at_call 119; exact Qcrc.out _))
        have hcv2 := cellv (wc.drewN nq)
        have hfv2 := frozv (wc.drewN nq)
        go_wp2_with fail
        refine bodyPost_ret (results_row_tmp rfl _ _ w.heap.size 91 (rcells (kindB bs) (epochB bs) (indexB bs) (sagaB bs) (replyB bs) (.slice none 0 0)) (0, 0) _ rfl (by simp [hp_setCell, hz1, rcells]) Tryz.underlying91 rfl Tryz.info91s) rfl ?_
        have := Hkm.out
        rw [if_neg Hs.out] at this
        simp only [Option.some.injEq, Prod.mk.injEq] at this
        obtain ⟨rfl, rfl⟩ := this
        refine ⟨_, rfl, ⟨by simp [recOf, stepCells], Or.inl ⟨rfl, rfl⟩⟩, ?_⟩
        repeat refine Fr.setCell ?_ (fun hi => absurd hi (by omega)) _ _
        exact hnw.drewN nq
    · have hkB : ((kindB bs : Int) == 2) = false := by simp; omega
      have hkm : parseM bs = if sumOk bs then some (recOf bs [], decide (1 ≤ kindB bs) && decide (kindB bs ≤ 4)) else some (recOf bs [], false) := by simp [parseM, hk2]
      have hso : sumOk bs ↔ (leVal ((bs.drop 0).take 4) : Int) = crcM ((bs.drop 4).take 28) := by simp [sumOk, hk2]
      have qcrc := fun N => crc_q hg1 Hgc.out Hbs.out 4 28 124 N (by omega)
      have qget := fun N => get_q hg1 Hgc.out Hbs.out 0 4 128 N (by omega) (by omega)
      obtain ⟨hcr0, hcr1⟩ := crcM_u32 ((bs.drop 4).take 28)
      generalize crcM ((bs.drop 4).take 28) = cr at hcr0 hcr1 qcrc hso
      generalize leVal ((bs.drop 0).take 4) = lv at qget hso
      have Qcrc := Lib.hid qcrc
      have Qget := Lib.hid qget
      have Hkm := Lib.hid (hkm.symm.trans Hp.out)
      have hneq : ((lv : Int) != cr) = !decide (sumOk bs) := by
        by_cases h : sumOk bs
        · simp [h, hso.1 h]
        · have : ¬ (lv : Int) = cr := fun e => h (hso.2 e)
          simp [h, this]
      clear hkm hso qcrc qget
      by_cases hs : sumOk bs
      · rw [decide_eq_true hs] at hneq
        have Hs := Lib.hid hs
        clear hs
        go_wp2_with fail
        go_quiet (first | (go_at_call 131; exact Qget.out _) | (go_at_call 119; exact Qcrc.out _))
        have hcv2 := cellv (wc.drewN nq)
        have hfv2 := frozv (wc.drewN nq)
        go_wp2_with fail
        have hr2 := (hp_drewN wc nq _).trans hr1
        have hz2 := (hp_drewN wc nq _).trans hz1
        have hn2 := hnw.drewN nq
        generalize wc.drewN nq = W2 at hcv2 hfv2 hr2 hz2 hn2 ⊢
        clear hr1 hz1 hg1 hnw hcv
        have fin : ∀ (W : World) (b : Bool), W.heap[w.heap.size]? = some (.cells (rcells (kindB bs) (epochB bs) (indexB bs) (sagaB bs) (replyB bs) (.slice none 0 0)) 91 (0, 0)) → New w W → b = (decide (1 ≤ kindB bs) && decide (kindB bs ≤ 4)) → ParsePost w r ok (.returned (.tuple #[.agg (rcells (kindB bs) (epochB bs) (indexB bs) (sagaB bs) (replyB bs) (.slice none 0 0)), .bool b])) W := by
          intro W b h1 h2 h3
          have := Hkm.out
          rw [if_pos Hs.out] at this
          simp only [Option.some.injEq, Prod.mk.injEq] at this
          obtain ⟨rfl, rfl⟩ := this
          exact ⟨_, by rw [h3]; rfl, ⟨by simp [recOf, stepCells], Or.inl ⟨rfl, rfl⟩⟩, h2⟩
        have Fin := Lib.hid fin
        clear fin
        by_cases h1 : 1 ≤ kindB bs
        · by_cases h4 : kindB bs ≤ 4
          · have d1 : decide ((1 : Int) ≤ kindB bs) = true := by simp; omega
            have d2 : decide ((kindB bs : Int) ≤ 4) = true := by simp; omega
            go_region
            all_goals
              go_wp2_with fail
              refine bodyPost_ret (results_row_tmp rfl _ _ w.heap.size 91 (rcells (kindB bs) (epochB bs) (indexB bs) (sagaB bs) (replyB bs) (.slice none 0 0)) (0, 0) _ rfl (by simp [hp_drew, hp_setCell, hz2, rcells]) Tryz.underlying91 rfl Tryz.info91s) rfl ?_
              refine Fin.out _ true (by simp [hp_drew, hp_setCell, hz2, rcells]) ?_ (by simp [h1, h4])
              refine Fr.drew ?_
              repeat refine Fr.setCell ?_ (fun hi => absurd hi (by omega)) _ _
              exact hn2
          · have d1 : decide ((1 : Int) ≤ kindB bs) = true := by simp; omega
            have d2 : decide ((kindB bs : Int) ≤ 4) = false := by simp; omega
            go_region
            all_goals
              go_wp2_with fail
              refine bodyPost_ret (results_row_tmp rfl _ _ w.heap.size 91 (rcells (kindB bs) (epochB bs) (indexB bs) (sagaB bs) (replyB bs) (.slice none 0 0)) (0, 0) _ rfl (by simp [hp_drew, hp_setCell, hz2, rcells]) Tryz.underlying91 rfl Tryz.info91s) rfl ?_
              refine Fin.out _ false (by simp [hp_drew, hp_setCell, hz2, rcells]) ?_ (by simp [h4])
              refine Fr.drew ?_
              repeat refine Fr.setCell ?_ (fun hi => absurd hi (by omega)) _ _
              exact hn2
        · have d1 : decide ((1 : Int) ≤ kindB bs) = false := by simp; omega
          go_region
          all_goals
            go_wp2_with fail
            refine bodyPost_ret (results_row_tmp rfl _ _ w.heap.size 91 (rcells (kindB bs) (epochB bs) (indexB bs) (sagaB bs) (replyB bs) (.slice none 0 0)) (0, 0) _ rfl (by simp [hp_drew, hp_setCell, hz2, rcells]) Tryz.underlying91 rfl Tryz.info91s) rfl ?_
            refine Fin.out _ false (by simp [hp_drew, hp_setCell, hz2, rcells]) ?_ (by simp [h1])
            refine Fr.drew ?_
            repeat refine Fr.setCell ?_ (fun hi => absurd hi (by omega)) _ _
            exact hn2
      · rw [decide_eq_false hs] at hneq
        have Hs := Lib.hid hs
        clear hs
        go_wp2_with fail
        go_quiet (first | (go_at_call 131; exact Qget.out _) | (go_at_call 119; exact Qcrc.out _))
        have hcv2 := cellv (wc.drewN nq)
        have hfv2 := frozv (wc.drewN nq)
        go_wp2_with fail
        refine bodyPost_ret (results_row_tmp rfl _ _ w.heap.size 91 (rcells (kindB bs) (epochB bs) (indexB bs) (sagaB bs) (replyB bs) (.slice none 0 0)) (0, 0) _ rfl (by simp [hp_setCell, hz1, rcells]) Tryz.underlying91 rfl Tryz.info91s) rfl ?_
        have := Hkm.out
        rw [if_neg Hs.out] at this
        simp only [Option.some.injEq, Prod.mk.injEq] at this
        obtain ⟨rfl, rfl⟩ := this
        refine ⟨_, rfl, ⟨by simp [recOf, stepCells], Or.inl ⟨rfl, rfl⟩⟩, ?_⟩
        repeat refine Fr.setCell ?_ (fun hi => absurd hi (by omega)) _ _
        exact hnw.drewN nq
end Go.Proofs.YtkafmfdipmhleaaGreatDoor

namespace Go.Proofs.YtkafmfdipmhleaaGreatDoor
open Go.RowKit
/-- The region of a number, out of a body. -/
def regionAt (n : Nat) : Code → Option Code
  | .region m l b => if m = n then some (.region m l b) else none
  | .loop c => regionAt n c
  | .seq a b => match regionAt n a with
    | some c => some c
    | none => regionAt n b
  | .block _ c => regionAt n c
  | .scope c => regionAt n c
  | .cond _ a b => match regionAt n a with
    | some c => some c
    | none => regionAt n b
  | _ => none
def CallM.cells (c : CallM) : List Value := [.int .i64 c.saga, .int .i64 c.step, .bool c.back, .string c.data]
structure PartM where
  log : List (CallM × Int)
  effs : List CallM
  l : List Int
  at_ : Int
  /-- All that is its own lies from here on. -/
  lo : Nat
def logCells (l : List (CallM × Int)) : List Value := l.flatMap fun p => p.1.cells ++ [.int .i64 p.2]
def effCells (l : List CallM) : List Value := l.flatMap CallM.cells
/-- A slice whose numbers read as l. -/
def IntsAt (w : World) (v : Value) (l : List Int) : Prop :=
  (l = [] ∧ ∃ a c, v = .slice a 0 c) ∨ ∃ b off cap c, v = .slice (some ⟨b, off, none⟩) l.length cap ∧ w.heap[b]? = some (.cells c 3 (0, 0)) ∧ ∀ j x, l[j]? = some x → c[off + j]? = some (.int .i64 x)
theorem IntsAt.keep {w w' : World} {v : Value} {l : List Int} (h : IntsAt w v l) (hf : ∀ (k : Nat) (o : Obj), w.heap[k]? = some o → kindOf o = 4 → w'.heap[k]? = some o) : IntsAt w' v l := by
  rcases h with h | ⟨b, off, cap, c, e, h1, h2⟩
  · exact .inl h
  · exact .inr ⟨b, off, cap, c, e, hf b _ h1 rfl, h2⟩
structure PAt (w : World) (pb : Nat) (p : PartM) : Prop where
  ex : ∃ lv ev iv B, w.heap[pb]? = some (.cells #[lv, ev, iv, .int .i64 p.at_] 44 (0, 0)) ∧ w.ownsRow B 48 5 lv p.log.length (logCells p.log) ∧ w.ownsRow B 46 4 ev p.effs.length (effCells p.effs) ∧ IntsAt w iv p.l ∧ (B ≤ w.heap.size ∧ B = p.lo ∧ B ≤ pb) ∧ ∀ a m c, iv = .slice (some a) m c → a.block < pb
theorem Tryz.info46 : (Tryz.prog.info? 46).map (fun i => (i.zero, i.size, i.bytes)) = some (some (.agg #[.int .i64 0, .int .i64 0, .bool false, .string ⟨#[]⟩]), 4, 40) := by kernel_rfl
theorem Tryz.info48 : (Tryz.prog.info? 48).map (fun i => (i.zero, i.size, i.bytes)) = some (some (.agg #[.int .i64 0, .int .i64 0, .bool false, .string ⟨#[]⟩, .int .i64 0]), 5, 48) := by kernel_rfl
theorem own_lt {w : World} {base : Nat} {e : TypeId} {size : Nat} {v : Value} {n : Nat} {xs : List Value} (h : w.ownsRow base e size v n xs) {k : Nat} (hv : v.ownBlock = some k) : k < w.heap.size := (h.lt k hv).2
theorem call_one (c : CallM) : ∀ u ∈ c.cells, u.oneCell' = true := by
  intro u hu
  simp [CallM.cells] at hu
  rcases hu with rfl | rfl | rfl | rfl <;> rfl
noncomputable def ptR8 : Code := ((Tryz.f58.body).bind (regionAt 8)).getD .skip
noncomputable def ptR18 : Code := ((Tryz.f58.body).bind (regionAt 18)).getD .skip
noncomputable def ptR3 : Code := ((Tryz.f58.body).bind (regionAt 3)).getD .skip
set_option maxRecDepth 100000 in
set_option maxHeartbeats 4000000 in
/-- p.Effects = append(p.Effects, c). -/
theorem pt_r8 (pb cb : Nat) (c : CallM) (effs : List CallM) (lv ev iv atv : Value) (B : Nat) (W : World)
    (hp : W.heap[pb]? = some (.cells #[lv, ev, iv, atv] 44 (0, 0))) (hc : W.heap[cb]? = some (.cells c.cells.toArray 46 (0, 0))) (ho : W.ownsRow B 46 4 ev effs.length (effCells effs)) (hB : B ≤ W.heap.size)
    (hne : ev.ownBlock ≠ some cb) (hl : effs.length < 2 ^ 30)
    {ds : List Deferred} {x1 x2 x4 x5 x6 x7 x8 x9 x10 x11 x12 x13 x14 x15 x16 x17 x18 x19 x20 x21 x22 x23 x24 x25 x26 x27 x28 x29 x30 x31 x32 x33 x34 x35 x36 x37 x38 x39 x40 x41 x42 x43 x44 x45 x46 x47 x48 x49 x50 x51 x52 x53 x54 x55 x56 x57 x58 x59 x60 x61 x62 x63 x64 x65 x66 x67 x68 x69 x70 x71 x72 x73 x74 x75 x76 x77 x78 x79 x80 x81 x82 x83 x84 x85 x86 x87 x88 x89 : Value} {Q : Exit → Act → World → Prop}
    (hQ : ∀ (y41 y42 y43 y44 y45 y46 y47 y48 y49 y50 ev' : Value) (w' : World), Fr (fun k => k = pb ∨ ev.ownBlock = some k) W w' → w'.heap[pb]? = some (.cells #[lv, ev', iv, atv] 44 (0, 0)) → w'.ownsRow B 46 4 ev' (effs ++ [c]).length (effCells (effs ++ [c])) → (∀ k, ev'.ownBlock = some k → ev.ownBlock = some k ∨ W.heap.size ≤ k) → Q .normal ⟨#[.pointer (some ⟨pb, 0, none⟩), x1,x2, .pointer (some ⟨cb, 0, none⟩), x4,x5,x6,x7,x8,x9,x10,x11,x12,x13,x14,x15,x16,x17,x18,x19,x20,x21,x22,x23,x24,x25,x26,x27,x28,x29,x30,x31,x32,x33,x34,x35,x36,x37,x38,x39,x40,y41,y42,y43,y44,y45,y46,y47,y48,y49,y50,x51,x52,x53,x54,x55,x56,x57,x58,x59,x60,x61,x62,x63,x64,x65,x66,x67,x68,x69,x70,x71,x72,x73,x74,x75,x76,x77,x78,x79,x80,x81,x82,x83,x84,x85,x86,x87,x88,x89], ds⟩ w') :
    Code.wp Tryz.prog ptR8 Q ⟨#[.pointer (some ⟨pb, 0, none⟩), x1,x2, .pointer (some ⟨cb, 0, none⟩), x4,x5,x6,x7,x8,x9,x10,x11,x12,x13,x14,x15,x16,x17,x18,x19,x20,x21,x22,x23,x24,x25,x26,x27,x28,x29,x30,x31,x32,x33,x34,x35,x36,x37,x38,x39,x40,x41,x42,x43,x44,x45,x46,x47,x48,x49,x50,x51,x52,x53,x54,x55,x56,x57,x58,x59,x60,x61,x62,x63,x64,x65,x66,x67,x68,x69,x70,x71,x72,x73,x74,x75,x76,x77,x78,x79,x80,x81,x82,x83,x84,x85,x86,x87,x88,x89], ds⟩ W := by
  have hsh := own_slice ho
  obtain ⟨va, vm, vc, rfl⟩ := hsh
  have a1 : W.cell? ⟨pb, 1, none⟩ = some (.slice va vm vc) := by rw [cellv, hp]; rfl
  have f1 : W.frozen? ⟨pb, 1, none⟩ = false := by rw [frozv, hp]; rfl
  have c0 : W.cell? ⟨cb, 0, none⟩ = some (.int .i64 c.saga) := by rw [cellv, hc]; rfl
  have c1 : W.cell? ⟨cb, 1, none⟩ = some (.int .i64 c.step) := by rw [cellv, hc]; rfl
  have c2 : W.cell? ⟨cb, 2, none⟩ = some (.bool c.back) := by rw [cellv, hc]; rfl
  have c3 : W.cell? ⟨cb, 3, none⟩ = some (.string c.data) := by rw [cellv, hc]; rfl
  have hpe : (Value.slice va vm vc).ownBlock ≠ some pb := by
    intro e
    exact own_other ho hp (by simp [kindOf]) e
  have Hpb := Lib.hid hp
  have HF : Hid (∀ (w' : World), Fr (fun k => (Value.slice va vm vc).ownBlock = some k) W.drew w' → w'.heap[pb]? = some (.cells #[lv, .slice va vm vc, iv, atv] 44 (0, 0))) := fun w' hf => hf.get (w := W.drew) hp hpe
  obtain ⟨i46, hi46, hz46, hs46, hb46⟩ := info_parts Tryz.info46
  have hml : effs.length + 1 ≤ maxLen := by unfold maxLen; omega
  have hmb : (effs.length + 1) * 40 ≤ 140737488355328 := by omega
  have HO := Lib.hid ho
  have HQ := Lib.hid hQ
  have HB := Lib.hid hB
  clear hp hc ho hne hl hQ hB hpe
  conv => arg 2; whnf
  have hA : Hid (W.heap.size ≠ pb) := fun e => by have h := lt_of_hp Hpb.out; omega
  have hcell : ∀ (j : Nat) (u : Value), c.cells[j]? = some u → (W.drew.alloc (.cells c.cells.toArray 46)).cell? ((⟨W.heap.size, 0, none⟩ : Addr).add j) = some u := World.news_of_block (heap_alloc_new W.drew _)
  have Hcell := Lib.hid hcell
  clear hcell
  have aA : (W.alloc (.cells #[.int .i64 c.saga, .int .i64 c.step, .bool c.back, .string c.data] 46)).cell? ⟨pb, 1, none⟩ = some (.slice va vm vc) := by
    rw [cellv, heap_alloc_keep _ Hpb.out]; rfl
  refine wp_region_noPanic ?_
  go_region_law (first
    | (refine step_append_lies _ (by rfl) (.tmp 45) (.tmp 47) 42 (by rfl) B 46 i46 (.agg #[.int .i64 0, .int .i64 0, .bool false, .string ⟨#[]⟩]) 4 40 Tryz.underlying42 hi46 hz46 hs46 hb46 rfl (by omega) (.slice va vm vc) effs.length (effCells effs) (by rfl) ((ownsRow_drew HO.out).alloc _) ⟨W.heap.size, 0, none⟩ 1 1 c.cells (by rfl) rfl Hcell.out (call_one c) (by omega) hml hmb (Nat.le_trans HB.out (by simp)) _ rfl ?_; intro gq capq w3 hown3 hgrow3 hat3 hlt3; have hF3 := ((Fr.refl (fun k => (Value.slice va vm vc).ownBlock = some k) W.drew).alloc (.cells c.cells.toArray 46)).trans (Fr.ofGrown hgrow3); have hp3 := HF.out _ hF3; have hcv3 := cellv w3; have hfv3 := frozv w3)
    | fail)
  all_goals
    have hFa : Fr (fun k => k = pb ∨ (Value.slice va vm vc).ownBlock = some k) W w3 := (Fr.refl _ W).drew.trans (hF3.mono (fun _ _ h => .inr h))
    refine NoPanic.normal (HQ.out _ _ _ _ _ _ _ _ _ _ (.slice (some ⟨gq, 0, none⟩) (effs.length + 1) capq) _ (hFa.trans' (Fr.one pb w3 1 (.slice (some ⟨gq, 0, none⟩) (effs.length + 1) capq)) (fun _ _ e => .inl e)) ?_ ?_ ?_)
    · rw [hp_setCell, if_pos rfl, hp3]; rfl
    · have := ownsRow_fr hown3 (Fr.one pb w3 1 (.slice (some ⟨gq, 0, none⟩) (effs.length + 1) capq)) (by rintro k rfl; exact ⟨_, hp3, by simp [kindOf]⟩)
      rw [List.length_append, show effCells (effs ++ [c]) = effCells effs ++ c.cells by simp [effCells]]
      exact this
    · intro k hk
      simp only [Value.ownBlock, Option.some.injEq] at hk
      subst hk
      rcases hat3 with h | h
      · exact .inl h
      · right; rw [h]; simp
theorem ask_one (c : CallM) (rp : Int) : ∀ u ∈ c.cells ++ [Value.int .i64 rp], u.oneCell' = true := by
  intro u hu
  rw [List.mem_append] at hu
  rcases hu with h | h
  · exact call_one c u h
  · simp at h; subst h; rfl
set_option maxRecDepth 100000 in
set_option maxHeartbeats 4000000 in
/-- p.Log = append(p.Log, Asked{c, reply}). -/
theorem pt_r18 (pb cb : Nat) (c : CallM) (log : List (CallM × Int)) (rp : Int) (lv ev iv atv : Value) (B : Nat) (W : World)
    (hp : W.heap[pb]? = some (.cells #[lv, ev, iv, atv] 44 (0, 0))) (hc : W.heap[cb]? = some (.cells c.cells.toArray 46 (0, 0))) (ho : W.ownsRow B 48 5 lv log.length (logCells log)) (hB : B ≤ W.heap.size)
    (hne : lv.ownBlock ≠ some cb) (hl : log.length < 2 ^ 30)
    {ds : List Deferred} {x1 x2 x4 x5 x7 x8 x9 x10 x11 x12 x13 x14 x15 x16 x17 x18 x19 x20 x21 x22 x23 x24 x25 x26 x27 x28 x29 x30 x31 x32 x33 x34 x35 x36 x37 x38 x39 x40 x41 x42 x43 x44 x45 x46 x47 x48 x49 x50 x51 x52 x53 x54 x55 x56 x57 x58 x59 x60 x61 x62 x63 x64 x65 x66 x67 x68 x69 x70 x71 x72 x73 x74 x75 x76 x77 x78 x79 x80 x81 x82 x83 x84 x85 x86 x87 x88 x89 : Value} {Q : Exit → Act → World → Prop}
    (hQ : ∀ (y77 y78 y79 y80 y81 y82 y83 y84 y85 y86 y87 y88 lv' : Value) (w' : World), Fr (fun k => k = pb ∨ lv.ownBlock = some k) W w' → w'.heap[pb]? = some (.cells #[lv', ev, iv, atv] 44 (0, 0)) → w'.ownsRow B 48 5 lv' (log ++ [(c, rp)]).length (logCells (log ++ [(c, rp)])) → (∀ k, lv'.ownBlock = some k → lv.ownBlock = some k ∨ W.heap.size ≤ k) → Q .normal ⟨#[.pointer (some ⟨pb, 0, none⟩), x1,x2, .pointer (some ⟨cb, 0, none⟩), x4,x5, .int .i64 rp, x7,x8,x9,x10,x11,x12,x13,x14,x15,x16,x17,x18,x19,x20,x21,x22,x23,x24,x25,x26,x27,x28,x29,x30,x31,x32,x33,x34,x35,x36,x37,x38,x39,x40,x41,x42,x43,x44,x45,x46,x47,x48,x49,x50,x51,x52,x53,x54,x55,x56,x57,x58,x59,x60,x61,x62,x63,x64,x65,x66,x67,x68,x69,x70,x71,x72,x73,x74,x75,x76,y77,y78,y79,y80,y81,y82,y83,y84,y85,y86,y87,y88,x89], ds⟩ w') :
    Code.wp Tryz.prog ptR18 Q ⟨#[.pointer (some ⟨pb, 0, none⟩), x1,x2, .pointer (some ⟨cb, 0, none⟩), x4,x5, .int .i64 rp, x7,x8,x9,x10,x11,x12,x13,x14,x15,x16,x17,x18,x19,x20,x21,x22,x23,x24,x25,x26,x27,x28,x29,x30,x31,x32,x33,x34,x35,x36,x37,x38,x39,x40,x41,x42,x43,x44,x45,x46,x47,x48,x49,x50,x51,x52,x53,x54,x55,x56,x57,x58,x59,x60,x61,x62,x63,x64,x65,x66,x67,x68,x69,x70,x71,x72,x73,x74,x75,x76,x77,x78,x79,x80,x81,x82,x83,x84,x85,x86,x87,x88,x89], ds⟩ W := by
  have hsh := own_slice ho
  obtain ⟨va, vm, vc, rfl⟩ := hsh
  have a1 : W.cell? ⟨pb, 0, none⟩ = some (.slice va vm vc) := by rw [cellv, hp]; rfl
  have f1 : W.frozen? ⟨pb, 0, none⟩ = false := by rw [frozv, hp]; rfl
  have c0 : W.cell? ⟨cb, 0, none⟩ = some (.int .i64 c.saga) := by rw [cellv, hc]; rfl
  have c1 : W.cell? ⟨cb, 1, none⟩ = some (.int .i64 c.step) := by rw [cellv, hc]; rfl
  have c2 : W.cell? ⟨cb, 2, none⟩ = some (.bool c.back) := by rw [cellv, hc]; rfl
  have c3 : W.cell? ⟨cb, 3, none⟩ = some (.string c.data) := by rw [cellv, hc]; rfl
  have hpe : (Value.slice va vm vc).ownBlock ≠ some pb := by
    intro e
    exact own_other ho hp (by simp [kindOf]) e
  have Hpb := Lib.hid hp
  have HF : Hid (∀ (w' : World), Fr (fun k => (Value.slice va vm vc).ownBlock = some k) W.drew w' → w'.heap[pb]? = some (.cells #[.slice va vm vc, ev, iv, atv] 44 (0, 0))) := fun w' hf => hf.get (w := W.drew) hp hpe
  obtain ⟨i48, hi48, hz48, hs48, hb48⟩ := info_parts Tryz.info48
  have hml : log.length + 1 ≤ maxLen := by unfold maxLen; omega
  have hmb : (log.length + 1) * 48 ≤ 140737488355328 := by omega
  have HO := Lib.hid ho
  have HQ := Lib.hid hQ
  have HB := Lib.hid hB
  clear hp hc ho hne hl hQ hB hpe
  conv => arg 2; whnf
  have hA : Hid (W.heap.size ≠ pb) := fun e => by have h := lt_of_hp Hpb.out; omega
  have hcell : ∀ (j : Nat) (u : Value), (c.cells ++ [Value.int .i64 rp])[j]? = some u → (W.drew.alloc (.cells (c.cells ++ [Value.int .i64 rp]).toArray 48)).cell? ((⟨W.heap.size, 0, none⟩ : Addr).add j) = some u := World.news_of_block (heap_alloc_new W.drew _)
  have Hcell := Lib.hid hcell
  clear hcell
  have aA : (W.alloc (.cells #[.int .i64 c.saga, .int .i64 c.step, .bool c.back, .string c.data, .int .i64 rp] 48)).cell? ⟨pb, 0, none⟩ = some (.slice va vm vc) := by
    rw [cellv, heap_alloc_keep _ Hpb.out]; rfl
  refine wp_region_noPanic ?_
  go_region_law (first
    | (refine step_append_lies _ (by rfl) (.tmp 81) (.tmp 85) 41 (by rfl) B 48 i48 (.agg #[.int .i64 0, .int .i64 0, .bool false, .string ⟨#[]⟩, .int .i64 0]) 5 48 Tryz.underlying41 hi48 hz48 hs48 hb48 rfl (by omega) (.slice va vm vc) log.length (logCells log) (by rfl) ((ownsRow_drew HO.out).alloc _) ⟨W.heap.size, 0, none⟩ 1 1 (c.cells ++ [Value.int .i64 rp]) (by rfl) rfl Hcell.out (ask_one c rp) (by omega) hml hmb (Nat.le_trans HB.out (by simp)) _ rfl ?_; intro gq capq w3 hown3 hgrow3 hat3 hlt3; have hF3 := ((Fr.refl (fun k => (Value.slice va vm vc).ownBlock = some k) W.drew).alloc (.cells (c.cells ++ [Value.int .i64 rp]).toArray 48)).trans (Fr.ofGrown hgrow3); have hp3 := HF.out _ hF3; have hcv3 := cellv w3; have hfv3 := frozv w3)
    | fail)
  all_goals
    have hFa : Fr (fun k => k = pb ∨ (Value.slice va vm vc).ownBlock = some k) W w3 := (Fr.refl _ W).drew.trans (hF3.mono (fun _ _ h => .inr h))
    refine NoPanic.normal (HQ.out _ _ _ _ _ _ _ _ _ _ _ _ (.slice (some ⟨gq, 0, none⟩) (log.length + 1) capq) _ (hFa.trans' (Fr.one pb w3 0 (.slice (some ⟨gq, 0, none⟩) (log.length + 1) capq)) (fun _ _ e => .inl e)) ?_ ?_ ?_)
    · rw [hp_setCell, if_pos rfl, hp3]; rfl
    · have := ownsRow_fr hown3 (Fr.one pb w3 0 (.slice (some ⟨gq, 0, none⟩) (log.length + 1) capq)) (by rintro k rfl; exact ⟨_, hp3, by simp [kindOf]⟩)
      rw [List.length_append, show logCells (log ++ [(c, rp)]) = logCells log ++ (c.cells ++ [Value.int .i64 rp]) by simp [logCells]]
      exact this
    · intro k hk
      simp only [Value.ownBlock, Option.some.injEq] at hk
      subst hk
      rcases hat3 with h | h
      · exact .inl h
      · right; rw [h]; simp
end Go.Proofs.YtkafmfdipmhleaaGreatDoor

namespace Go.Proofs.YtkafmfdipmhleaaGreatDoor
open Go.RowKit
def sameCall (e c : CallM) : Bool := e.saga == c.saga && (e.step == c.step && e.back == c.back)
theorem effCells_get (l : List CallM) (k : Nat) (h : k < l.length) (q : Nat) (hq : q < 4) : (effCells l)[k * 4 + q]? = l[k].cells[q]? := by
  induction l generalizing k with
  | nil => simp at h
  | cons a l ih =>
    have ha : a.cells.length = 4 := rfl
    simp only [effCells, List.flatMap_cons]
    cases k with
    | zero =>
      rw [Nat.zero_mul, Nat.zero_add, List.getElem?_append_left (by omega)]
      rfl
    | succ k =>
      rw [List.getElem?_append_right (by omega), show (k + 1) * 4 + q - a.cells.length = k * 4 + q by omega]
      have := ih k (by simpa using h)
      simpa [effCells] using this
set_option maxRecDepth 100000 in
set_option maxHeartbeats 4000000 in
theorem done_calls {w : World} {pb : Nat} {p : PartM} (h : PAt w pb p) (c : CallM) (hl : p.effs.length < 2 ^ 30) :
    Calls Tryz.prog 83 #[.pointer (some ⟨pb, 0, none⟩), c.val] w fun e w' => e = .returned (.bool (p.effs.any fun e => sameCall e c)) ∧ New w w' := by
  obtain ⟨⟨lv, ev, iv, B, h1, _, ho, _, _⟩⟩ := h
  generalize p.effs = effs at ho hl ⊢
  have hsh := own_slice ho
  have hrow : ∀ k (hk : k < effs.length), ∃ g, (∃ m c', ev = .slice (some ⟨g, 0, none⟩) m c') ∧ ∀ w', New w w' → ∀ q v, effs[k].cells[q]? = some v → cellOf w'.heap[g]? (k * 4 + q) = some v := by
    intro k hk
    rcases ho with ⟨o1, ⟨_, h0⟩ | ⟨g, cap, cur, hv, hg, hh, _, _, _, htk⟩⟩
    · omega
    · refine ⟨g, ⟨_, _, hv⟩, fun w' hf q v hq => ?_⟩
      have hq4 : q < 4 := by
        have := (List.getElem?_eq_some_iff.1 hq).1
        simpa [CallM.cells] using this
      have := effCells_get effs k hk q hq4
      rw [hf.get hh (fun f => f), cellOf_cells]
      rw [← htk, List.getElem?_take_of_lt (by omega)] at this
      simpa [hq] using this
  obtain ⟨va, vm, vc, rfl⟩ := hsh
  have hvm : vm = effs.length := by
    rcases ho with ⟨_, ⟨e, h0⟩ | ⟨g, cap, cur, hv, _⟩⟩
    · simp at e; omega
    · simp at hv; exact hv.2.1
  have Hvm := Lib.hid hvm
  have Hrow := Lib.hid hrow
  clear hrow ho hvm
  have hcv := cellv w
  have hcv2 := cellv (w.alloc (.cells #[.int .i64 c.saga, .int .i64 c.step, .bool c.back, .string c.data] 46))
  have h1a := heap_alloc_keep (.cells #[.int .i64 c.saga, .int .i64 c.step, .bool c.back, .string c.data] 46) h1
  have hca := heap_alloc_new w (.cells #[.int .i64 c.saga, .int .i64 c.step, .bool c.back, .string c.data] 46)
  unfold CallM.val
  go_enter Tryz.func83, Tryz.ntmps83
  go_upto_region 1 with fail
  generalize hW1 : w.alloc (.cells #[.int .i64 c.saga, .int .i64 c.step, .bool c.back, .string c.data] 46) = W1 at hcv2 h1a hca ⊢
  have HF1 : Hid (New w W1) := by show New _ _; rw [← hW1]; exact (Fr.refl _ _).alloc _
  have HWs : Hid (W1.heap.size = w.heap.size + 1) := by show _ = _; rw [← hW1]; simp
  generalize w.heap.size = N at hca ⊢
  have Hca := Lib.hid hca
  clear hcv h1 hW1
  go_wp2_with fail
  go_loopw [12] (fun i wr => ∃ k : Nat, k ≤ effs.length ∧ i = .int .i64 k ∧ (effs.take k).any (fun e => sameCall e c) = false ∧ New W1 wr) (fun i _ => effs.length - (intOf i).toNat)
  case atStart => exact ⟨0, Nat.zero_le _, rfl, rfl, Fr.refl _ _⟩
  case round =>
    obtain ⟨k, hk, rfl, hno, hf⟩ := hrel
    have Hno := Lib.hid hno
    have Hf := Lib.hid hf
    clear hno hf
    by_cases hlt : k < effs.length
    · obtain ⟨g, ⟨m, c', hva⟩, hcc⟩ := Hrow.out k hlt
      simp only [Value.slice.injEq] at hva
      obtain ⟨rfl, _, _⟩ := hva
      have hc4 := hcc wr (HF1.out.trans Hf.out)
      have hcN := Hf.out.get Hca.out (fun f => f)
      have hsn : Hid ((effs.take (k + 1)).any (fun e => sameCall e c) = ((effs.take k).any (fun e => sameCall e c) || sameCall effs[k] c)) := by
        show _ = _
        rw [List.take_succ_eq_append_getElem hlt, List.any_append]
        simp
      have hall : Hid (sameCall effs[k] c = true → (effs.any fun e => sameCall e c) = true) := by
        intro h
        rw [List.any_eq_true]
        exact ⟨effs[k], List.getElem_mem hlt, h⟩
      clear hcc
      generalize effs[k] = e at hc4 hsn hall
      obtain ⟨es, et, eb, ed⟩ := e
      have x0 : wr.cell? ⟨g, k * 4, none⟩ = some (.int .i64 es) := by rw [cellv]; exact hc4 0 _ rfl
      have x1 : wr.cell? ⟨g, k * 4 + 1, none⟩ = some (.int .i64 et) := by rw [cellv]; exact hc4 1 _ rfl
      have x2 : wr.cell? ⟨g, k * 4 + 2, none⟩ = some (.bool eb) := by rw [cellv]; exact hc4 2 _ rfl
      have x3 : wr.cell? ⟨g, k * 4 + 3, none⟩ = some (.string ed) := by rw [cellv]; exact hc4 3 _ rfl
      have hvI : Hid ((k : Int) < vm) := by show _ < _; have := Hvm.out; omega
      have hvI' := hvI.out
      have hk0 : (0 : Int) ≤ k := by omega
      clear hc4 hcv2 h1a hca
      go_upto_region 4 with fail
      have hn1 := heap_alloc_new wr (.cells #[.int .i64 es, .int .i64 et, .bool eb, .string ed] 46)
      have hn2 := heap_alloc_keep (.cells #[.int .i64 es, .int .i64 et, .bool eb, .string ed] 46) hcN
      have Hf2 := Lib.hid (Hf.out.alloc (.cells #[.int .i64 es, .int .i64 et, .bool eb, .string ed] 46))
      clear x0 x1 x2 x3 hcN
      generalize wr.alloc (.cells #[.int .i64 es, .int .i64 et, .bool eb, .string ed] 46) = W2 at hn1 hn2 Hf2 ⊢
      generalize wr.heap.size = N2 at hn1 ⊢
      have hcv := cellv W2
      by_cases e1 : es = c.saga
      · by_cases e2 : et = c.step
        · by_cases e3 : eb = c.back
          · have q1 : (es == c.saga) = true := by simpa using e1
            have q2 : (et == c.step) = true := by simpa using e2
            have q3 : (eb == c.back) = true := by simpa using e3
            have hs : Hid (sameCall ⟨es, et, eb, ed⟩ c = true) := by show _ = _; simp [sameCall, q1, q2, q3]
            have Ha := Lib.hid (hall.out hs.out)
            clear e1 e2 e3 hall hsn
            go_wp2_with fail
            go_ret
            exact ⟨by rw [Ha.out]; rfl, HF1.out.trans Hf2.out⟩
          · have q1 : (es == c.saga) = true := by simpa using e1
            have q2 : (et == c.step) = true := by simpa using e2
            have q3 : (eb == c.back) = false := by simpa using e3
            have hs : Hid (sameCall ⟨es, et, eb, ed⟩ c = false) := by show _ = _; simp [sameCall, q3]
            clear e1 e2 e3 hall
            go_wp2_with fail
            go_roundw
            case rel => exact ⟨k + 1, by omega, by go_num, by rw [hsn.out, Hno.out, hs.out]; rfl, Hf2.out⟩
            case measure => simp [intOf]; omega
        · have q1 : (es == c.saga) = true := by simpa using e1
          have q2 : (et == c.step) = false := by simpa using e2
          have hs : Hid (sameCall ⟨es, et, eb, ed⟩ c = false) := by show _ = _; simp [sameCall, q2]
          clear e1 e2 hall
          go_wp2_with fail
          go_roundw
          case rel => exact ⟨k + 1, by omega, by go_num, by rw [hsn.out, Hno.out, hs.out]; rfl, Hf2.out⟩
          case measure => simp [intOf]; omega
      · have q1 : (es == c.saga) = false := by simpa using e1
        have hs : Hid (sameCall ⟨es, et, eb, ed⟩ c = false) := by show _ = _; simp [sameCall, q1]
        clear e1 hall
        go_wp2_with fail
        go_roundw
        case rel => exact ⟨k + 1, by omega, by go_num, by rw [hsn.out, Hno.out, hs.out]; rfl, Hf2.out⟩
        case measure => simp [intOf]; omega
    · have hkl : Hid (k = effs.length) := by show _ = _; omega
      have hnk : Hid (¬ (k : Int) < vm) := by show ¬ _; have := Hvm.out; omega
      have hnk' := hnk.out
      have Ha : Hid ((effs.any fun e => sameCall e c) = false) := by
        show _ = _
        have := Hno.out
        rw [hkl.out, List.take_length] at this
        exact this
      clear hca h1a hcv2
      go_wp2_with fail
      go_ret
      exact ⟨by rw [Ha.out]; rfl, HF1.out.trans Hf.out⟩
end Go.Proofs.YtkafmfdipmhleaaGreatDoor

namespace Go.Proofs.YtkafmfdipmhleaaGreatDoor
open Go.RowKit
set_option maxRecDepth 100000 in
set_option maxHeartbeats 4000000 in
/-- k = p.l[p.at%len(p.l)] % 6. -/
theorem pt_r3 (pb b off cap c0 : Nat) (m : Nat) (l : List Int) (lv ev : Value) (x : Int) (W : World) (hm : m < 2 ^ 40) (hl : l.length < 2 ^ 40)
    (hp : W.heap[pb]? = some (.cells #[lv, ev, .slice (some ⟨b, off, none⟩) l.length cap, .int .i64 m] 44 (0, 0))) (hx : W.cell? ⟨b, off + m % l.length, none⟩ = some (.int .i64 x)) (h0 : 0 < l.length) (_hc0 : c0 = 0)
    {ds : List Deferred} {x1 x2 x3 x4 x5 x6 x7 x8 x9 x10 x11 x12 x13 x14 x15 x16 x17 x18 x19 x20 x21 x22 x23 x24 x25 x26 x27 x28 x29 x30 x31 x32 x33 x34 x35 x36 x37 x38 x39 x40 x41 x42 x43 x44 x45 x46 x47 x48 x49 x50 x51 x52 x53 x54 x55 x56 x57 x58 x59 x60 x61 x62 x63 x64 x65 x66 x67 x68 x69 x70 x71 x72 x73 x74 x75 x76 x77 x78 x79 x80 x81 x82 x83 x84 x85 x86 x87 x88 x89 : Value} {Q : Exit → Act → World → Prop}
    (hQ : ∀ (y13 y14 y15 y16 y17 y18 y19 y20 y21 y22 y23 y24 y25 y26 y27 y28 : Value) (q : Nat), Q .normal ⟨#[.pointer (some ⟨pb, 0, none⟩), x1,x2,x3,x4, .int .i64 (x.tmod 6), x6,x7,x8,x9,x10,x11,x12,y13,y14,y15,y16,y17,y18,y19,y20,y21,y22,y23,y24,y25,y26,y27,y28, .int .i64 (x.tmod 6), x30,x31,x32,x33,x34,x35,x36,x37,x38,x39,x40,x41,x42,x43,x44,x45,x46,x47,x48,x49,x50,x51,x52,x53,x54,x55,x56,x57,x58,x59,x60,x61,x62,x63,x64,x65,x66,x67,x68,x69,x70,x71,x72,x73,x74,x75,x76,x77,x78,x79,x80,x81,x82,x83,x84,x85,x86,x87,x88,x89], ds⟩ (W.drewN q)) :
    Code.wp Tryz.prog ptR3 Q ⟨#[.pointer (some ⟨pb, 0, none⟩), x1,x2,x3,x4,x5,x6,x7,x8,x9,x10,x11,x12,x13,x14,x15,x16,x17,x18,x19,x20,x21,x22,x23,x24,x25,x26,x27,x28,x29,x30,x31,x32,x33,x34,x35,x36,x37,x38,x39,x40,x41,x42,x43,x44,x45,x46,x47,x48,x49,x50,x51,x52,x53,x54,x55,x56,x57,x58,x59,x60,x61,x62,x63,x64,x65,x66,x67,x68,x69,x70,x71,x72,x73,x74,x75,x76,x77,x78,x79,x80,x81,x82,x83,x84,x85,x86,x87,x88,x89], ds⟩ W := by
  have a2 : W.cell? ⟨pb, 2, none⟩ = some (.slice (some ⟨b, off, none⟩) l.length cap) := by rw [cellv, hp]; rfl
  have a3 : W.cell? ⟨pb, 3, none⟩ = some (.int .i64 m) := by rw [cellv, hp]; rfl
  have hlt : m % l.length < l.length := Nat.mod_lt _ h0
  have ht : (m : Int).tmod (l.length : Int) = ((m % l.length : Nat) : Int) := by
    rw [Int.tmod_eq_emod_of_nonneg (by omega)]; simp
  have hlt' : ((m % l.length : Nat) : Int) < l.length := by omega
  have hge : (0 : Int) ≤ ((m % l.length : Nat) : Int) := by omega
  have hn0 : ¬ l.length = 0 := by omega
  have HQ := Lib.hid hQ
  generalize hi : m % l.length = i at hx hlt ht hlt' hge
  have hn0' : ((l.length : Int) == 0) = false := by simp; intro e; simp [e] at h0
  generalize l.length = len at a2 hlt ht hlt' hge hn0 hn0'
  clear hp hQ hi h0 hm hl
  conv => arg 2; whnf
  go_quiet (fail)
  exact HQ.out _ _ _ _ _ _ _ _ _ _ _ _ _ _ _ _ nq
/-- Of the blocks that were there only those of the kinds K may have turned. -/
structure FrK (K : List Nat) (w w' : World) : Prop where
  os : w'.os = w.os
  tape : w'.tape = w.tape
  output : w'.output = w.output
  size : w.heap.size ≤ w'.heap.size
  block : ∀ (k : Nat) (o : Obj), w.heap[k]? = some o → kindOf o ∉ K → w'.heap[k]? = some o
theorem FrK.refl (K : List Nat) (w : World) : FrK K w w := ⟨rfl, rfl, rfl, Nat.le_refl _, fun _ _ h _ => h⟩
theorem FrK.trans {K : List Nat} {a b c : World} (h : FrK K a b) (k : FrK K b c) : FrK K a c :=
  ⟨k.os.trans h.os, k.tape.trans h.tape, k.output.trans h.output, Nat.le_trans h.size k.size, fun i o hi ho => k.block i o (h.block i o hi ho) ho⟩
theorem Fr.toK {S : Nat → Prop} {K : List Nat} {w w' : World} (h : Fr S w w') (hS : ∀ (k : Nat) (o : Obj), S k → w.heap[k]? = some o → kindOf o ∈ K) : FrK K w w' :=
  ⟨h.os, h.tape, h.output, h.size, fun k _ ho hk => h.get ho (fun s => hk (hS k _ s ho))⟩
/-- What lies below B is as it was. -/
structure Low (B : Nat) (w w' : World) : Prop where
  os : w'.os = w.os
  tape : w'.tape = w.tape
  output : w'.output = w.output
  size : w.heap.size ≤ w'.heap.size
  block : ∀ k, k < B → w'.heap[k]? = w.heap[k]?
theorem Low.refl (B : Nat) (w : World) : Low B w w := ⟨rfl, rfl, rfl, Nat.le_refl _, fun _ _ => rfl⟩
theorem Low.trans {B : Nat} {a b c : World} (h : Low B a b) (k : Low B b c) : Low B a c :=
  ⟨k.os.trans h.os, k.tape.trans h.tape, k.output.trans h.output, Nat.le_trans h.size k.size, fun i hi => (k.block i hi).trans (h.block i hi)⟩
theorem Low.le {A B : Nat} {w w' : World} (h : Low B w w') (hAB : A ≤ B) : Low A w w' := ⟨h.os, h.tape, h.output, h.size, fun k hk => h.block k (Nat.lt_of_lt_of_le hk hAB)⟩
theorem Low.below {B : Nat} {w w' : World} (h : Low B w w') : Below B w w' := ⟨h.os, h.tape, h.output, h.size, h.block⟩
theorem Fr.low {S : Nat → Prop} {w w' : World} {B : Nat} (h : Fr S w w') (hB : B ≤ w.heap.size) (hS : ∀ k, S k → B ≤ k) : Low B w w' := ⟨h.os, h.tape, h.output, h.size, fun k hk => h.block k (by omega) (fun s => by have := hS k s; omega)⟩
theorem FrK.mono {K L : List Nat} {w w' : World} (h : FrK K w w') (hK : ∀ k ∈ K, k ∈ L) : FrK L w w' :=
  ⟨h.os, h.tape, h.output, h.size, fun k o ho hk => h.block k o ho (fun e => hk (hK _ e))⟩
theorem own_kind {w : World} {base : Nat} {e : TypeId} {size : Nat} {v : Value} {n : Nat} {xs : List Value} (h : w.ownsRow base e size v n xs) {k : Nat} (hv : v.ownBlock = some k) : ∃ o, w.heap[k]? = some o ∧ kindOf o = e + 1 := by
  rcases h.2 with ⟨rfl, _⟩ | ⟨g, cap, cur, rfl, hg, hh, r⟩
  · simp [Value.ownBlock] at hv
  · obtain rfl : g = k := by simpa [Value.ownBlock] using hv
    exact ⟨_, hh, rfl⟩
theorem PAt.keep {w w' : World} {pb : Nat} {p : PartM} (h : PAt w pb p) (hs : w.heap.size ≤ w'.heap.size) (hf : ∀ (k : Nat) (o : Obj), w.heap[k]? = some o → (kindOf o = 45 ∨ kindOf o = 47 ∨ kindOf o = 49 ∨ (kindOf o = 4 ∧ k < pb)) → w'.heap[k]? = some o) : PAt w' pb p := by
  obtain ⟨⟨lv, ev, iv, B, h1, hlo, heo, hil, hB, hib⟩⟩ := h
  have hown : ∀ {e : TypeId} {size : Nat} {v : Value} {n : Nat} {xs : List Value}, w.ownsRow B e size v n xs → (e = 46 ∨ e = 48) → w'.ownsRow B e size v n xs := by
    intro e size v n xs h he
    refine ⟨h.1, ?_⟩
    rcases h.2 with h2 | ⟨g, cap, cur, hv, hg, hh, r⟩
    · exact .inl h2
    · exact .inr ⟨g, cap, cur, hv, hg, hf g _ hh (by rcases he with rfl | rfl <;> simp [kindOf]), r⟩
  refine ⟨⟨lv, ev, iv, B, hf pb _ h1 (.inl rfl), hown hlo (.inr rfl), hown heo (.inl rfl), ?_, ⟨Nat.le_trans hB.1 hs, hB.2⟩, hib⟩⟩
  rcases hil with h | ⟨b, off, cap, c, e, h1, h2⟩
  · exact .inl h
  · exact .inr ⟨b, off, cap, c, e, hf b _ h1 (.inr (.inr (.inr ⟨rfl, hib _ _ _ e⟩))), h2⟩
def PartM.k (p : PartM) : Int := if p.l = [] then 0 else if (p.l.getD (p.at_.toNat % p.l.length) 0).tmod 6 < 0 then (p.l.getD (p.at_.toNat % p.l.length) 0).tmod 6 + 6 else (p.l.getD (p.at_.toNat % p.l.length) 0).tmod 6
def PartM.next (p : PartM) : Int := if p.l = [] then p.at_ else p.at_ + 1
def PartM.knows (p : PartM) (c : CallM) : Bool := p.effs.any fun e => sameCall e c
def replyM (dn back : Bool) (k : Int) : Int := if dn then (if k = 3 ∨ k = 4 then 1 else 0) else if k = 3 ∨ (k = 5 ∧ back = true) then 1 else if k = 5 then 2 else if k = 4 then 1 else 0
def PartM.ask (p : PartM) (c : CallM) : PartM :=
  ⟨p.log ++ [(c, replyM (p.knows c) c.back p.k)], if p.knows c = true ∨ p.k = 3 ∨ p.k = 5 then p.effs else p.effs ++ [c], p.l, p.next, p.lo⟩
def PartM.small (p : PartM) : Prop := p.log.length < 2 ^ 30 ∧ p.effs.length < 2 ^ 30 ∧ p.l.length < 2 ^ 30 ∧ 0 ≤ p.at_ ∧ p.at_ < 2 ^ 30
end Go.Proofs.YtkafmfdipmhleaaGreatDoor

namespace Go.Proofs.YtkafmfdipmhleaaGreatDoor
open Go.RowKit
section
variable {P : Program} {w : World} {a : Act} {K : Act → World → Prop} {Q : Exit → Act → World → Prop}
/-- The cells of the block that a pointer points to. -/
def blkOf (w : World) : Value → Array Value
  | .pointer (some a) => match w.heap[a.block]? with | some (.cells c _ _) => c | _ => #[]
  | _ => #[]
/-- It points to a block that is just one aggregate of type ty. -/
def okLoad (P : Program) (ty : TypeId) (w : World) (v : Value) : Prop :=
  ∃ b c t f d, v = .pointer (some ⟨b, 0, none⟩) ∧ w.heap[b]? = some (.cells c t f) ∧ P.underlying ty = some d ∧ d.isRow = true ∧ (P.info? ty).map (·.size) = some c.size
theorem wp_load_whole {dst : Option Tmp} {ty : TypeId} {x : Operand} {type : TypeId} {pos : String} {after : Array Edge} {guard : Option (Nat × Bool)} (h : okLoad P ty w (a.eval x)) :
    (Oper.wp P ⟨dst, .load ty x, type, pos, after, guard⟩ a w K Q) = K (a.put dst (.agg (blkOf w (a.eval x)))) w := by
  obtain ⟨b, c, t, f, d, hv, hw, hu, hd, hi⟩ := h
  have hl : (loadVar ty ⟨b, 0, none⟩).run P w = .ok (.agg c) w := run_loadVar_row w b t ty c f d hw hu (by cases d <;> first | rfl | cases hd) hi
  unfold Oper.wp execOp
  simp only [hv, Instr.loadAt, Instr.sureAddr, Sem.run_bind, Sem.run_pure, Result.andThen_ok, hl]
  simp [blkOf, hw, Oper.upon]
/-- A part that fills a slice of one element. -/
def okBuild (P : Program) (t : TypeId) (v : Value) : Prop :=
  ∃ e i z, P.underlying t = some (.slice e) ∧ P.elem t = e ∧ P.info? e = some i ∧ i.zero = some z ∧ i.size = v.cells.size ∧ 0 < v.cells.size ∧ v.cells.size ≤ 1000
theorem wp_build_one {dst : Option Tmp} {t : TypeId} {x : Operand} {type : TypeId} {pos : String} {after : Array Edge} {guard : Option (Nat × Bool)} (h : okBuild P t (a.eval x)) :
    (Oper.wp P ⟨dst, .buildSlice t 1 #[(0, x)], type, pos, after, guard⟩ a w K Q) = K (a.put dst (.slice (some ⟨w.heap.size, 0, none⟩) 1 1)) (w.alloc (.cells (a.eval x).cells (P.elem t))) := by
  obtain ⟨e, i, z, hu, he, hi, hz, hs, h0, h1⟩ := h
  have hf := Great.fill_whole (s := i.size) (by omega) [a.eval x] ((Array.range (1 * i.size)).map (z.cells[· % z.cells.size]!)) (by simp [hs]) (by simp)
  have hr := run_buildSlice (P := P) w t e 1 #[(0, a.eval x)] _ i z hu hi hz (by rw [hs]; omega) (by rw [hs]; omega) hf
  unfold Oper.wp execOp
  simp only [Sem.run_bind, List.map_toArray, List.map_cons, List.map_nil, hr, Result.andThen_ok]
  simp [he, Oper.upon]
end
attribute [local go_sem ↓] wp_load_whole wp_build_one
def padB (l : List UInt8) : List UInt8 := l ++ List.replicate (128 - l.length) 0
def DiskM.put (d : DiskM) (i : Nat) (l : List UInt8) : DiskM := { d.count with pend := some (i, padB l), writes := wrap64 (d.writes + 1) }
theorem padB_length (l : List UInt8) (h : l.length ≤ 128) : (padB l).length = 128 := by simp [padB]; omega
/-- What Write does. -/
def WritePost (w : World) (db bb : Nat) (d : DiskM) (i : Nat) (l : List UInt8) (e : Ending) (w' : World) : Prop :=
  Fr (· = db) w w' ∧ (d.bad = true ∧ e = .returned (.iface 55 (.int .i64 5)) ∧ DiskAt w' db bb d.count ∨ d.bad = false ∧ e = .returned .nilIface ∧ DiskAt w' db bb (d.put i l))
theorem zc107_list : Tryz.zeroCells107.toList = .int .i64 0 :: List.replicate 128 (.int .u8 0) := by kernel_rfl
theorem Tryz.info107 : (Tryz.prog.info? 107).map (fun i => (i.zero, i.size, i.bytes)) = some (some (.agg Tryz.zeroCells107), 129, 136) := by kernel_rfl
/-- A write that is being made: where, and noughts. -/
theorem zc_set (i : Nat) : Tryz.zeroCells107.setIfInBounds 0 (.int .i64 i) = (Value.int .i64 (i : Int) :: List.replicate 128 (.int .u8 0)).toArray := by
  have h : Tryz.zeroCells107 = (Value.int .i64 0 :: List.replicate 128 (.int .u8 0)).toArray := by
    rw [← zc107_list]
  rw [h, List.setIfInBounds_toArray, List.set_cons_zero]
theorem bv_zero : (Value.int .u8 0) = bv 0 := rfl
theorem w_splice (i : Nat) (l : List UInt8) : ((Value.int .i64 (i : Int) :: List.replicate 128 (.int .u8 0)).take 1 ++ l.map bv ++ (Value.int .i64 (i : Int) :: List.replicate 128 (.int .u8 0)).drop (1 + (l.map bv).length)) = Value.int .i64 (i : Int) :: (padB l).map bv := by
  rw [List.take_succ_cons, List.take_zero, Nat.add_comm, List.drop_succ_cons, List.drop_replicate, List.length_map]
  simp [padB, bv_zero]
set_option maxRecDepth 100000 in
set_option maxHeartbeats 2000000 in
theorem Write_calls {w : World} {db bb : Nat} {d : DiskM} (h : DiskAt w db bb d) (i : Nat) (hi : i < d.blocks.length) (hp : d.pend = none) (sb so n scap : Nat) (l : List UInt8) (hn : n = l.length) (hl : l.length ≤ 128) (sc : Array Value) (st : TypeId)
    (hs : w.heap[sb]? = some (.cells sc st (0, 0))) (hst : st ≠ 102) (hsc : ∀ j, j < l.length → sc[so + j]? = some (bv (l.getD j 0))) :
    Calls Tryz.prog 180 #[.pointer (some ⟨db, 0, none⟩), .int .i64 i, .slice (some ⟨sb, so, none⟩) n scap] w (WritePost w db bb d i l) := by
  have hfl := fails_calls h
  have hsdb : sb ≠ db := by
    obtain ⟨_, cap, rest, cv, h1, _⟩ := h
    exact ne_of_kind hs h1 (by simp [kindOf]; exact hst)
  go_enter Tryz.func180, Tryz.ntmps180
  go_wp2_with fail
  refine hfl.mono ?_
  rintro e w1 ⟨rfl, hd1, hf1⟩
  have hs1 := hf1.get hs hsdb
  clear hfl hs h
  by_cases hbad : d.bad = true
  · rw [hbad]
    go_wp2_with fail
    go_ret
    exact ⟨hf1, .inl ⟨hbad, rfl, hd1⟩⟩
  · have hbad' : d.bad = false := by simpa using hbad
    rw [hbad']
    go_wp2_with fail
    refine (none_calls hd1 i).mono ?_
    rintro e w2 ⟨rfl, rfl⟩
    have hlt : decide (d.count.blocks.length ≤ i) = false := by rw [decide_eq_false_iff_not]; show ¬ d.blocks.length ≤ i; omega
    rw [hlt]
    have Hz1 : Hid ((Tryz.prog.info? 107).map (·.size) = some (Value.int .i64 (i : Int) :: List.replicate 128 (.int .u8 0)).toArray.size) := by
      show _ = _
      rw [Tryz.info107s]; simp
    have Hz2 : Hid (Tryz.zeroCells107.size = (Value.int .i64 (i : Int) :: List.replicate 128 (.int .u8 0)).toArray.size) := Tryz.zc107.trans (by simp)
    have Hz3 : Hid ((Value.int .i64 (i : Int) :: List.replicate 128 (.int .u8 0)).toArray.all (·.oneCell') = true) := all_oneCell_toArray (by
      intro v hv
      rcases List.mem_cons.1 hv with rfl | hv
      · rfl
      · obtain rfl := List.eq_of_mem_replicate hv; rfl)
    have Hz4 := Lib.hid (zc_set i)
    have Hz5 := Lib.hid (w_splice i l)
    have Hz6 : Hid (1 + (l.map bv).length ≤ (Value.int .i64 (i : Int) :: List.replicate 128 (.int .u8 0)).toArray.size) := by
      show _ ≤ _
      simp; omega
    have Hz7 : Hid ((l.map bv).length = Nat.min l.length 128) := by
      show _ = _
      rw [List.length_map]; exact (Nat.min_eq_left hl).symm
    generalize (Value.int .i64 (i : Int) :: List.replicate 128 (.int .u8 0)) = ZL at Hz1 Hz2 Hz3 Hz4 Hz5 Hz6
    go_upto_region 4 with (first
      | (refine wpl_store_new rfl 107 (.tmp 7) (.tmp 17) rfl w1.heap.size ZL.toArray Tryz.zeroCells107 107 rfl rfl (congrArg Value.agg Hz4.out) Hz1.out Hz2.out Hz3.out ?_)
      | fail)
    have hd2 := hd1.new ((Fr.refl _ w1).alloc (.cells ZL.toArray 107))
    have hn2 := heap_alloc_new w1 (.cells ZL.toArray 107)
    have hf2 := hf1.alloc (.cells ZL.toArray 107)
    have hs2 := heap_alloc_keep (.cells ZL.toArray 107) hs1
    have hsn : sb ≠ w1.heap.size := ne_size_of_hp hs1
    have hnl : w.heap.size ≤ w1.heap.size := hf1.size
    generalize w1.alloc (.cells ZL.toArray 107) = W2 at hd2 hn2 hf2 hs2 ⊢
    generalize w1.heap.size = g at hn2 hsn hnl ⊢
    have Hsrc : Hid (∀ j v, (l.map bv)[j]? = some v → cellOf W2.heap[sb]? (so + j) = some v) := by
      intro j v hj
      have hj' : j < l.length := by simpa using (List.getElem?_eq_some_iff.1 hj).1
      rw [hs2, cellOf_cells, hsc j hj', ← hj]
      simp [hj']
    have Hone := Lib.hid (bv_one l)
    have Hl := Lib.hid hl
    have Hn := Lib.hid hn
    generalize hln : l.length = ln at Hz7
    have Hd2 := Lib.hid hd2
    clear hd1 hf1 hs1 hsc hd2 hlt hl hn
    go_upto_region 5 with (first
      | (refine wpl_copy rfl (.tmp 19) (.tmp 20) 92 92 rfl 5 Tryz.underlying92 Tryz.info5sz g 1 128 128 rfl sb so ln scap rfl ZL.toArray 107 hn2 (l.map bv) Hz7.out Hsrc.out Hz6.out Hone.out ?_; intro W3 Y hY hn3 hf3)
      | fail)
    obtain ⟨hwf, cap, rest, cv, h1, h2, h3⟩ := Hd2.out
    have hpc : d.count.pend = none := hp
    rw [hpc] at h3
    obtain rfl : cv = .slice none 0 0 := h3
    have hgd : db ≠ g := by
      intro e
      rw [e, hn2] at h1
      exact absurd h1 (by simp)
    have hgb : bb ≠ g := by
      intro e
      rw [e, hn2] at h2
      exact absurd h2 (by simp)
    have hbd : bb ≠ db := ne_of_kind h2 h1 (by simp [kindOf])
    have hY' : Y = (Value.int .i64 (i : Int) :: (padB l).map bv).toArray := by rw [hY.out, ← Hz5.out]
    have h1' := hf3.get h1 hgd
    have h2' := hf3.get h2 hgb
    have Hf := Lib.hid (hf2.trans' hf3 (fun k hk e => absurd hk (by rw [e]; omega)))
    have hYs : Y.size = 129 := by rw [hY']; simp [padB_length l Hl.out]
    have Hw := Lib.hid hwf
    have HY := Lib.hid hY'
    have hOL : okLoad Tryz.prog 107 W3.drew (.pointer (some ⟨g, 0, none⟩)) := by
      obtain ⟨d7, u1, u2⟩ : ∃ d, Tryz.prog.underlying 107 = some d ∧ d.isRow = true := by
        have hx : (Tryz.prog.underlying 107).map (·.isRow) = some true := by kernel_rfl
        cases hu : Tryz.prog.underlying 107 with
        | none => rw [hu] at hx; cases hx
        | some x => rw [hu] at hx; exact ⟨x, rfl, Option.some.inj hx⟩
      exact ⟨g, Y, 107, (0, 0), d7, rfl, hn3, u1, u2, by rw [Tryz.info107s, hYs]⟩
    have hBL : blkOf W3.drew (.pointer (some ⟨g, 0, none⟩)) = Y := by
      simp only [blkOf, hp_drew, hn3]
    have hOB : okBuild Tryz.prog 100 (.agg Y) := by
      cases hi : Tryz.prog.info? 107 with
      | none => have := Tryz.info107; rw [hi] at this; simp at this
      | some i' =>
        have := Tryz.info107
        rw [hi] at this
        simp at this
        exact ⟨107, i', _, Tryz.underlying100, by kernel_rfl, hi, this.1, by rw [this.2.1]; exact hYs.symm, by show 0 < Y.size; omega, by show Y.size ≤ 1000; omega⟩
    clear hn2 hs2 hsn hY hf2 h2 hwf hY' hYs hf3 h1
    have hE : Tryz.prog.elem 100 = 107 := by kernel_rfl
    simp only [dkCells] at h1'
    have hdc : W3.drew.cell? ⟨db, 1, none⟩ = some (.slice none 0 0) := by rw [cellv, hp_drew, h1']; rfl
    have hdcA : (W3.alloc (.cells Y 107)).cell? ⟨db, 1, none⟩ = some (.slice none 0 0) := by rw [cellv, heap_alloc_keep _ h1']; rfl
    have h1A := heap_alloc_keep (w := W3.drew) (.cells Y 107) h1'
    have hnew := heap_alloc_new W3.drew (.cells Y 107)
    have HYs : Hid (Y.toList.length = 1 * 129) := by
      show _ = _
      rw [HY.out]; simp [padB_length l Hl.out]
    have HY1 : Hid (∀ u ∈ Y.toList, u.oneCell' = true) := by
      intro u hu
      rw [HY.out] at hu
      simp at hu
      rcases hu with rfl | ⟨x, _, rfl⟩ <;> rfl
    obtain ⟨i7, hi7, hz7, hs7, hb7⟩ : ∃ i, Tryz.prog.info? 107 = some i ∧ i.zero = some (.agg Tryz.zeroCells107) ∧ i.size = 129 ∧ i.bytes = 136 := by
      cases hi : Tryz.prog.info? 107 with
      | none => have := Tryz.info107; rw [hi] at this; simp at this
      | some i' =>
        have := Tryz.info107
        rw [hi] at this
        simp at this
        exact ⟨i', rfl, this.1, this.2.1, this.2.2⟩
    have Hzs : Hid ((Value.agg Tryz.zeroCells107).cells.size = 129) := by
      show Tryz.zeroCells107.size = 129
      exact Tryz.zc107
    go_region_law (first
      | (refine step_append_lies _ (by rfl) (.tmp 26) (.tmp 28) 100 (by rfl) W3.heap.size 107 i7 (.agg Tryz.zeroCells107) 129 136 Tryz.underlying100 hi7 hz7 hs7 hb7 Hzs.out (by decide) (.slice none 0 0) 0 [] (by rfl) (World.ownsRow_nil _ _ _ _) ⟨W3.drew.heap.size, 0, none⟩ 1 1 Y.toList (by rfl) HYs.out (World.news_of_block hnew) HY1.out (by decide) (by decide) (by decide) (by simp) _ rfl ?_; intro gq capq w6 hown6 hgrow6 hat6 hlt6; have h16 := (Fr.ofGrown hgrow6).get h1A (by simp [Value.ownBlock]); have hcv6 := cellv w6; have hfv6 := frozv w6)
      | fail)
    all_goals
      have hF6 : Fr (fun _ => False) W3 w6 := ((((Fr.refl _ W3).drew).alloc (.cells Y 107)).trans' (Fr.ofGrown hgrow6) (fun k _ e => by simp [Value.ownBlock] at e))
      have HF7 := Lib.hid ((Hf.out.trans' hF6 (fun _ _ f => f.elim)).setCell (b := db) (fun _ => rfl) 1 (.slice (some ⟨gq, 0, none⟩) 1 capq))
      have hb6 := hF6.get h2' (fun f => f)
      obtain ⟨cur, hbase, hg6, htk⟩ : ∃ cur, W3.heap.size ≤ gq ∧ w6.heap[gq]? = some (.cells cur 107 (0, 0)) ∧ cur.toList.take 129 = Y.toList := by
        rcases hown6.2 with ⟨e, _⟩ | ⟨g', cap', cur, hv, hb, hg', _, _, _, htk⟩
        · cases e
        · obtain ⟨rfl, rfl⟩ : gq = g' ∧ capq = cap' := by simpa using hv
          exact ⟨cur, hb, hg', by simpa using htk⟩
      have hgqd : gq ≠ db := by have := lt_of_hp h1'; omega
      have hgqb : gq ≠ bb := by have := lt_of_hp h2'; omega
      have hW7 : Hid (∀ k x, k ≠ db → w6.heap[k]? = some x → (w6.setCell ⟨db, 1, none⟩ (.slice (some ⟨gq, 0, none⟩) 1 capq)).heap[k]? = some x) := by
        intro k x hk hx
        rw [hp_setCell, if_neg hk]; exact hx
      have h17 : (w6.setCell ⟨db, 1, none⟩ (.slice (some ⟨gq, 0, none⟩) 1 capq)).heap[db]? = some (.cells #[.slice (some ⟨bb, 0, none⟩) d.count.blocks.length cap, .slice (some ⟨gq, 0, none⟩) 1 capq, .int .i64 d.count.calls, .int .i64 d.count.writes, .int .i64 d.count.told, .int .i64 d.count.off, .int .i64 d.count.fr, .int .i64 d.count.to] 102 (0, 0)) := by
        rw [hp_setCell, if_pos rfl, h16]; rfl
      have Hcur : Hid (cur = wrCells i (padB l) (cur.toList.drop 129)) := by
        have e1 : cur.toList = Y.toList ++ cur.toList.drop 129 := by rw [← htk, List.take_append_drop]
        show _ = _
        rw [wrCells, ← Array.toArray_toList (xs := cur), e1, HY.out]
        simp [padB_length l Hl.out]
      have Hb7 := Lib.hid (hW7.out _ _ hbd hb6)
      have Hg7 := Lib.hid (hW7.out _ _ hgqd hg6)
      clear hcv6 hfv6 hnew h1A hdc hdcA hOL hBL hOB hE hown6 hgrow6 hat6 hlt6 h16 hF6 hb6 hg6 htk hW7 hbase
      generalize w6.setCell ⟨db, 1, none⟩ (.slice (some ⟨gq, 0, none⟩) 1 capq) = W7 at HF7 h17 Hb7 Hg7 ⊢
      have hcv7 := cellv W7
      have hfv7 := frozv W7
      go_wp2_with fail
      go_ret
      refine ⟨HF7.out.setCell (fun _ => rfl) _ _, .inr ⟨hbad', rfl, ⟨?_, ?_⟩⟩⟩
      · exact ⟨Hw.out.1, fun p hp => by
          obtain rfl : (i, padB l) = p := Option.some.inj hp
          exact ⟨hi, padB_length l Hl.out⟩⟩
      · refine ⟨cap, rest, .slice (some ⟨gq, 0, none⟩) 1 capq, ?_, ?_, gq, capq, cur.toList.drop 129, rfl, ?_⟩
        · rw [hp_setCell, if_pos rfl, h17]; rfl
        · rw [hp_setCell, if_neg hbd]; exact Hb7.out
        · rw [hp_setCell, if_neg hgqd, Hg7.out, ← Hcur.out]
end Go.Proofs.YtkafmfdipmhleaaGreatDoor
