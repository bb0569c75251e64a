/-
  What is proved: the contract of the partner's Ask. the contract of the disk's Write. the contract of the disk's Flush. contracts of NewDisk, Off, Bad, Pending, Writes, Told of the disk in memory.
-/
import Derived.Test.YtkafmfdipmhleaaGreatDoorRa3
import Derived.Deep.CutBlock
import Derived.Deep.AppendLies
import Derived.Deep.RegionLaw
import Derived.Great.BuildSlice

namespace Go.Proofs.YtkafmfdipmhleaaGreatDoor
open Go.RowKit

set_option maxRecDepth 100000 in
set_option maxHeartbeats 4000000 in
/-- k = p.l[p.at%len(p.l)] % 6. -/
theorem pt_r3 (pb b off cap c0 : Nat) (m : Nat) (l : List Int) (lv ev : Value) (x : Int) (W : World) (hm : m < 2 ^ 40) (hl : l.length < 2 ^ 40)
    (hp : W.heap[pb]? = some (.cells #[lv, ev, .slice (some ⟨b, off, none⟩) l.length cap, .int .i64 m] 44 (0, 0))) (hx : W.cell? ⟨b, off + m % l.length, none⟩ = some (.int .i64 x)) (h0 : 0 < l.length) (_hc0 : c0 = 0)
    {ds : List Deferred} {x1 x2 x3 x4 x5 x6 x7 x8 x9 x10 x11 x12 x13 x14 x15 x16 x17 x18 x19 x20 x21 x22 x23 x24 x25 x26 x27 x28 x29 x30 x31 x32 x33 x34 x35 x36 x37 x38 x39 x40 x41 x42 x43 x44 x45 x46 x47 x48 x49 x50 x51 x52 x53 x54 x55 x56 x57 x58 x59 x60 x61 x62 x63 x64 x65 x66 x67 x68 x69 x70 x71 x72 x73 x74 x75 x76 x77 x78 x79 x80 x81 x82 x83 x84 x85 x86 x87 x88 x89 : Value} {Q : Exit → Act → World → Prop}
    (hQ : ∀ (y13 y14 y15 y16 y17 y18 y19 y20 y21 y22 y23 y24 y25 y26 y27 y28 : Value) (q : Nat), Q .normal ⟨#[.pointer (some ⟨pb, 0, none⟩), x1, x2, x3, x4, .int .i64 (x.tmod 6), x6, x7, x8, x9, x10, x11, x12, y13, y14, y15, y16, y17, y18, y19, y20, y21, y22, y23, y24, y25, y26, y27, y28, .int .i64 (x.tmod 6), x30, x31, x32, x33, x34, x35, x36, x37, x38, x39, x40, x41, x42, x43, x44, x45, x46, x47, x48, x49, x50, x51, x52, x53, x54, x55, x56, x57, x58, x59, x60, x61, x62, x63, x64, x65, x66, x67, x68, x69, x70, x71, x72, x73, x74, x75, x76, x77, x78, x79, x80, x81, x82, x83, x84, x85, x86, x87, x88, x89], ds⟩ (W.drewN q)) :
    Code.wp Tryz.prog ptR3 Q ⟨#[.pointer (some ⟨pb, 0, none⟩), x1, x2, x3, x4, x5, x6, x7, x8, x9, x10, x11, x12, x13, x14, x15, x16, x17, x18, x19, x20, x21, x22, x23, x24, x25, x26, x27, x28, x29, x30, x31, x32, x33, x34, x35, x36, x37, x38, x39, x40, x41, x42, x43, x44, x45, x46, x47, x48, x49, x50, x51, x52, x53, x54, x55, x56, x57, x58, x59, x60, x61, x62, x63, x64, x65, x66, x67, x68, x69, x70, x71, x72, x73, x74, x75, x76, x77, x78, x79, x80, x81, x82, x83, x84, x85, x86, x87, x88, x89], ds⟩ W := by
  have a2 : W.cell? ⟨pb, 2, none⟩ = some (.slice (some ⟨b, off, none⟩) l.length cap) := by rw [cellv, hp]; rfl
  have a3 : W.cell? ⟨pb, 3, none⟩ = some (.int .i64 m) := by rw [cellv, hp]; rfl
  have hlt : m % l.length < l.length := Nat.mod_lt _ h0
  have ht : (m : Int).tmod (l.length : Int) = ((m % l.length : Nat) : Int) := by
    rw [Int.tmod_eq_emod_of_nonneg (by omega)]; simp
  have hlt' : ((m % l.length : Nat) : Int) < l.length := by omega
  have hge : (0 : Int) ≤ ((m % l.length : Nat) : Int) := by omega
  have hn0 : ¬ l.length = 0 := by omega
  have HQ := Lib.hid hQ
  generalize hi : m % l.length = i at hx hlt ht hlt' hge
  have hn0' : ((l.length : Int) == 0) = false := by simp; intro e; simp [e] at h0
  generalize l.length = len at a2 hlt ht hlt' hge hn0 hn0'
  clear hp hQ hi h0 hm hl
  conv => arg 2; whnf
  go_quiet (fail)
  exact HQ.out _ _ _ _ _ _ _ _ _ _ _ _ _ _ _ _ nq

/-- Of the blocks that were there only those of the kinds K may have turned. -/
structure FrK (K : List Nat) (w w' : World) : Prop where
  os : w'.os = w.os
  tape : w'.tape = w.tape
  output : w'.output = w.output
  size : w.heap.size ≤ w'.heap.size
  block : ∀ (k : Nat) (o : Obj), w.heap[k]? = some o → kindOf o ∉ K → w'.heap[k]? = some o
theorem FrK.refl (K : List Nat) (w : World) : FrK K w w := ⟨rfl, rfl, rfl, Nat.le_refl _, fun _ _ h _ => h⟩
theorem FrK.trans {K : List Nat} {a b c : World} (h : FrK K a b) (k : FrK K b c) : FrK K a c :=
  ⟨k.os.trans h.os, k.tape.trans h.tape, k.output.trans h.output, Nat.le_trans h.size k.size, fun i o hi ho => k.block i o (h.block i o hi ho) ho⟩
theorem Fr.toK {S : Nat → Prop} {K : List Nat} {w w' : World} (h : Fr S w w') (hS : ∀ (k : Nat) (o : Obj), S k → w.heap[k]? = some o → kindOf o ∈ K) : FrK K w w' :=
  ⟨h.os, h.tape, h.output, h.size, fun k _ ho hk => h.get ho (fun s => hk (hS k _ s ho))⟩
/-- What lies below B is as it was. -/
structure Low (B : Nat) (w w' : World) : Prop where
  os : w'.os = w.os
  tape : w'.tape = w.tape
  output : w'.output = w.output
  size : w.heap.size ≤ w'.heap.size
  block : ∀ k, k < B → w'.heap[k]? = w.heap[k]?
theorem Low.refl (B : Nat) (w : World) : Low B w w := ⟨rfl, rfl, rfl, Nat.le_refl _, fun _ _ => rfl⟩
theorem Low.trans {B : Nat} {a b c : World} (h : Low B a b) (k : Low B b c) : Low B a c :=
  ⟨k.os.trans h.os, k.tape.trans h.tape, k.output.trans h.output, Nat.le_trans h.size k.size, fun i hi => (k.block i hi).trans (h.block i hi)⟩
theorem Low.le {A B : Nat} {w w' : World} (h : Low B w w') (hAB : A ≤ B) : Low A w w' := ⟨h.os, h.tape, h.output, h.size, fun k hk => h.block k (Nat.lt_of_lt_of_le hk hAB)⟩
theorem Low.below {B : Nat} {w w' : World} (h : Low B w w') : Below B w w' := ⟨h.os, h.tape, h.output, h.size, h.block⟩
theorem Fr.low {S : Nat → Prop} {w w' : World} {B : Nat} (h : Fr S w w') (hB : B ≤ w.heap.size) (hS : ∀ k, S k → B ≤ k) : Low B w w' := ⟨h.os, h.tape, h.output, h.size, fun k hk => h.block k (by omega) (fun s => by have := hS k s; omega)⟩
theorem FrK.mono {K L : List Nat} {w w' : World} (h : FrK K w w') (hK : ∀ k ∈ K, k ∈ L) : FrK L w w' :=
  ⟨h.os, h.tape, h.output, h.size, fun k o ho hk => h.block k o ho (fun e => hk (hK _ e))⟩
theorem own_kind {w : World} {base : Nat} {e : TypeId} {size : Nat} {v : Value} {n : Nat} {xs : List Value} (h : w.ownsRow base e size v n xs) {k : Nat} (hv : v.ownBlock = some k) : ∃ o, w.heap[k]? = some o ∧ kindOf o = e + 1 := by
  rcases h.2 with ⟨rfl, _⟩ | ⟨g, cap, cur, rfl, hg, hh, r⟩
  · simp [Value.ownBlock] at hv
  · obtain rfl : g = k := by simpa [Value.ownBlock] using hv
    exact ⟨_, hh, rfl⟩
theorem PAt.keep {w w' : World} {pb : Nat} {p : PartM} (h : PAt w pb p) (hs : w.heap.size ≤ w'.heap.size) (hf : ∀ (k : Nat) (o : Obj), w.heap[k]? = some o → (kindOf o = 45 ∨ kindOf o = 47 ∨ kindOf o = 49 ∨ (kindOf o = 4 ∧ k < pb)) → w'.heap[k]? = some o) : PAt w' pb p := by
  obtain ⟨⟨lv, ev, iv, B, h1, hlo, heo, hil, hB, hib⟩⟩ := h
  have hown : ∀ {e : TypeId} {size : Nat} {v : Value} {n : Nat} {xs : List Value}, w.ownsRow B e size v n xs → (e = 46 ∨ e = 48) → w'.ownsRow B e size v n xs := by
    intro e size v n xs h he
    refine ⟨h.1, ?_⟩
    rcases h.2 with h2 | ⟨g, cap, cur, hv, hg, hh, r⟩
    · exact .inl h2
    · exact .inr ⟨g, cap, cur, hv, hg, hf g _ hh (by rcases he with rfl | rfl <;> simp [kindOf]), r⟩
  refine ⟨⟨lv, ev, iv, B, hf pb _ h1 (.inl rfl), hown hlo (.inr rfl), hown heo (.inl rfl), ?_, ⟨Nat.le_trans hB.1 hs, hB.2⟩, hib⟩⟩
  rcases hil with h | ⟨b, off, cap, c, e, h1, h2⟩
  · exact .inl h
  · exact .inr ⟨b, off, cap, c, e, hf b _ h1 (.inr (.inr (.inr ⟨rfl, hib _ _ _ e⟩))), h2⟩
def PartM.k (p : PartM) : Int := if p.l = [] then 0 else if (p.l.getD (p.at_.toNat % p.l.length) 0).tmod 6 < 0 then (p.l.getD (p.at_.toNat % p.l.length) 0).tmod 6 + 6 else (p.l.getD (p.at_.toNat % p.l.length) 0).tmod 6
def PartM.next (p : PartM) : Int := if p.l = [] then p.at_ else p.at_ + 1
def PartM.knows (p : PartM) (c : CallM) : Bool := p.effs.any fun e => sameCall e c
def replyM (dn back : Bool) (k : Int) : Int := if dn then (if k = 3 ∨ k = 4 then 1 else 0) else if k = 3 ∨ (k = 5 ∧ back = true) then 1 else if k = 5 then 2 else if k = 4 then 1 else 0
def PartM.ask (p : PartM) (c : CallM) : PartM :=
  ⟨p.log ++ [(c, replyM (p.knows c) c.back p.k)], if p.knows c = true ∨ p.k = 3 ∨ p.k = 5 then p.effs else p.effs ++ [c], p.l, p.next, p.lo⟩
def PartM.small (p : PartM) : Prop := p.log.length < 2 ^ 30 ∧ p.effs.length < 2 ^ 30 ∧ p.l.length < 2 ^ 30 ∧ 0 ≤ p.at_ ∧ p.at_ < 2 ^ 30

set_option maxRecDepth 100000 in
set_option maxHeartbeats 4000000 in
theorem Ask_calls {w : World} {pb : Nat} {p : PartM} (h : PAt w pb p) (c : CallM) (hs : p.small) :
    Calls Tryz.prog 58 #[.pointer (some ⟨pb, 0, none⟩), c.val] w fun e w' => e = .returned (.int .i64 (replyM (p.knows c) c.back p.k)) ∧ PAt w' pb (p.ask c) ∧ FrK [45, 47, 49] w w' ∧ Low p.lo w w' := by
  obtain ⟨⟨lv, ev, iv, B, h1, hlo, heo, hil, hB0, hib⟩⟩ := h
  have hB := hB0.1
  have HB0 := Lib.hid hB0.2
  clear hB0
  have hcv := cellv w
  have h1a := heap_alloc_keep (.cells #[.int .i64 c.saga, .int .i64 c.step, .bool c.back, .string c.data] 46) h1
  have hca := heap_alloc_new w (.cells #[.int .i64 c.saga, .int .i64 c.step, .bool c.back, .string c.data] 46)
  unfold CallM.val
  go_enter Tryz.func58, Tryz.ntmps58
  go_upto_region 1 with fail
  have HW1 : Hid (New w (w.alloc (.cells #[.int .i64 c.saga, .int .i64 c.step, .bool c.back, .string c.data] 46))) := (Fr.refl _ _).alloc _
  generalize w.alloc (.cells #[.int .i64 c.saga, .int .i64 c.step, .bool c.back, .string c.data] 46) = W1 at h1a hca HW1 ⊢
  generalize hN : w.heap.size = N at hca ⊢
  have HN := Lib.hid hN
  clear hN hcv
  have hcv := cellv W1
  have hfv := frozv W1
  have hilv : ∃ a n cc, iv = .slice a n cc ∧ n = p.l.length := by
    rcases hil with ⟨e, a, cc, rfl⟩ | ⟨b, off, cap, cc, rfl, _⟩
    · exact ⟨a, 0, cc, rfl, by simp [e]⟩
    · exact ⟨_, _, _, rfl, rfl⟩
  obtain ⟨ia, im, ic, rfl, him⟩ := hilv
  have Him := Lib.hid him
  have Hil := Lib.hid hil
  have Hlo := Lib.hid hlo
  have Heo := Lib.hid heo
  have HB := Lib.hid hB
  have Hs := Lib.hid hs
  have H1 := Lib.hid h1
  have Hib := Lib.hid hib
  clear hil hlo heo hB hs h1 him hib
  go_upto_if 12 with fail
  go_cut [5] (fun s5 wx => s5 = .int .i64 p.k ∧ Fr (· = pb) W1 wx ∧ wx.heap[pb]? = some (.cells #[lv, ev, .slice ia im ic, .int .i64 p.next] 44 (0, 0)))
  case first =>
    by_cases hl : p.l = []
    · have hk : Hid (p.k = 0) := by show _ = _; simp [PartM.k, hl]
      have hn : Hid (p.next = p.at_) := by show _ = _; simp [PartM.next, hl]
      have h0 : ¬ 0 < im := by have := Him.out; rw [hl] at this; simp at this; omega
      clear hl
      go_wp2_with fail
      go_meet
      exact ⟨by rw [hk.out], Fr.refl _ _, by rw [hn.out]; exact h1a⟩
    · obtain ⟨m, hm⟩ : ∃ m : Nat, p.at_ = (m : Int) := ⟨p.at_.toNat, by have := Hs.out.2.2.2.1; omega⟩
      have hlp : 0 < p.l.length := by
        cases hh : p.l with
        | nil => exact absurd hh hl
        | cons a l => simp
      have hmb : m < 2 ^ 40 := by have := Hs.out.2.2.2.2; omega
      have hlb : p.l.length < 2 ^ 40 := by have := Hs.out.2.2.1; omega
      rcases Hil.out with ⟨e, _⟩ | ⟨b, off, cap, cc, eiv, hbb, hcc⟩
      · exact absurd e hl
      · simp only [Value.slice.injEq] at eiv
        obtain ⟨rfl, rfl, rfl⟩ := eiv
        have hidx : m % p.l.length < p.l.length := Nat.mod_lt _ hlp
        have hx := hcc (m % p.l.length) p.l[m % p.l.length] (List.getElem?_eq_getElem hidx)
        have hxw : W1.cell? ⟨b, off + m % p.l.length, none⟩ = some (.int .i64 p.l[m % p.l.length]) := by
          rw [cellv, HW1.out.get hbb (fun f => f)]; exact hx
        have hk : Hid (p.k = if (p.l[m % p.l.length]).tmod 6 < 0 then (p.l[m % p.l.length]).tmod 6 + 6 else (p.l[m % p.l.length]).tmod 6) := by
          show _ = _
          have e1 : p.at_.toNat = m := by omega
          have e2 : p.l.getD (m % p.l.length) 0 = p.l[m % p.l.length] := by simp [List.getD_eq_getElem?_getD, hidx]
          unfold PartM.k
          rw [if_neg hl, e1, e2]
        have hn : Hid (p.next = (m : Int) + 1) := by show _ = _; simp [PartM.next, hl, hm]
        have h0 : 0 < p.l.length := hlp
        have h1b := h1a
        rw [hm] at h1b
        have Hm := Lib.hid hm
        generalize p.l[m % p.l.length] = x at hk hxw
        have hr1 : -6 < x.tmod 6 ∧ x.tmod 6 < 6 := by
          have a1 := Int.lt_tmod_of_pos x (show (0 : Int) < 6 by omega)
          have a2 := Int.tmod_lt_of_pos x (show (0 : Int) < 6 by omega)
          exact ⟨a1, a2⟩
        clear hl hm hx hcc hbb h1a hcv hfv
        go_upto_region 3 with fail
        refine pt_r3 pb b off ic 0 m p.l lv ev x W1 hmb hlb h1b hxw hlp rfl ?_
        intro y13 y14 y15 y16 y17 y18 y19 y20 y21 y22 y23 y24 y25 y26 y27 y28 q
        have h2 : (W1.drewN q).heap[pb]? = some (.cells #[lv, ev, .slice (some ⟨b, off, none⟩) p.l.length ic, .int .i64 (m : Int)] 44 (0, 0)) := h1b
        have HF2 : Hid (Fr (· = pb) W1 (W1.drewN q)) := (Fr.refl _ _).drewN _
        clear h1b hxw
        generalize W1.drewN q = W2 at h2 HF2 ⊢
        have hcv := cellv W2
        have hfv := frozv W2
        generalize x.tmod 6 = r at hk hr1
        have hm1 : wrap64 ((m : Int) + 1) = (m : Int) + 1 := wrap_in _ (by omega)
        by_cases hr : r < 0
        · have hk' : Hid (p.k = r + 6) := by show _ = _; rw [hk.out, if_pos hr]
          go_wp2_with fail
          go_meet
          refine ⟨by rw [hk'.out], HF2.out.trans (Fr.one _ _ _ _), ?_⟩
          rw [hp_setCell, if_pos rfl, h2, hn.out]; rfl
        · have hk' : Hid (p.k = r) := by show _ = _; rw [hk.out, if_neg hr]
          go_wp2_with fail
          go_meet
          refine ⟨by rw [hk'.out], HF2.out.trans (Fr.one _ _ _ _), ?_⟩
          rw [hp_setCell, if_pos rfl, h2, hn.out]; rfl
  case rest =>
    obtain ⟨rfl, hfx, hpx⟩ := hcut
    obtain ⟨wc0, hwc0⟩ : ∃ wc0, wc0 = wc := ⟨_, rfl⟩
    subst hwc0
    have hNp : ¬ N = pb := by
      intro e
      have := lt_of_hp H1.out
      have := HN.out
      omega
    have hcx := hfx.get hca hNp
    have hFw : Fr (· = pb) w wc0 := (HW1.out.mono (fun _ _ f => f.elim)).trans hfx
    have hpw : ∀ k, k = pb → ∃ o, w.heap[k]? = some o ∧ kindOf o = 45 := by rintro k rfl; exact ⟨_, H1.out, rfl⟩
    have hlx := ownsRow_fr Hlo.out hFw (fun k hk => by obtain ⟨o, ho, he⟩ := hpw k hk; exact ⟨o, ho, by rw [he]; decide⟩)
    have hex := ownsRow_fr Heo.out hFw (fun k hk => by obtain ⟨o, ho, he⟩ := hpw k hk; exact ⟨o, ho, by rw [he]; decide⟩)
    have hix : IntsAt wc0 (.slice ia im ic) p.l := Hil.out.keep (fun k o ho he => hFw.get ho (by rintro rfl; rw [H1.out] at ho; cases ho; simp [kindOf] at he))
    have hBx : B ≤ wc0.heap.size := Nat.le_trans HB.out hFw.size
    have Hp : Hid (PAt wc0 pb ⟨p.log, p.effs, p.l, p.next, p.lo⟩) := ⟨⟨lv, ev, .slice ia im ic, B, hpx, hlx, hex, hix, ⟨hBx, HB0.out⟩, Hib.out⟩⟩
    have hef : p.effs.length < 2 ^ 30 := Hs.out.2.1
    have hlf : p.log.length < 2 ^ 30 := Hs.out.1
    have heN : ev.ownBlock ≠ some N := by
      intro e
      have := own_lt Heo.out e
      have := HN.out
      omega
    have hlN : lv.ownBlock ≠ some N := by
      intro e
      have := own_lt Hlo.out e
      have := HN.out
      omega
    have Hfw := Lib.hid hFw
    have Hlx := Lib.hid hlx
    have Hex := Lib.hid hex
    have Hix := Lib.hid hix
    have HBx := Lib.hid hBx
    have Hef := Lib.hid hef
    have Hlf := Lib.hid hlf
    have HeN := Lib.hid heN
    have HlN := Lib.hid hlN
    have Hcx := Lib.hid hcx
    have Hpx := Lib.hid hpx
    clear hcv hfv hFw hpw hlx hex hix hBx hef hlf heN hlN hfx h1a hca
    have Hr : Hid (replyM (p.knows c) c.back p.k = if p.knows c = true then (if p.k = 3 ∨ p.k = 4 then 1 else 0) else if p.k = 3 ∨ (p.k = 5 ∧ c.back = true) then 1 else if p.k = 5 then 2 else if p.k = 4 then 1 else 0) := rfl
    have He : Hid ((p.ask c).effs = if p.knows c = true ∨ p.k = 3 ∨ p.k = 5 then p.effs else p.effs ++ [c]) := rfl
    have Hlog : Hid ((p.ask c).log = p.log ++ [(c, replyM (p.knows c) c.back p.k)]) := rfl
    generalize hkk : p.k = k at Hr He Hlog ⊢
    have Hkk := Lib.hid hkk
    clear hkk
    generalize hrr : replyM (p.knows c) c.back k = rp at Hr Hlog ⊢
    have Hrr := Lib.hid hrr
    clear hrr
    go_upto_block 0 with fail
    go_cut [6] (fun s6 wx => s6 = .int .i64 rp ∧ Fr (fun k => k = pb ∨ ev.ownBlock = some k) wc0 wx ∧ ∃ ev', wx.heap[pb]? = some (.cells #[lv, ev', .slice ia im ic, .int .i64 p.next] 44 (0, 0)) ∧ wx.ownsRow B 46 4 ev' (p.ask c).effs.length (effCells (p.ask c).effs))
    case first =>
      have HD := Lib.hid (done_calls (p := ⟨p.log, p.effs, p.l, p.next, p.lo⟩) Hp.out c Hef.out)
      have Hkn : Hid ((p.effs.any fun e => sameCall e c) = p.knows c) := rfl
      simp only [Hkn.out] at HD
      have hcx2 := Hcx.out
      have hcv := cellv wc0
      clear Hkn hpx
      have HQ : Hid (∀ w2, New wc0 w2 → w2.heap[N]? = some (.cells c.cells.toArray 46 (0, 0)) ∧ w2.heap[pb]? = some (.cells #[lv, ev, .slice ia im ic, .int .i64 p.next] 44 (0, 0)) ∧ w2.ownsRow B 46 4 ev p.effs.length (effCells p.effs) ∧ B ≤ w2.heap.size) := by
        intro w2 hf
        exact ⟨hf.get Hcx.out (fun f => f), hf.get Hpx.out (fun f => f), ownsRow_fr Hex.out hf (fun _ f => f.elim), Nat.le_trans HBx.out hf.size⟩
      cases hd : p.knows c
      · rw [hd] at HD Hr He
        clear hd
        by_cases k3 : k = 3
        · subst k3
          go_wp2_with (first
            | (go_at_call 83; refine Calls.mono HD.out ?_; rintro e w2 ⟨rfl, hf2⟩)
            | fail)
          go_meet
          obtain ⟨_, q2, q3, _⟩ := HQ.out w2 hf2
          exact ⟨by rw [Hr.out]; simp, hf2.mono (fun _ _ f => f.elim), ev, q2, by rw [He.out]; simpa using q3⟩
        · have k3' : (k == 3) = false := by simpa using k3
          by_cases k5 : k = 5
          · subst k5
            go_upto_region 14 with (first
              | (go_at_call 83; refine Calls.mono HD.out ?_; rintro e w2 ⟨rfl, hf2⟩)
              | fail)
            have hcv2 := cellv w2
            have hcx3 := hf2.get Hcx.out (fun f => f)
            obtain ⟨_, q2, q3, _⟩ := HQ.out w2 hf2
            have Q2 := Lib.hid q2
            have Q3 := Lib.hid q3
            clear hcv hcx2 q2 q3
            by_cases hbk : c.back = true
            · have Hb := Lib.hid hbk
              go_wp2_with fail
              go_meet
              exact ⟨by rw [Hr.out]; simp [Hb.out], hf2.mono (fun _ _ f => f.elim), ev, Q2.out, by rw [He.out]; simpa using Q3.out⟩
            · have hbk' : c.back = false := by simpa using hbk
              have Hb := Lib.hid hbk'
              clear hbk
              go_wp2_with fail
              go_meet
              exact ⟨by rw [Hr.out]; simp [Hb.out], hf2.mono (fun _ _ f => f.elim), ev, Q2.out, by rw [He.out]; simpa using Q3.out⟩
          · have k5' : (k == 5) = false := by simpa using k5
            have He' : Hid ((p.ask c).effs = p.effs ++ [c]) := by show _ = _; rw [He.out]; simp [k3, k5]
            by_cases k4 : k = 4
            · subst k4
              have Hr' : Hid (rp = 1) := by show _ = _; rw [Hr.out]; simp
              clear k3 k5 k3' k5'
              go_upto_region 8 with (first
                | (go_at_call 83; refine Calls.mono HD.out ?_; rintro e w2 ⟨rfl, hf2⟩)
                | fail)
              obtain ⟨q1, q2, q3, q4⟩ := HQ.out w2 hf2
              refine pt_r8 pb N c p.effs lv ev (.slice ia im ic) (.int .i64 p.next) B w2 q2 q1 q3 q4 HeN.out Hef.out ?_
              intro y41 y42 y43 y44 y45 y46 y47 y48 y49 y50 ev' w3 hf3 hp3 ho3 hw3
              clear hcv hcx2 q1 q2 q3 q4
              go_wp2_with fail
              go_meet
              exact ⟨by rw [Hr'.out], (hf2.mono (fun _ _ f => f.elim)).trans hf3, ev', hp3, by rw [He'.out]; exact ho3⟩
            · have k4' : (k == 4) = false := by simpa using k4
              have Hr' : Hid (rp = 0) := by show _ = _; rw [Hr.out]; simp [k3, k4, k5]
              clear k3 k5 k4
              go_upto_region 8 with (first
                | (go_at_call 83; refine Calls.mono HD.out ?_; rintro e w2 ⟨rfl, hf2⟩)
                | fail)
              obtain ⟨q1, q2, q3, q4⟩ := HQ.out w2 hf2
              refine pt_r8 pb N c p.effs lv ev (.slice ia im ic) (.int .i64 p.next) B w2 q2 q1 q3 q4 HeN.out Hef.out ?_
              intro y41 y42 y43 y44 y45 y46 y47 y48 y49 y50 ev' w3 hf3 hp3 ho3 hw3
              clear hcv hcx2 q1 q2 q3 q4
              go_wp2_with fail
              go_meet
              exact ⟨by rw [Hr'.out], (hf2.mono (fun _ _ f => f.elim)).trans hf3, ev', hp3, by rw [He'.out]; exact ho3⟩
      · rw [hd] at HD Hr He
        clear hd
        by_cases k3 : k = 3
        · subst k3
          go_wp2_with (first
            | (go_at_call 83; refine Calls.mono HD.out ?_; rintro e w2 ⟨rfl, hf2⟩)
            | fail)
          go_meet
          obtain ⟨_, q2, q3, _⟩ := HQ.out w2 hf2
          exact ⟨by rw [Hr.out]; simp, hf2.mono (fun _ _ f => f.elim), ev, q2, by rw [He.out]; simpa using q3⟩
        · have k3' : (k == 3) = false := by simpa using k3
          by_cases k4 : k = 4
          · subst k4
            go_wp2_with (first
              | (go_at_call 83; refine Calls.mono HD.out ?_; rintro e w2 ⟨rfl, hf2⟩)
              | fail)
            go_meet
            obtain ⟨_, q2, q3, _⟩ := HQ.out w2 hf2
            exact ⟨by rw [Hr.out]; simp, hf2.mono (fun _ _ f => f.elim), ev, q2, by rw [He.out]; simpa using q3⟩
          · have k4' : (k == 4) = false := by simpa using k4
            have Hr' : Hid (rp = 0) := by show _ = _; rw [Hr.out]; simp [k3, k4]
            clear k3 k4
            go_wp2_with (first
              | (go_at_call 83; refine Calls.mono HD.out ?_; rintro e w2 ⟨rfl, hf2⟩)
              | fail)
            go_meet
            obtain ⟨_, q2, q3, _⟩ := HQ.out w2 hf2
            exact ⟨by rw [Hr'.out], hf2.mono (fun _ _ f => f.elim), ev, q2, by rw [He.out]; simpa using q3⟩
    case rest =>
      obtain ⟨rfl, hfy, ev', hpy, hey⟩ := hcut
      have hK2 : ∀ (q : Nat) (o : Obj), (q = pb ∨ ev.ownBlock = some q) → (World.heap wc0)[q]? = some o → kindOf o = 45 ∨ kindOf o = 47 := by
        rintro q o (rfl | hq) ho
        · rw [Hpx.out] at ho; cases ho; exact .inl rfl
        · obtain ⟨o', ho', he⟩ := own_kind Hex.out hq
          rw [ho'] at ho; cases ho; exact .inr he
      have hcN := hfy.get Hcx.out (by
        rintro (e | e)
        · exact hNp e
        · exact HeN.out e)
      have hlo2 := ownsRow_fr Hlx.out hfy (fun q hq => by
        rcases hq with rfl | hq
        · exact ⟨_, Hpx.out, by simp [kindOf]⟩
        · obtain ⟨o', ho', he⟩ := own_kind Hex.out hq
          exact ⟨o', ho', by rw [he]; decide⟩)
      have hix2 := Hix.out.keep (w' := wc) (fun q o ho he => hfy.get ho (fun hq => by rcases hK2 q o hq ho with e | e <;> omega))
      have hFK : FrK [45, 47, 49] w wc := (Hfw.out.toK (fun q o hq ho => by
          subst hq; rw [H1.out] at ho; cases ho; simp [kindOf])).trans (hfy.toK (fun q o hq ho => by rcases hK2 q o hq ho with e | e <;> simp [e]))
      have hlow1 := HB0.out
      have hO4 : Low p.lo w wc := by
        refine ⟨hfy.os.trans Hfw.out.os, hfy.tape.trans Hfw.out.tape, hfy.output.trans Hfw.out.output, Nat.le_trans Hfw.out.size hfy.size, fun k hk => ?_⟩
        have hkp : k ≠ pb := by omega
        have hks : k < w.heap.size := by have := lt_of_hp H1.out; omega
        have e1 := Hfw.out.block k hks hkp
        refine (hfy.block k (Nat.lt_of_lt_of_le hks Hfw.out.size) ?_).trans e1
        rintro (hq | hq)
        · exact hkp hq
        · have := (Hex.out.lt k hq).1; omega
      clear hlow1
      have HO4 := Lib.hid hO4
      have hB2 := Nat.le_trans HBx.out hfy.size
      have Hlo2 := Lib.hid hlo2
      have Hey := Lib.hid hey
      have Hix2 := Lib.hid hix2
      have HFK := Lib.hid hFK
      have Hpy := Lib.hid hpy
      have HB2 := Lib.hid hB2
      clear hpx hcx hK2 hfy hFK hix2 hey hO4
      go_upto_region 18 with fail
      refine pt_r18 pb N c p.log rp lv ev' (.slice ia im ic) (.int .i64 p.next) B wc hpy hcN hlo2 hB2 HlN.out Hlf.out ?_
      intro y77 y78 y79 y80 y81 y82 y83 y84 y85 y86 y87 y88 lv' w5 hf5 hp5 ho5 hw5
      clear hpy hcN hlo2
      go_wp2_with fail
      go_ret
      have hK5 : ∀ (q : Nat) (o : Obj), (q = pb ∨ lv.ownBlock = some q) → wc.heap[q]? = some o → kindOf o = 45 ∨ kindOf o = 49 := by
        rintro q o (rfl | hq) ho
        · rw [Hpy.out] at ho; cases ho; exact .inl rfl
        · obtain ⟨o', ho', he⟩ := own_kind Hlo2.out hq
          rw [ho'] at ho; cases ho; exact .inr he
      refine ⟨by rw [Hkk.out, Hrr.out]; rfl, ⟨⟨lv', ev', .slice ia im ic, B, hp5, ?_, ?_, ?_, ?_, Hib.out⟩⟩, ?_⟩
      · rw [Hlog.out]; exact ho5
      · refine ownsRow_fr Hey.out hf5 (fun q hq => ?_)
        rcases hq with rfl | hq
        · exact ⟨_, Hpy.out, by simp [kindOf]⟩
        · obtain ⟨o', ho', he⟩ := own_kind Hlo2.out hq
          exact ⟨o', ho', by rw [he]; decide⟩
      · exact Hix2.out.keep (fun q o ho he => hf5.get ho (fun hq => by rcases hK5 q o hq ho with e | e <;> omega))
      · exact ⟨Nat.le_trans HB2.out hf5.size, HB0.out⟩
      · refine ⟨HFK.out.trans (hf5.toK (fun q o hq ho => by rcases hK5 q o hq ho with e | e <;> simp [e])), HO4.out.trans (hf5.low ?_ ?_)⟩
        · have := HB2.out; have := HB0.out; omega
        · rintro q (rfl | hq)
          · have := HB0.out; omega
          · have := (Hlo2.out.lt q hq).1; have := HB0.out; omega
end Go.Proofs.YtkafmfdipmhleaaGreatDoor

namespace Go.Proofs.YtkafmfdipmhleaaGreatDoor
open Go.RowKit

section
variable {P : Program} {w : World} {a : Act} {K : Act → World → Prop} {Q : Exit → Act → World → Prop}
/-- The cells of the block that a pointer points to. -/
def blkOf (w : World) : Value → Array Value
  | .pointer (some a) => match w.heap[a.block]? with | some (.cells c _ _) => c | _ => #[]
  | _ => #[]
/-- It points to a block that is just one aggregate of type ty. -/
def okLoad (P : Program) (ty : TypeId) (w : World) (v : Value) : Prop :=
  ∃ b c t f d, v = .pointer (some ⟨b, 0, none⟩) ∧ w.heap[b]? = some (.cells c t f) ∧ P.underlying ty = some d ∧ d.isRow = true ∧ (P.info? ty).map (·.size) = some c.size
theorem wp_load_whole {dst : Option Tmp} {ty : TypeId} {x : Operand} {type : TypeId} {pos : String} {after : Array Edge} {guard : Option (Nat × Bool)} (h : okLoad P ty w (a.eval x)) :
    (Oper.wp P ⟨dst, .load ty x, type, pos, after, guard⟩ a w K Q) = K (a.put dst (.agg (blkOf w (a.eval x)))) w := by
  obtain ⟨b, c, t, f, d, hv, hw, hu, hd, hi⟩ := h
  have hl : (loadVar ty ⟨b, 0, none⟩).run P w = .ok (.agg c) w := run_loadVar_row w b t ty c f d hw hu (by cases d <;> first | rfl | cases hd) hi
  unfold Oper.wp execOp
  simp only [hv, Instr.loadAt, Instr.sureAddr, Sem.run_bind, Sem.run_pure, Result.andThen_ok, hl]
  simp [blkOf, hw, Oper.upon]
/-- A part that fills a slice of one element. -/
def okBuild (P : Program) (t : TypeId) (v : Value) : Prop :=
  ∃ e i z, P.underlying t = some (.slice e) ∧ P.elem t = e ∧ P.info? e = some i ∧ i.zero = some z ∧ i.size = v.cells.size ∧ 0 < v.cells.size ∧ v.cells.size ≤ 1000
theorem wp_build_one {dst : Option Tmp} {t : TypeId} {x : Operand} {type : TypeId} {pos : String} {after : Array Edge} {guard : Option (Nat × Bool)} (h : okBuild P t (a.eval x)) :
    (Oper.wp P ⟨dst, .buildSlice t 1 #[(0, x)], type, pos, after, guard⟩ a w K Q) = K (a.put dst (.slice (some ⟨w.heap.size, 0, none⟩) 1 1)) (w.alloc (.cells (a.eval x).cells (P.elem t))) := by
  obtain ⟨e, i, z, hu, he, hi, hz, hs, h0, h1⟩ := h
  have hf := Great.fill_whole (s := i.size) (by omega) [a.eval x] ((Array.range (1 * i.size)).map (z.cells[· % z.cells.size]!)) (by simp [hs]) (by simp)
  have hr := run_buildSlice (P := P) w t e 1 #[(0, a.eval x)] _ i z hu hi hz (by rw [hs]; omega) (by rw [hs]; omega) hf
  unfold Oper.wp execOp
  simp only [Sem.run_bind, List.map_toArray, List.map_cons, List.map_nil, hr, Result.andThen_ok]
  simp [he, Oper.upon]
end
attribute [local go_sem ↓] wp_load_whole wp_build_one

def padB (l : List UInt8) : List UInt8 := l ++ List.replicate (128 - l.length) 0
def DiskM.put (d : DiskM) (i : Nat) (l : List UInt8) : DiskM := { d.count with pend := some (i, padB l), writes := wrap64 (d.writes + 1) }
theorem padB_length (l : List UInt8) (h : l.length ≤ 128) : (padB l).length = 128 := by simp [padB]; omega

/-- What Write does. -/
def WritePost (w : World) (db bb : Nat) (d : DiskM) (i : Nat) (l : List UInt8) (e : Ending) (w' : World) : Prop :=
  Fr (· = db) w w' ∧ (d.bad = true ∧ e = .returned (.iface 55 (.int .i64 5)) ∧ DiskAt w' db bb d.count ∨ d.bad = false ∧ e = .returned .nilIface ∧ DiskAt w' db bb (d.put i l))

theorem zc107_list : Tryz.zeroCells107.toList = .int .i64 0 :: List.replicate 128 (.int .u8 0) := by kernel_rfl
theorem Tryz.info107 : (Tryz.prog.info? 107).map (fun i => (i.zero, i.size, i.bytes)) = some (some (.agg Tryz.zeroCells107), 129, 136) := by kernel_rfl

/-- A write that is being made: where, and noughts. -/
theorem zc_set (i : Nat) : Tryz.zeroCells107.setIfInBounds 0 (.int .i64 i) = (Value.int .i64 (i : Int) :: List.replicate 128 (.int .u8 0)).toArray := by
  have h : Tryz.zeroCells107 = (Value.int .i64 0 :: List.replicate 128 (.int .u8 0)).toArray := by
    rw [← zc107_list]
  rw [h, List.setIfInBounds_toArray, List.set_cons_zero]
theorem bv_zero : (Value.int .u8 0) = bv 0 := rfl
theorem w_splice (i : Nat) (l : List UInt8) : ((Value.int .i64 (i : Int) :: List.replicate 128 (.int .u8 0)).take 1 ++ l.map bv ++ (Value.int .i64 (i : Int) :: List.replicate 128 (.int .u8 0)).drop (1 + (l.map bv).length)) = Value.int .i64 (i : Int) :: (padB l).map bv := by
  rw [List.take_succ_cons, List.take_zero, Nat.add_comm, List.drop_succ_cons, List.drop_replicate, List.length_map]
  simp [padB, bv_zero]

set_option maxRecDepth 100000 in
set_option maxHeartbeats 2000000 in
theorem Write_calls {w : World} {db bb : Nat} {d : DiskM} (h : DiskAt w db bb d) (i : Nat) (hi : i < d.blocks.length) (hp : d.pend = none) (sb so n scap : Nat) (l : List UInt8) (hn : n = l.length) (hl : l.length ≤ 128) (sc : Array Value) (st : TypeId)
    (hs : w.heap[sb]? = some (.cells sc st (0, 0))) (hst : st ≠ 102) (hsc : ∀ j, j < l.length → sc[so + j]? = some (bv (l.getD j 0))) :
    Calls Tryz.prog 180 #[.pointer (some ⟨db, 0, none⟩), .int .i64 i, .slice (some ⟨sb, so, none⟩) n scap] w (WritePost w db bb d i l) := by
  have hfl := fails_calls h
  have hsdb : sb ≠ db := by
    obtain ⟨_, cap, rest, cv, h1, _⟩ := h
    exact ne_of_kind hs h1 (by simp [kindOf]; exact hst)
  go_enter Tryz.func180, Tryz.ntmps180
  go_wp2_with fail
  refine hfl.mono ?_
  rintro e w1 ⟨rfl, hd1, hf1⟩
  have hs1 := hf1.get hs hsdb
  clear hfl hs h
  by_cases hbad : d.bad = true
  · rw [hbad]
    go_wp2_with fail
    go_ret
    exact ⟨hf1, .inl ⟨hbad, rfl, hd1⟩⟩
  · have hbad' : d.bad = false := by simpa using hbad
    rw [hbad']
    go_wp2_with fail
    refine (none_calls hd1 i).mono ?_
    rintro e w2 ⟨rfl, rfl⟩
    have hlt : decide (d.count.blocks.length ≤ i) = false := by rw [decide_eq_false_iff_not]; show ¬ d.blocks.length ≤ i; omega
    rw [hlt]
    have Hz1 : Hid ((Tryz.prog.info? 107).map (·.size) = some (Value.int .i64 (i : Int) :: List.replicate 128 (.int .u8 0)).toArray.size) := by
      show _ = _
      rw [Tryz.info107s]; simp
    have Hz2 : Hid (Tryz.zeroCells107.size = (Value.int .i64 (i : Int) :: List.replicate 128 (.int .u8 0)).toArray.size) := Tryz.zc107.trans (by simp)
    have Hz3 : Hid ((Value.int .i64 (i : Int) :: List.replicate 128 (.int .u8 0)).toArray.all (·.oneCell') = true) := all_oneCell_toArray (by
      intro v hv
      rcases List.mem_cons.1 hv with rfl | hv
      · rfl
      · obtain rfl := List.eq_of_mem_replicate hv; rfl)
    have Hz4 := Lib.hid (zc_set i)
    have Hz5 := Lib.hid (w_splice i l)
    have Hz6 : Hid (1 + (l.map bv).length ≤ (Value.int .i64 (i : Int) :: List.replicate 128 (.int .u8 0)).toArray.size) := by
      show _ ≤ _
      simp; omega
    have Hz7 : Hid ((l.map bv).length = Nat.min l.length 128) := by
      show _ = _
      rw [List.length_map]; exact (Nat.min_eq_left hl).symm
    generalize (Value.int .i64 (i : Int) :: List.replicate 128 (.int .u8 0)) = ZL at Hz1 Hz2 Hz3 Hz4 Hz5 Hz6
    go_upto_region 4 with (first
      | (refine wpl_store_new rfl 107 (.tmp 7) (.tmp 17) rfl w1.heap.size ZL.toArray Tryz.zeroCells107 107 rfl rfl (congrArg Value.agg Hz4.out) Hz1.out Hz2.out Hz3.out ?_)
      | fail)
    have hd2 := hd1.new ((Fr.refl _ w1).alloc (.cells ZL.toArray 107))
    have hn2 := heap_alloc_new w1 (.cells ZL.toArray 107)
    have hf2 := hf1.alloc (.cells ZL.toArray 107)
    have hs2 := heap_alloc_keep (.cells ZL.toArray 107) hs1
    have hsn : sb ≠ w1.heap.size := ne_size_of_hp hs1
    have hnl : w.heap.size ≤ w1.heap.size := hf1.size
    generalize w1.alloc (.cells ZL.toArray 107) = W2 at hd2 hn2 hf2 hs2 ⊢
    generalize w1.heap.size = g at hn2 hsn hnl ⊢
    have Hsrc : Hid (∀ j v, (l.map bv)[j]? = some v → cellOf W2.heap[sb]? (so + j) = some v) := by
      intro j v hj
      have hj' : j < l.length := by simpa using (List.getElem?_eq_some_iff.1 hj).1
      rw [hs2, cellOf_cells, hsc j hj', ← hj]
      simp [hj']
    have Hone := Lib.hid (bv_one l)
    have Hl := Lib.hid hl
    have Hn := Lib.hid hn
    generalize hln : l.length = ln at Hz7
    have Hd2 := Lib.hid hd2
    clear hd1 hf1 hs1 hsc hd2 hlt hl hn
    go_upto_region 5 with (first
      | (refine wpl_copy rfl (.tmp 19) (.tmp 20) 92 92 rfl 5 Tryz.underlying92 Tryz.info5sz g 1 128 128 rfl sb so ln scap rfl ZL.toArray 107 hn2 (l.map bv) Hz7.out Hsrc.out Hz6.out Hone.out ?_; intro W3 Y hY hn3 hf3)
      | fail)
    obtain ⟨hwf, cap, rest, cv, h1, h2, h3⟩ := Hd2.out
    have hpc : d.count.pend = none := hp
    rw [hpc] at h3
    obtain rfl : cv = .slice none 0 0 := h3
    have hgd : db ≠ g := by
      intro e
      rw [e, hn2] at h1
      exact absurd h1 (by simp)
    have hgb : bb ≠ g := by
      intro e
      rw [e, hn2] at h2
      exact absurd h2 (by simp)
    have hbd : bb ≠ db := ne_of_kind h2 h1 (by simp [kindOf])
    have hY' : Y = (Value.int .i64 (i : Int) :: (padB l).map bv).toArray := by rw [hY.out, ← Hz5.out]
    have h1' := hf3.get h1 hgd
    have h2' := hf3.get h2 hgb
    have Hf := Lib.hid (hf2.trans' hf3 (fun k hk e => absurd hk (by rw [e]; omega)))
    have hYs : Y.size = 129 := by rw [hY']; simp [padB_length l Hl.out]
    have Hw := Lib.hid hwf
    have HY := Lib.hid hY'
    have hOL : okLoad Tryz.prog 107 W3.drew (.pointer (some ⟨g, 0, none⟩)) := by
      obtain ⟨d7, u1, u2⟩ : ∃ d, Tryz.prog.underlying 107 = some d ∧ d.isRow = true := by
        have hx : (Tryz.prog.underlying 107).map (·.isRow) = some true := by kernel_rfl
        cases hu : Tryz.prog.underlying 107 with
        | none => rw [hu] at hx; cases hx
        | some x => rw [hu] at hx; exact ⟨x, rfl, Option.some.inj hx⟩
      exact ⟨g, Y, 107, (0, 0), d7, rfl, hn3, u1, u2, by rw [Tryz.info107s, hYs]⟩
    have hBL : blkOf W3.drew (.pointer (some ⟨g, 0, none⟩)) = Y := by
      simp only [blkOf, hp_drew, hn3]
    have hOB : okBuild Tryz.prog 100 (.agg Y) := by
      cases hi : Tryz.prog.info? 107 with
      | none => have := Tryz.info107; rw [hi] at this; simp at this
      | some i' =>
        have := Tryz.info107
        rw [hi] at this
        simp at this
        exact ⟨107, i', _, Tryz.underlying100, by kernel_rfl, hi, this.1, by rw [this.2.1]; exact hYs.symm, by show 0 < Y.size; omega, by show Y.size ≤ 1000; omega⟩
    clear hn2 hs2 hsn hY hf2 h2 hwf hY' hYs hf3 h1
    have hE : Tryz.prog.elem 100 = 107 := by kernel_rfl
    simp only [dkCells] at h1'
    have hdc : W3.drew.cell? ⟨db, 1, none⟩ = some (.slice none 0 0) := by rw [cellv, hp_drew, h1']; rfl
    have hdcA : (W3.alloc (.cells Y 107)).cell? ⟨db, 1, none⟩ = some (.slice none 0 0) := by rw [cellv, heap_alloc_keep _ h1']; rfl
    have h1A := heap_alloc_keep (w := W3.drew) (.cells Y 107) h1'
    have hnew := heap_alloc_new W3.drew (.cells Y 107)
    have HYs : Hid (Y.toList.length = 1 * 129) := by
      show _ = _
      rw [HY.out]; simp [padB_length l Hl.out]
    have HY1 : Hid (∀ u ∈ Y.toList, u.oneCell' = true) := by
      intro u hu
      rw [HY.out] at hu
      simp at hu
      rcases hu with rfl | ⟨x, _, rfl⟩ <;> rfl
    obtain ⟨i7, hi7, hz7, hs7, hb7⟩ : ∃ i, Tryz.prog.info? 107 = some i ∧ i.zero = some (.agg Tryz.zeroCells107) ∧ i.size = 129 ∧ i.bytes = 136 := by
      cases hi : Tryz.prog.info? 107 with
      | none => have := Tryz.info107; rw [hi] at this; simp at this
      | some i' =>
        have := Tryz.info107
        rw [hi] at this
        simp at this
        exact ⟨i', rfl, this.1, this.2.1, this.2.2⟩
    have Hzs : Hid ((Value.agg Tryz.zeroCells107).cells.size = 129) := by
      show Tryz.zeroCells107.size = 129
      exact Tryz.zc107
    go_region_law (first
      | (refine step_append_lies _ (by rfl) (.tmp 26) (.tmp 28) 100 (by rfl) W3.heap.size 107 i7 (.agg Tryz.zeroCells107) 129 136 Tryz.underlying100 hi7 hz7 hs7 hb7 Hzs.out (by decide) (.slice none 0 0) 0 [] (by rfl) (World.ownsRow_nil _ _ _ _) ⟨W3.drew.heap.size, 0, none⟩ 1 1 Y.toList (by rfl) HYs.out (World.news_of_block hnew) HY1.out (by decide) (by decide) (by decide) (by simp) _ rfl ?_; intro gq capq w6 hown6 hgrow6 hat6 hlt6; have h16 := (Fr.ofGrown hgrow6).get h1A (by simp [Value.ownBlock]); have hcv6 := cellv w6; have hfv6 := frozv w6)
      | fail)
    all_goals
      have hF6 : Fr (fun _ => False) W3 w6 := ((((Fr.refl _ W3).drew).alloc (.cells Y 107)).trans' (Fr.ofGrown hgrow6) (fun k _ e => by simp [Value.ownBlock] at e))
      have HF7 := Lib.hid ((Hf.out.trans' hF6 (fun _ _ f => f.elim)).setCell (b := db) (fun _ => rfl) 1 (.slice (some ⟨gq, 0, none⟩) 1 capq))
      have hb6 := hF6.get h2' (fun f => f)
      obtain ⟨cur, hbase, hg6, htk⟩ : ∃ cur, W3.heap.size ≤ gq ∧ w6.heap[gq]? = some (.cells cur 107 (0, 0)) ∧ cur.toList.take 129 = Y.toList := by
        rcases hown6.2 with ⟨e, _⟩ | ⟨g', cap', cur, hv, hb, hg', _, _, _, htk⟩
        · cases e
        · obtain ⟨rfl, rfl⟩ : gq = g' ∧ capq = cap' := by simpa using hv
          exact ⟨cur, hb, hg', by simpa using htk⟩
      have hgqd : gq ≠ db := by have := lt_of_hp h1'; omega
      have hgqb : gq ≠ bb := by have := lt_of_hp h2'; omega
      have hW7 : Hid (∀ k x, k ≠ db → w6.heap[k]? = some x → (w6.setCell ⟨db, 1, none⟩ (.slice (some ⟨gq, 0, none⟩) 1 capq)).heap[k]? = some x) := by
        intro k x hk hx
        rw [hp_setCell, if_neg hk]; exact hx
      have h17 : (w6.setCell ⟨db, 1, none⟩ (.slice (some ⟨gq, 0, none⟩) 1 capq)).heap[db]? = some (.cells #[.slice (some ⟨bb, 0, none⟩) d.count.blocks.length cap, .slice (some ⟨gq, 0, none⟩) 1 capq, .int .i64 d.count.calls, .int .i64 d.count.writes, .int .i64 d.count.told, .int .i64 d.count.off, .int .i64 d.count.fr, .int .i64 d.count.to] 102 (0, 0)) := by
        rw [hp_setCell, if_pos rfl, h16]; rfl
      have Hcur : Hid (cur = wrCells i (padB l) (cur.toList.drop 129)) := by
        have e1 : cur.toList = Y.toList ++ cur.toList.drop 129 := by rw [← htk, List.take_append_drop]
        show _ = _
        rw [wrCells, ← Array.toArray_toList (xs := cur), e1, HY.out]
        simp [padB_length l Hl.out]
      have Hb7 := Lib.hid (hW7.out _ _ hbd hb6)
      have Hg7 := Lib.hid (hW7.out _ _ hgqd hg6)
      clear hcv6 hfv6 hnew h1A hdc hdcA hOL hBL hOB hE hown6 hgrow6 hat6 hlt6 h16 hF6 hb6 hg6 htk hW7 hbase
      generalize w6.setCell ⟨db, 1, none⟩ (.slice (some ⟨gq, 0, none⟩) 1 capq) = W7 at HF7 h17 Hb7 Hg7 ⊢
      have hcv7 := cellv W7
      have hfv7 := frozv W7
      go_wp2_with fail
      go_ret
      refine ⟨HF7.out.setCell (fun _ => rfl) _ _, .inr ⟨hbad', rfl, ⟨?_, ?_⟩⟩⟩
      · exact ⟨Hw.out.1, fun p hp => by
          obtain rfl : (i, padB l) = p := Option.some.inj hp
          exact ⟨hi, padB_length l Hl.out⟩⟩
      · refine ⟨cap, rest, .slice (some ⟨gq, 0, none⟩) 1 capq, ?_, ?_, gq, capq, cur.toList.drop 129, rfl, ?_⟩
        · rw [hp_setCell, if_pos rfl, h17]; rfl
        · rw [hp_setCell, if_neg hbd]; exact Hb7.out
        · rw [hp_setCell, if_neg hgqd, Hg7.out, ← Hcur.out]
end Go.Proofs.YtkafmfdipmhleaaGreatDoor

namespace Go.Proofs.YtkafmfdipmhleaaGreatDoor
open Go.RowKit

/-! ### Cells that are stored one behind the other -/
theorem hp_setCells_other (b : Nat) : ∀ (vs : List Value) (o : Nat) (w : World) (k : Nat), k ≠ b → (w.setCells b o vs).heap[k]? = w.heap[k]?
  | [], _, _, _, _ => rfl
  | v :: vs, o, w, k, h => by
    show ((w.setCell ⟨b, o, none⟩ v).setCells b (o + 1) vs).heap[k]? = _
    rw [hp_setCells_other b vs (o + 1) _ k h, hp_setCell, if_neg h]
theorem hp_setCells (b : Nat) (t : TypeId) (f : Nat × Nat) : ∀ (vs : List Value) (o : Nat) (w : World) (c : Array Value), w.heap[b]? = some (.cells c t f) → o + vs.length ≤ c.size →
    (w.setCells b o vs).heap[b]? = some (.cells (c.toList.take o ++ vs ++ c.toList.drop (o + vs.length)).toArray t f)
  | [], o, w, c, h, _ => by
    show w.heap[b]? = _
    rw [h]; simp [List.take_append_drop]
  | v :: vs, o, w, c, h, hl => by
    show ((w.setCell ⟨b, o, none⟩ v).setCells b (o + 1) vs).heap[b]? = _
    have hl' : o + 1 + vs.length ≤ c.size := by simp at hl; omega
    rw [hp_setCells b t f vs (o + 1) _ (c.setIfInBounds o v) (by rw [hp_setCell, if_pos rfl, h]; rfl) (by simpa using hl')]
    congr 2
    have ho : o < c.toList.length := by simp; omega
    simp only [Array.toList_setIfInBounds, List.length_cons]
    rw [List.take_succ_eq_append_getElem (by simpa using ho), List.getElem_set_self, List.take_set_of_le (Nat.le_refl _), List.drop_set_of_lt (by omega), show o + 1 + vs.length = o + (vs.length + 1) by omega]
    simp
theorem Fr.setCells {S : Nat → Prop} {a : World} {b : Nat} (hb : b < a.heap.size → S b) : ∀ (vs : List Value) (o : Nat) {w : World}, Fr S a w → Fr S a (w.setCells b o vs)
  | [], _, _, h => h
  | v :: vs, o, _, h => Fr.setCells hb vs (o + 1) (h.setCell hb o v)

/-! ### Loads and stores of aggregates as rules -/
def rowOf (P : Program) (ty : TypeId) (w : World) : Value → Array Value
  | .pointer (some a) => match P.info? ty with
    | some i => ((List.range i.size).map fun j => (w.cell? ⟨a.block, a.off + j, none⟩).getD undef).toArray
    | none => #[]
  | _ => #[]
def okRow (P : Program) (ty : TypeId) (w : World) (v : Value) : Prop :=
  ∃ b o cs d, v = .pointer (some ⟨b, o, none⟩) ∧ w.rangeAt b o cs ∧ P.underlying ty = some d ∧ d.isRow = true ∧ (P.info? ty).map (·.size) = some cs.length
theorem rowOf_eq {P : Program} {ty : TypeId} {w : World} {b o : Nat} {cs : List Value} (h : w.rangeAt b o cs) (hi : (P.info? ty).map (·.size) = some cs.length) : rowOf P ty w (.pointer (some ⟨b, o, none⟩)) = cs.toArray := by
  cases hq : P.info? ty with
  | none => simp [hq] at hi
  | some i =>
    have hs : i.size = cs.length := by simpa [hq] using hi
    simp only [rowOf, hq]
    congr 1
    apply List.ext_getElem?
    intro j
    rw [List.getElem?_map]
    by_cases hj : j < cs.length
    · have := h j cs[j] (by simp [hj])
      simp [hj, hs, this]
    · simp [hj, hs]
section
variable {P : Program} {w : World} {a : Act} {K : Act → World → Prop} {Q : Exit → Act → World → Prop}
theorem wp_load_row' {dst : Option Tmp} {ty : TypeId} {x : Operand} {type : TypeId} {pos : String} {after : Array Edge} {guard : Option (Nat × Bool)} (h : okRow P ty w (a.eval x)) :
    (Oper.wp P ⟨dst, .load ty x, type, pos, after, guard⟩ a w K Q) = K (a.put dst (.agg (rowOf P ty w (a.eval x)))) w := by
  obtain ⟨b, o, cs, d, hv, hr, hu, hd, hi⟩ := h
  rw [hv, rowOf_eq hr hi]
  unfold Oper.wp execOp
  simp only [hv, Instr.loadAt, Instr.sureAddr, Sem.run_bind, Sem.run_pure, Result.andThen_ok, run_loadVar_mid w b o ty cs d hr hu hd hi]
  simp [Oper.upon]
/-- An aggregate may be stored there. -/
def okPut (P : Program) (ty : TypeId) (w : World) (v y : Value) : Prop :=
  ∃ b o cells, v = .pointer (some ⟨b, o, none⟩) ∧ y = .agg cells ∧ w.there b o cells.size ∧ (P.info? ty).map (·.size) = some cells.size ∧ cells.all (·.oneCell') = true
def putAt (w : World) (v y : Value) : World :=
  match v with
  | .pointer (some a) => w.setCells a.block a.off y.cells.toList
  | _ => w
theorem wp_store_row' {dst : Option Tmp} {ty : TypeId} {x y : Operand} {type : TypeId} {pos : String} {after : Array Edge} {guard : Option (Nat × Bool)} (h : okPut P ty w (a.eval x) (a.eval y)) :
    (Oper.wp P ⟨dst, .store ty x y, type, pos, after, guard⟩ a w K Q) = K (a.put dst undef) (putAt w (a.eval x) (a.eval y)) := by
  obtain ⟨b, o, cells, hx, hy, ht, hi, h1⟩ := h
  rw [hx, hy]
  unfold Oper.wp execOp
  simp only [hx, hy, Instr.storeAt, Instr.sureAddr, Sem.run_bind, Sem.run_pure, Result.andThen_ok, run_storeVar_mid w b o ty cells ht hi h1]
  simp [Oper.upon, putAt, Value.cells]
theorem there_of_cells {w : World} {b o n : Nat} {c : Array Value} {t : TypeId} (h : w.heap[b]? = some (.cells c t (0, 0))) (hn : o + n ≤ c.size) : w.there b o n := by
  intro j hj
  rw [cellv, frozv, h]
  simp
  omega
theorem rangeAt_of_cells {w : World} {b o : Nat} {c : Array Value} {t : TypeId} {f : Nat × Nat} {cs : List Value} (h : w.heap[b]? = some (.cells c t f)) (hc : ∀ j v, cs[j]? = some v → c[o + j]? = some v) : w.rangeAt b o cs := by
  intro j v hj
  rw [cellv, h, cellOf_cells]
  exact hc j v hj
end
attribute [local go_sem ↓] wp_load_row' wp_store_row'

/-- What Flush makes of a disk. -/
def DiskM.flush (d : DiskM) : DiskM := { d.count with blocks := (match d.pend with | some (i, b) => d.blocks.set i b | none => d.blocks), pend := none }
def FlushPost (w : World) (db bb : Nat) (d : DiskM) (e : Ending) (w' : World) : Prop :=
  Fr (fun k => k = db ∨ k = bb) w w' ∧ (d.bad = true ∧ e = .returned (.iface 55 (.int .i64 5)) ∧ DiskAt w' db bb d.count ∨ d.bad = false ∧ e = .returned .nilIface ∧ DiskAt w' db bb d.flush)
theorem blk_set (bl : List (List UInt8)) (h : ∀ b ∈ bl, b.length = 128) (rest : List Value) (i : Nat) (hi : i < bl.length) (b : List UInt8) (hb : b.length = 128) :
    ((blkCells bl rest).toList.take (i * 128) ++ b.map bv ++ (blkCells bl rest).toList.drop (i * 128 + (b.map bv).length)).toArray = blkCells (bl.set i b) rest := by
  unfold blkCells
  congr 1
  simp only [List.length_map, hb]
  induction bl generalizing i with
  | nil => simp at hi
  | cons c bl ih =>
    have hc := h c (by simp)
    cases i with
    | zero => simp [hc]
    | succ i =>
      have := ih (fun x hx => h x (by simp [hx])) i (by simpa using hi)
      have hcl : (c.map bv).length = 128 := by simp [hc]
      simp only [List.flatten_cons, List.map_append, List.set_cons_succ]
      rw [List.append_assoc (c.map bv) ((bl.set i b).flatten.map bv), ← this]
      rw [List.append_assoc (c.map bv)]
      generalize bl.flatten.map bv ++ rest = X
      rw [show (i + 1) * 128 = (c.map bv).length + i * 128 by omega, List.take_length_add_append, show (c.map bv).length + i * 128 + 128 = (c.map bv).length + (i * 128 + 128) by omega, List.drop_length_add_append]
      simp
theorem blk_size (bl : List (List UInt8)) (h : ∀ b ∈ bl, b.length = 128) (rest : List Value) : (blkCells bl rest).size = bl.length * 128 + rest.length := by
  induction bl with
  | nil => simp [blkCells]
  | cons c bl ih =>
    have := ih (fun x hx => h x (by simp [hx]))
    simp [blkCells] at this ⊢
    have hc := h c (by simp)
    omega
theorem isRow_of {ty : TypeId} (hx : (Tryz.prog.underlying ty).map (·.isRow) = some true) : ∃ d, Tryz.prog.underlying ty = some d ∧ d.isRow = true := by
  cases hu : Tryz.prog.underlying ty with
  | none => rw [hu] at hx; cases hx
  | some x => rw [hu] at hx; exact ⟨x, rfl, Option.some.inj hx⟩

set_option maxRecDepth 100000 in
set_option maxHeartbeats 2000000 in
theorem Flush_calls {w : World} {db bb : Nat} {d : DiskM} (h : DiskAt w db bb d) : Calls Tryz.prog 178 #[.pointer (some ⟨db, 0, none⟩)] w (FlushPost w db bb d) := by
  have hfl := fails_calls h
  go_enter Tryz.func178, Tryz.ntmps178
  go_wp2_with fail
  refine hfl.mono ?_
  rintro e w1 ⟨rfl, hd1, hf1⟩
  have hf1' : Fr (fun k => k = db ∨ k = bb) w w1 := hf1.mono (fun _ _ e => .inl e)
  clear hfl h hf1
  by_cases hbad : d.bad = true
  · rw [hbad]
    go_wp2_with fail
    go_ret
    exact ⟨hf1', .inl ⟨hbad, rfl, hd1⟩⟩
  · have hbad' : d.bad = false := by simpa using hbad
    rw [hbad']
    have Hd1 := Lib.hid hd1
    have Hf1 := Lib.hid hf1'
    obtain ⟨hwf, cap, rest, cv, h1, h2, h3⟩ := hd1
    simp only [dkCells] at h1
    have hbd : bb ≠ db := ne_of_kind h2 h1 (by simp [kindOf])
    have hwf' : d.wf := hwf
    have h3' : PendAt w1 cv d.pend := h3
    have h2' : w1.heap[bb]? = some (.cells (blkCells d.blocks rest) 103 (0, 0)) := h2
    have Hw := Lib.hid hwf'
    have H2 := Lib.hid h2'
    clear hwf h3 h2 hf1' hwf' h2'
    have hcv := cellv w1
    have hfv := frozv w1
    cases hp : d.pend with
    | none =>
      rw [hp] at h3'
      obtain rfl : cv = .slice none 0 0 := h3'
      have Hp := Lib.hid hp
      clear hp
      go_wp2_with fail
      refine wp_loop_rounds 1 ?_
      rw [rounds_succ]
      go_wp2_with fail
      go_ret
      refine ⟨Hf1.out.setCell (fun _ => .inl rfl) _ _, .inr ⟨hbad', rfl, ?_, ?_⟩⟩
      · refine ⟨?_, fun p hp => by cases hp⟩
        show ∀ b ∈ (match d.pend with | some (i, b) => d.blocks.set i b | none => d.blocks), b.length = 128
        rw [Hp.out]; exact Hw.out.1
      · refine ⟨cap, rest, .slice none 0 0, ?_, ?_, rfl⟩
        · rw [hp_setCell, if_pos rfl, h1]
          simp [dkCells, DiskM.flush, Hp.out, DiskM.count]
        · rw [hp_setCell, if_neg hbd, H2.out]
          simp [DiskM.flush, Hp.out]
    | some p =>
      obtain ⟨i, b⟩ := p
      rw [hp] at h3'
      obtain ⟨cb, ccap, rest', rfl, hcb⟩ := h3'
      obtain ⟨hpi, hpb⟩ := Hw.out.2 _ hp
      have hpb' : b.length = 128 := hpb
      have hpi' : i < d.blocks.length := hpi
      have hw1 : ∀ q v, (Value.int .i64 (i : Int) :: b.map bv)[q]? = some v → cellOf w1.heap[cb]? (0 + q) = some v := by
        intro q v hq
        rw [hcb, cellOf_cells, Nat.zero_add, wrCells, List.getElem?_toArray, List.getElem?_append_left (List.getElem?_eq_some_iff.1 hq).1]
        exact hq
      have hw2 : (Value.int .i64 (i : Int) :: b.map bv).length = 129 := by simp [hpb']
      have hw3 : (Value.int .i64 (i : Int) :: b.map bv).toArray.all (·.oneCell') = true := all_oneCell_toArray (by
        intro v hv
        rcases List.mem_cons.1 hv with rfl | hv
        · rfl
        · exact bv_one b v hv)
      have hw4 : (Value.int .i64 (i : Int) :: b.map bv).toArray[0]? = some (.int .i64 (i : Int)) := rfl
      have hw5 : ∀ q v, (b.map bv)[q]? = some v → (Value.int .i64 (i : Int) :: b.map bv).toArray[1 + q]? = some v := by
        intro q v hq
        rw [Nat.add_comm]; simpa using hq
      have Hbm := Lib.hid (show (b.map bv).length = 128 by rw [List.length_map]; exact hpb')
      have Hone2 := Lib.hid (bv_one b)
      generalize hCW : (Value.int .i64 (i : Int) :: b.map bv) = CW at hw1 hw2 hw3 hw4 hw5
      have Hw1 := Lib.hid hw1
      have Hw3 := Lib.hid hw3
      have Hw5 := Lib.hid hw5
      have Hi1 := Lib.hid (show (Tryz.prog.info? 107).map (·.size) = some CW.length by rw [hw2]; exact Tryz.info107s)
      have Hi2 := Lib.hid (show (Tryz.prog.info? 107).map (·.size) = some CW.toArray.size by rw [List.size_toArray, hw2]; exact Tryz.info107s)
      have Hi3 := Lib.hid (Tryz.zc107.trans (show 129 = CW.toArray.size by rw [List.size_toArray, hw2]))
      have Hp := Lib.hid hp
      have Hcb := Lib.hid hcb
      have Hpb := Lib.hid hpb'
      have Hpi := Lib.hid hpi'
      have hcbd : cb ≠ db := ne_of_kind hcb h1 (by simp [kindOf])
      clear hw1 hw2 hw3 hw5 hCW hp hpb hpb' hcb hpi hpi'
      go_wp2_with fail
      refine wp_loop_rounds 2 ?_
      rw [rounds_succ]
      go_upto_region 6 with (first
        | (refine wpl_load rfl 107 (.tmp 15) rfl cb 0 rfl CW _ Hw1.out Tryz.underlying107 rfl Hi1.out ?_)
        | (refine wpl_store_new rfl 107 (.tmp 4) (.tmp 16) rfl w1.heap.size CW.toArray Tryz.zeroCells107 107 rfl rfl rfl Hi2.out Hi3.out Hw3.out ?_)
        | fail)
      have hn4 := heap_alloc_new w1 (.cells CW.toArray 107)
      have hF4 := Hf1.out.alloc (.cells CW.toArray 107)
      have h14 := heap_alloc_keep (.cells CW.toArray 107) h1
      have h24 := heap_alloc_keep (.cells CW.toArray 107) H2.out
      have hgn : bb ≠ w1.heap.size := ne_size_of_hp H2.out
      have hgd : db ≠ w1.heap.size := ne_size_of_hp h1
      have hnl : w.heap.size ≤ w1.heap.size := Hf1.out.size
      generalize w1.alloc (.cells CW.toArray 107) = W4 at hn4 hF4 h14 h24 ⊢
      generalize w1.heap.size = n at hn4 hgn hgd hnl ⊢
      obtain ⟨d3, hu3, hr3⟩ := isRow_of (ty := 103) (by kernel_rfl)
      have hi3 : (Tryz.prog.info? 103).map (·.size) = some 128 := by kernel_rfl
      have hrow : W4.drew.rangeAt n 1 (b.map bv) := rangeAt_of_cells (w := W4.drew) hn4 Hw5.out
      have hOR : okRow Tryz.prog 103 W4.drew (.pointer (some ⟨n, 1, none⟩)) := ⟨n, 1, b.map bv, d3, rfl, hrow, hu3, hr3, by rw [Hbm.out]; exact hi3⟩
      have hRO : rowOf Tryz.prog 103 W4.drew (.pointer (some ⟨n, 1, none⟩)) = (b.map bv).toArray := rowOf_eq hrow (by rw [Hbm.out]; exact hi3)
      have hfit : i * 128 + (b.map bv).length ≤ (blkCells d.blocks rest).size := by
        rw [Hbm.out, blk_size _ Hw.out.1]
        have := Hpi.out
        omega
      have hOP : okPut Tryz.prog 103 W4.drew (.pointer (some ⟨bb, i * 128, none⟩)) (.agg (b.map bv).toArray) := ⟨bb, i * 128, (b.map bv).toArray, rfl, rfl, there_of_cells (w := W4.drew) h24 (by simpa using hfit), by rw [List.size_toArray, Hbm.out]; exact hi3, all_oneCell_toArray (Hone2.out)⟩
      have hc0 : W4.drew.cell? ⟨db, 0, none⟩ = some (.slice (some ⟨bb, 0, none⟩) d.count.blocks.length cap) := by rw [cellv, hp_drew, h14]; rfl
      have hc1 : W4.drew.cell? ⟨n, 0, none⟩ = some (.int .i64 (i : Int)) := by rw [cellv, hp_drew, hn4]; exact hw4
      have hil : (i : Int) < d.count.blocks.length := by have := Hpi.out; show (i : Int) < d.blocks.length; omega
      have hi0 : 0 ≤ (i : Int) := by omega
      clear hcv hfv
      have Hrow := Lib.hid hrow
      have Hfit := Lib.hid hfit
      clear hrow hfit
      have h15 : (putAt W4.drew (.pointer (some ⟨bb, i * 128, none⟩)) (.agg (b.map bv).toArray)).heap[db]? = W4.heap[db]? := hp_setCells_other bb _ _ W4.drew db (Ne.symm hbd)
      rw [h14] at h15
      have h25 : (putAt W4.drew (.pointer (some ⟨bb, i * 128, none⟩)) (.agg (b.map bv).toArray)).heap[bb]? = some (.cells (blkCells (d.blocks.set i b) rest) 103 (0, 0)) := by
        rw [← blk_set d.blocks Hw.out.1 rest i Hpi.out b Hpb.out]
        exact hp_setCells bb 103 (0, 0) (b.map bv) (i * 128) W4.drew _ h24 Hfit.out
      have hF5 : Fr (fun k => k = db ∨ k = bb) w (putAt W4.drew (.pointer (some ⟨bb, i * 128, none⟩)) (.agg (b.map bv).toArray)) := Fr.setCells (b := bb) (fun _ => .inr rfl) _ _ hF4.drew
      go_region_law fail
      all_goals
        generalize putAt W4.drew (.pointer (some ⟨bb, i * 128, none⟩)) (.agg (b.map bv).toArray) = W5 at h15 h25 hF5 ⊢
        clear hc0 hc1 hOP hRO hOR h14 h24 hn4 hF4 h1
        have hcv5 := cellv W5
        have hfv5 := frozv W5
        go_wp2_with fail
        rw [rounds_succ]
        go_wp2_with fail
        go_ret
        refine ⟨hF5.setCell (fun _ => .inl rfl) _ _, .inr ⟨hbad', rfl, ?_, ?_⟩⟩
        · refine ⟨?_, fun p hp => by cases hp⟩
          show ∀ b ∈ (match d.pend with | some (i, b) => d.blocks.set i b | none => d.blocks), b.length = 128
          rw [Hp.out]
          intro x hx
          rcases List.mem_or_eq_of_mem_set hx with hx | rfl
          · exact Hw.out.1 x hx
          · exact Hpb.out
        · refine ⟨cap, rest, .slice none 0 0, ?_, ?_, rfl⟩
          · rw [hp_setCell, if_pos rfl, h15]
            simp [dkCells, DiskM.flush, Hp.out, DiskM.count]
          · rw [hp_setCell, if_neg hbd, h25]
            simp [DiskM.flush, Hp.out]
end Go.Proofs.YtkafmfdipmhleaaGreatDoor

namespace Go.Proofs.YtkafmfdipmhleaaGreatDoor
open Go.RowKit

/-- A disk of noughts. -/
def DiskM.new (n : Nat) : DiskM := ⟨List.replicate n (List.replicate 128 0), none, 0, 0, 0, -1, 0, 0⟩
theorem made_zero (n : Nat) (z : Value) (hz : z.cells = Array.replicate 128 (.int .u8 0)) : madeCells z.cells (n * 128) = blkCells (List.replicate n (List.replicate 128 0)) [] := by
  rw [hz]
  apply Array.ext
  · rw [size_madeCells, blk_size _ (by intro b hb; obtain rfl := List.eq_of_mem_replicate hb; simp)]; simp
  · intro i h1 h2
    have e0 : blkCells (List.replicate n (List.replicate 128 0)) [] = (List.replicate (n * 128) (.int .u8 0)).toArray := by
      simp only [blkCells, List.append_nil]
      rw [List.flatten_replicate_replicate, List.map_replicate]
      rfl
    have e1 : (blkCells (List.replicate n (List.replicate 128 0)) [])[i] = .int .u8 0 := by
      simp only [e0, List.getElem_toArray, List.getElem_replicate]
    rw [e1]
    have h3 : i % 128 < (Array.replicate 128 (Value.int .u8 0)).size := by rw [Array.size_replicate]; omega
    have e2 : (Array.replicate 128 (Value.int .u8 0))[i % 128]! = .int .u8 0 := by rw [getElem!_pos (Array.replicate 128 (Value.int .u8 0)) (i % 128) h3, Array.getElem_replicate]
    simp only [madeCells, Array.getElem_map, Array.getElem_range, Array.size_replicate]
    exact e2
set_option maxRecDepth 100000 in
set_option maxHeartbeats 1000000 in
theorem NewDisk_calls (w : World) (n : Nat) (hn : n < 1000) : Calls Tryz.prog 38 #[.int .i64 n] w fun e w' => New w w' ∧ ∃ db bb, w.heap.size ≤ db ∧ w.heap.size ≤ bb ∧ e = .returned (.pointer (some ⟨db, 0, none⟩)) ∧ DiskAt w' db bb (DiskM.new n) := by
  obtain ⟨i, z, hi, hz, hs, hb, hzc⟩ : ∃ i z, Tryz.prog.info? 103 = some i ∧ i.zero = some z ∧ i.size = 128 ∧ i.bytes = 128 ∧ z.cells = Array.replicate 128 (.int .u8 0) := by
    have hx : (Tryz.prog.info? 103).map (fun i => (i.zero.map (·.cells), i.size, i.bytes)) = some (some (Array.replicate 128 (.int .u8 0)), 128, 128) := by kernel_rfl
    cases hi : Tryz.prog.info? 103 with
    | none => rw [hi] at hx; cases hx
    | some i =>
      rw [hi] at hx
      simp only [Option.map_some, Option.some.injEq, Prod.mk.injEq] at hx
      obtain ⟨h1, h2, h3⟩ := hx
      cases hz : i.zero with
      | none => rw [hz] at h1; cases h1
      | some z => rw [hz] at h1; exact ⟨i, z, rfl, hz, h2, h3, Option.some.inj h1⟩
  have hmk : ∀ w, (Instr.makeSlice 99 (.int .i64 n) (.int .i64 n)).run Tryz.prog w = .ok (.slice (some ⟨w.heap.size, 0, none⟩) n n) (w.alloc (.cells (blkCells (List.replicate n (List.replicate 128 0)) []) 103)) := by
    intro w
    have := run_make (P := Tryz.prog) w 99 103 i z Tryz.underlying99 hi hz .i64 .i64 n n (by omega) (Int.le_refl _) (by rw [hb]; omega) (by omega)
    rw [this, hs, Int.toNat_natCast, made_zero n z hzc]
  have hrem : (n : Int).tmod 1000 = n := by
    rw [Int.tmod_eq_emod_of_nonneg (by omega)]; omega
  have hn0 : ¬ ((n : Int) < 0) := by omega
  clear hi hz hs hb hzc
  generalize hBC : (blkCells (List.replicate n (List.replicate 128 0)) []) = BC at hmk
  have HBC := Lib.hid hBC
  clear hBC
  go_enter Tryz.func38, Tryz.ntmps38
  go_wp2_with fail
  go_ret
  have h1 := heap_alloc_keep (.cells #[.slice (some ⟨w.heap.size, 0, none⟩) n n, .slice none 0 0, .int .i64 0, .int .i64 0, .int .i64 0, .int .i64 (-1), .int .i64 0, .int .i64 0] 102) (heap_alloc_new w (.cells BC 103))
  refine ⟨((Fr.refl _ w).alloc _).alloc _, w.heap.size + 1, by omega, w.heap.size, Nat.le_refl _, rfl, ?_, n, [], .slice none 0 0, ?_, ?_, rfl⟩
  · exact ⟨fun b hb => by obtain rfl := List.eq_of_mem_replicate hb; simp, fun p hp => by cases hp⟩
  · have := heap_alloc_new (w.alloc (.cells BC 103)) (.cells #[.slice (some ⟨w.heap.size, 0, none⟩) n n, .slice none 0 0, .int .i64 0, .int .i64 0, .int .i64 0, .int .i64 (-1), .int .i64 0, .int .i64 0] 102)
    rw [sz_alloc] at this
    simpa [dkCells, DiskM.new] using this
  · rw [h1, ← HBC.out]; rfl

theorem pend_keep {w w' : World} {db : Nat} {cv : Value} {q : Option (Nat × List UInt8)} {c : Array Value} {f : Nat × Nat} (h3 : PendAt w cv q) (h1 : w.heap[db]? = some (.cells c 102 f)) (hf : Fr (· = db) w w') : PendAt w' cv q :=
  h3.frame hf (by rintro k rfl; exact ⟨_, h1, by simp [kindOf]⟩)

def DiskM.cut (d : DiskM) (n : Int) : DiskM := { d with off := wrap64 (d.calls + n) }
set_option maxHeartbeats 1000000 in
theorem Off_calls {w : World} {db bb : Nat} {d : DiskM} (h : DiskAt w db bb d) (n : Int) :
    Calls Tryz.prog 27 #[.pointer (some ⟨db, 0, none⟩), .int .i64 n] w fun e w' => e = .returned (.tuple #[]) ∧ Fr (· = db) w w' ∧ DiskAt w' db bb (d.cut n) := by
  obtain ⟨hwf, cap, rest, cv, h1, h2, h3⟩ := h
  have hk := fun w' => pend_keep (w' := w') h3 h1
  have hbd : bb ≠ db := ne_of_kind h2 h1 (by simp [kindOf])
  simp only [dkCells] at h1
  have Hw := Lib.hid hwf
  have H2 := Lib.hid h2
  have Hk := Lib.hid hk
  clear hwf h2 h3 hk
  have hcv := cellv w
  have hfv := frozv w
  go_enter Tryz.func27, Tryz.ntmps27
  go_wp2_with fail
  go_end0
  refine ⟨rfl, Fr.one _ _ _ _, Hw.out, cap, rest, cv, ?_, ?_, Hk.out _ (Fr.one _ _ _ _)⟩
  · rw [hp_setCell, if_pos rfl, h1]; rfl
  · rw [hp_setCell, if_neg hbd]; exact H2.out

def DiskM.spoil (d : DiskM) (n k : Int) : DiskM := { d with fr := wrap64 (d.calls + n), «to» := wrap64 (wrap64 (d.calls + n) + k) }
set_option maxHeartbeats 1000000 in
theorem Bad_calls {w : World} {db bb : Nat} {d : DiskM} (h : DiskAt w db bb d) (n k : Int) :
    Calls Tryz.prog 28 #[.pointer (some ⟨db, 0, none⟩), .int .i64 n, .int .i64 k] w fun e w' => e = .returned (.tuple #[]) ∧ Fr (· = db) w w' ∧ DiskAt w' db bb (d.spoil n k) := by
  obtain ⟨hwf, cap, rest, cv, h1, h2, h3⟩ := h
  have hk := fun w' => pend_keep (w' := w') h3 h1
  have hbd : bb ≠ db := ne_of_kind h2 h1 (by simp [kindOf])
  simp only [dkCells] at h1
  have Hw := Lib.hid hwf
  have H2 := Lib.hid h2
  have Hk := Lib.hid hk
  clear hwf h2 h3 hk
  have hc2 : w.drew.cell? ⟨db, 2, none⟩ = some (.int .i64 d.calls) := by rw [cellv, hp_drew, h1]; rfl
  have hc6 : w.drew.cell? ⟨db, 6, none⟩ = some (.int .i64 d.fr) := by rw [cellv, hp_drew, h1]; rfl
  have hc7 : w.drew.cell? ⟨db, 7, none⟩ = some (.int .i64 d.to) := by rw [cellv, hp_drew, h1]; rfl
  have hc6' : w.cell? ⟨db, 6, none⟩ = some (.int .i64 d.fr) := hc6
  have hc7' : w.cell? ⟨db, 7, none⟩ = some (.int .i64 d.to) := hc7
  have hf6' : w.frozen? ⟨db, 6, none⟩ = false := by rw [frozv, h1]; rfl
  have hf7' : w.frozen? ⟨db, 7, none⟩ = false := by rw [frozv, h1]; rfl
  have hf6 : w.drew.frozen? ⟨db, 6, none⟩ = false := by rw [frozv, hp_drew, h1]; rfl
  have hf7 : w.drew.frozen? ⟨db, 7, none⟩ = false := by rw [frozv, hp_drew, h1]; rfl
  go_enter Tryz.func28, Tryz.ntmps28
  go_wp2_with fail
  go_region
  all_goals
    go_wp2_with fail
    go_end0
    refine ⟨rfl, ((Fr.one _ _ _ _).trans (Fr.one _ _ _ _)).drew, Hw.out, cap, rest, cv, ?_, ?_, Hk.out _ ((Fr.one _ _ _ _).trans (Fr.one _ _ _ _)).drew⟩
    · simp only [hp_setCell, hp_drew, if_true, h1]; rfl
    · simp only [hp_setCell, hp_drew, if_neg hbd]; exact H2.out

def DiskM.pending (d : DiskM) : Int := match d.pend with | some _ => 1 | none => 0
set_option maxHeartbeats 1000000 in
theorem Pending_calls {w : World} {db bb : Nat} {d : DiskM} (h : DiskAt w db bb d) :
    Calls Tryz.prog 31 #[.pointer (some ⟨db, 0, none⟩)] w fun e w' => e = .returned (.int .i64 d.pending) ∧ w = w' := by
  obtain ⟨hwf, cap, rest, cv, h1, h2, h3⟩ := h
  simp only [dkCells] at h1
  have hcv := cellv w
  cases hp : d.pend with
  | none =>
    rw [hp] at h3
    obtain rfl : cv = .slice none 0 0 := h3
    clear hwf h2
    go_enter Tryz.func31, Tryz.ntmps31
    go_wp2
    go_ret
    exact ⟨by simp [DiskM.pending, hp], rfl⟩
  | some p =>
    rw [hp] at h3
    obtain ⟨cb, ccap, rest', rfl, hcb⟩ := h3
    clear hwf h2 hcb
    go_enter Tryz.func31, Tryz.ntmps31
    go_wp2
    go_ret
    exact ⟨by simp [DiskM.pending, hp], rfl⟩
set_option maxHeartbeats 1000000 in
theorem Told_calls {w : World} {db bb : Nat} {d : DiskM} (h : DiskAt w db bb d) :
    Calls Tryz.prog 33 #[.pointer (some ⟨db, 0, none⟩)] w fun e w' => e = .returned (.int .i64 d.told) ∧ w = w' := by
  obtain ⟨hwf, cap, rest, cv, h1, h2, h3⟩ := h
  simp only [dkCells] at h1
  clear hwf h2 h3
  have hcv := cellv w
  go_enter Tryz.func33, Tryz.ntmps33
  go_wp2
  go_ret
  exact ⟨rfl, rfl⟩
set_option maxHeartbeats 1000000 in
theorem Writes_calls {w : World} {db bb : Nat} {d : DiskM} (h : DiskAt w db bb d) :
    Calls Tryz.prog 34 #[.pointer (some ⟨db, 0, none⟩)] w fun e w' => e = .returned (.int .i64 d.writes) ∧ w = w' := by
  obtain ⟨hwf, cap, rest, cv, h1, h2, h3⟩ := h
  simp only [dkCells] at h1
  clear hwf h2 h3
  have hcv := cellv w
  go_enter Tryz.func34, Tryz.ntmps34
  go_wp2
  go_ret
  exact ⟨rfl, rfl⟩
end Go.Proofs.YtkafmfdipmhleaaGreatDoor
