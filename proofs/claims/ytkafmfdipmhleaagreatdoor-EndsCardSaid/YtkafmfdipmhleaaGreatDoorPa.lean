/-
  What is proved: the contract of the partner's Ask.
-/
import Derived.Test.YtkafmfdipmhleaaGreatDoorPd
import Derived.Deep.CutBlock
namespace Go.Proofs.YtkafmfdipmhleaaGreatDoor
open Go.RowKit

set_option maxRecDepth 100000 in
set_option maxHeartbeats 4000000 in
/-- k = p.l[p.at%len(p.l)] % 6. -/
theorem pt_r3 (pb b off cap c0 : Nat) (m : Nat) (l : List Int) (lv ev : Value) (x : Int) (W : World) (hm : m < 2 ^ 40) (hl : l.length < 2 ^ 40)
    (hp : W.heap[pb]? = some (.cells #[lv, ev, .slice (some ⟨b, off, none⟩) l.length cap, .int .i64 m] 44 (0, 0))) (hx : W.cell? ⟨b, off + m % l.length, none⟩ = some (.int .i64 x)) (h0 : 0 < l.length) (_hc0 : c0 = 0)
    {ds : List Deferred} {x1 x2 x3 x4 x5 x6 x7 x8 x9 x10 x11 x12 x13 x14 x15 x16 x17 x18 x19 x20 x21 x22 x23 x24 x25 x26 x27 x28 x29 x30 x31 x32 x33 x34 x35 x36 x37 x38 x39 x40 x41 x42 x43 x44 x45 x46 x47 x48 x49 x50 x51 x52 x53 x54 x55 x56 x57 x58 x59 x60 x61 x62 x63 x64 x65 x66 x67 x68 x69 x70 x71 x72 x73 x74 x75 x76 x77 x78 x79 x80 x81 x82 x83 x84 x85 x86 x87 x88 x89 : Value} {Q : Exit → Act → World → Prop}
    (hQ : ∀ (y13 y14 y15 y16 y17 y18 y19 y20 y21 y22 y23 y24 y25 y26 y27 y28 : Value) (q : Nat), Q .normal ⟨#[.pointer (some ⟨pb, 0, none⟩), x1, x2, x3, x4, .int .i64 (x.tmod 6), x6, x7, x8, x9, x10, x11, x12, y13, y14, y15, y16, y17, y18, y19, y20, y21, y22, y23, y24, y25, y26, y27, y28, .int .i64 (x.tmod 6), x30, x31, x32, x33, x34, x35, x36, x37, x38, x39, x40, x41, x42, x43, x44, x45, x46, x47, x48, x49, x50, x51, x52, x53, x54, x55, x56, x57, x58, x59, x60, x61, x62, x63, x64, x65, x66, x67, x68, x69, x70, x71, x72, x73, x74, x75, x76, x77, x78, x79, x80, x81, x82, x83, x84, x85, x86, x87, x88, x89], ds⟩ (W.drewN q)) :
    Code.wp Tryz.prog ptR3 Q ⟨#[.pointer (some ⟨pb, 0, none⟩), x1, x2, x3, x4, x5, x6, x7, x8, x9, x10, x11, x12, x13, x14, x15, x16, x17, x18, x19, x20, x21, x22, x23, x24, x25, x26, x27, x28, x29, x30, x31, x32, x33, x34, x35, x36, x37, x38, x39, x40, x41, x42, x43, x44, x45, x46, x47, x48, x49, x50, x51, x52, x53, x54, x55, x56, x57, x58, x59, x60, x61, x62, x63, x64, x65, x66, x67, x68, x69, x70, x71, x72, x73, x74, x75, x76, x77, x78, x79, x80, x81, x82, x83, x84, x85, x86, x87, x88, x89], ds⟩ W := by
  have a2 : W.cell? ⟨pb, 2, none⟩ = some (.slice (some ⟨b, off, none⟩) l.length cap) := by rw [cellv, hp]; rfl
  have a3 : W.cell? ⟨pb, 3, none⟩ = some (.int .i64 m) := by rw [cellv, hp]; rfl
  have hlt : m % l.length < l.length := Nat.mod_lt _ h0
  have ht : (m : Int).tmod (l.length : Int) = ((m % l.length : Nat) : Int) := by
    rw [Int.tmod_eq_emod_of_nonneg (by omega)]; simp
  have hlt' : ((m % l.length : Nat) : Int) < l.length := by omega
  have hge : (0 : Int) ≤ ((m % l.length : Nat) : Int) := by omega
  have hn0 : ¬ l.length = 0 := by omega
  have HQ := Lib.hid hQ
  generalize hi : m % l.length = i at hx hlt ht hlt' hge
  have hn0' : ((l.length : Int) == 0) = false := by simp; intro e; simp [e] at h0
  generalize l.length = len at a2 hlt ht hlt' hge hn0 hn0'
  clear hp hQ hi h0 hm hl
  conv => arg 2; whnf
  go_quiet (fail)
  exact HQ.out _ _ _ _ _ _ _ _ _ _ _ _ _ _ _ _ nq

/-- Of the blocks that were there only those of the kinds K may have turned. -/
structure FrK (K : List Nat) (w w' : World) : Prop where
  os : w'.os = w.os
  tape : w'.tape = w.tape
  output : w'.output = w.output
  size : w.heap.size ≤ w'.heap.size
  block : ∀ (k : Nat) (o : Obj), w.heap[k]? = some o → kindOf o ∉ K → w'.heap[k]? = some o
theorem FrK.refl (K : List Nat) (w : World) : FrK K w w := ⟨rfl, rfl, rfl, Nat.le_refl _, fun _ _ h _ => h⟩
theorem FrK.trans {K : List Nat} {a b c : World} (h : FrK K a b) (k : FrK K b c) : FrK K a c :=
  ⟨k.os.trans h.os, k.tape.trans h.tape, k.output.trans h.output, Nat.le_trans h.size k.size, fun i o hi ho => k.block i o (h.block i o hi ho) ho⟩
theorem Fr.toK {S : Nat → Prop} {K : List Nat} {w w' : World} (h : Fr S w w') (hS : ∀ (k : Nat) (o : Obj), S k → w.heap[k]? = some o → kindOf o ∈ K) : FrK K w w' :=
  ⟨h.os, h.tape, h.output, h.size, fun k _ ho hk => h.get ho (fun s => hk (hS k _ s ho))⟩
/-- What lies below B is as it was. -/
structure Low (B : Nat) (w w' : World) : Prop where
  os : w'.os = w.os
  tape : w'.tape = w.tape
  output : w'.output = w.output
  size : w.heap.size ≤ w'.heap.size
  block : ∀ k, k < B → w'.heap[k]? = w.heap[k]?
theorem Low.refl (B : Nat) (w : World) : Low B w w := ⟨rfl, rfl, rfl, Nat.le_refl _, fun _ _ => rfl⟩
theorem Low.trans {B : Nat} {a b c : World} (h : Low B a b) (k : Low B b c) : Low B a c :=
  ⟨k.os.trans h.os, k.tape.trans h.tape, k.output.trans h.output, Nat.le_trans h.size k.size, fun i hi => (k.block i hi).trans (h.block i hi)⟩
theorem Low.le {A B : Nat} {w w' : World} (h : Low B w w') (hAB : A ≤ B) : Low A w w' := ⟨h.os, h.tape, h.output, h.size, fun k hk => h.block k (Nat.lt_of_lt_of_le hk hAB)⟩
theorem Low.below {B : Nat} {w w' : World} (h : Low B w w') : Below B w w' := ⟨h.os, h.tape, h.output, h.size, h.block⟩
theorem Fr.low {S : Nat → Prop} {w w' : World} {B : Nat} (h : Fr S w w') (hB : B ≤ w.heap.size) (hS : ∀ k, S k → B ≤ k) : Low B w w' := ⟨h.os, h.tape, h.output, h.size, fun k hk => h.block k (by omega) (fun s => by have := hS k s; omega)⟩
theorem FrK.mono {K L : List Nat} {w w' : World} (h : FrK K w w') (hK : ∀ k ∈ K, k ∈ L) : FrK L w w' :=
  ⟨h.os, h.tape, h.output, h.size, fun k o ho hk => h.block k o ho (fun e => hk (hK _ e))⟩
theorem own_kind {w : World} {base : Nat} {e : TypeId} {size : Nat} {v : Value} {n : Nat} {xs : List Value} (h : w.ownsRow base e size v n xs) {k : Nat} (hv : v.ownBlock = some k) : ∃ o, w.heap[k]? = some o ∧ kindOf o = e + 1 := by
  rcases h.2 with ⟨rfl, _⟩ | ⟨g, cap, cur, rfl, hg, hh, r⟩
  · simp [Value.ownBlock] at hv
  · obtain rfl : g = k := by simpa [Value.ownBlock] using hv
    exact ⟨_, hh, rfl⟩
theorem PAt.keep {w w' : World} {pb : Nat} {p : PartM} (h : PAt w pb p) (hs : w.heap.size ≤ w'.heap.size) (hf : ∀ (k : Nat) (o : Obj), w.heap[k]? = some o → (kindOf o = 45 ∨ kindOf o = 47 ∨ kindOf o = 49 ∨ (kindOf o = 4 ∧ k < pb)) → w'.heap[k]? = some o) : PAt w' pb p := by
  obtain ⟨⟨lv, ev, iv, B, h1, hlo, heo, hil, hB, hib⟩⟩ := h
  have hown : ∀ {e : TypeId} {size : Nat} {v : Value} {n : Nat} {xs : List Value}, w.ownsRow B e size v n xs → (e = 46 ∨ e = 48) → w'.ownsRow B e size v n xs := by
    intro e size v n xs h he
    refine ⟨h.1, ?_⟩
    rcases h.2 with h2 | ⟨g, cap, cur, hv, hg, hh, r⟩
    · exact .inl h2
    · exact .inr ⟨g, cap, cur, hv, hg, hf g _ hh (by rcases he with rfl | rfl <;> simp [kindOf]), r⟩
  refine ⟨⟨lv, ev, iv, B, hf pb _ h1 (.inl rfl), hown hlo (.inr rfl), hown heo (.inl rfl), ?_, ⟨Nat.le_trans hB.1 hs, hB.2⟩, hib⟩⟩
  rcases hil with h | ⟨b, off, cap, c, e, h1, h2⟩
  · exact .inl h
  · exact .inr ⟨b, off, cap, c, e, hf b _ h1 (.inr (.inr (.inr ⟨rfl, hib _ _ _ e⟩))), h2⟩
def PartM.k (p : PartM) : Int := if p.l = [] then 0 else if (p.l.getD (p.at_.toNat % p.l.length) 0).tmod 6 < 0 then (p.l.getD (p.at_.toNat % p.l.length) 0).tmod 6 + 6 else (p.l.getD (p.at_.toNat % p.l.length) 0).tmod 6
def PartM.next (p : PartM) : Int := if p.l = [] then p.at_ else p.at_ + 1
def PartM.knows (p : PartM) (c : CallM) : Bool := p.effs.any fun e => sameCall e c
def replyM (dn back : Bool) (k : Int) : Int := if dn then (if k = 3 ∨ k = 4 then 1 else 0) else if k = 3 ∨ (k = 5 ∧ back = true) then 1 else if k = 5 then 2 else if k = 4 then 1 else 0
def PartM.ask (p : PartM) (c : CallM) : PartM :=
  ⟨p.log ++ [(c, replyM (p.knows c) c.back p.k)], if p.knows c = true ∨ p.k = 3 ∨ p.k = 5 then p.effs else p.effs ++ [c], p.l, p.next, p.lo⟩
def PartM.small (p : PartM) : Prop := p.log.length < 2 ^ 30 ∧ p.effs.length < 2 ^ 30 ∧ p.l.length < 2 ^ 30 ∧ 0 ≤ p.at_ ∧ p.at_ < 2 ^ 30

set_option maxRecDepth 100000 in
set_option maxHeartbeats 4000000 in
theorem Ask_calls {w : World} {pb : Nat} {p : PartM} (h : PAt w pb p) (c : CallM) (hs : p.small) :
    Calls Tryz.prog 58 #[.pointer (some ⟨pb, 0, none⟩), c.val] w fun e w' => e = .returned (.int .i64 (replyM (p.knows c) c.back p.k)) ∧ PAt w' pb (p.ask c) ∧ FrK [45, 47, 49] w w' ∧ Low p.lo w w' := by
  obtain ⟨⟨lv, ev, iv, B, h1, hlo, heo, hil, hB0, hib⟩⟩ := h
  have hB := hB0.1
  have HB0 := Lib.hid hB0.2
  clear hB0
  have hcv := cellv w
  have h1a := heap_alloc_keep (.cells #[.int .i64 c.saga, .int .i64 c.step, .bool c.back, .string c.data] 46) h1
  have hca := heap_alloc_new w (.cells #[.int .i64 c.saga, .int .i64 c.step, .bool c.back, .string c.data] 46)
  unfold CallM.val
  go_enter Tryz.func58, Tryz.ntmps58
  go_upto_region 1 with fail
  have HW1 : Hid (New w (w.alloc (.cells #[.int .i64 c.saga, .int .i64 c.step, .bool c.back, .string c.data] 46))) := (Fr.refl _ _).alloc _
  generalize w.alloc (.cells #[.int .i64 c.saga, .int .i64 c.step, .bool c.back, .string c.data] 46) = W1 at h1a hca HW1 ⊢
  generalize hN : w.heap.size = N at hca ⊢
  have HN := Lib.hid hN
  clear hN hcv
  have hcv := cellv W1
  have hfv := frozv W1
  have hilv : ∃ a n cc, iv = .slice a n cc ∧ n = p.l.length := by
    rcases hil with ⟨e, a, cc, rfl⟩ | ⟨b, off, cap, cc, rfl, _⟩
    · exact ⟨a, 0, cc, rfl, by simp [e]⟩
    · exact ⟨_, _, _, rfl, rfl⟩
  obtain ⟨ia, im, ic, rfl, him⟩ := hilv
  have Him := Lib.hid him
  have Hil := Lib.hid hil
  have Hlo := Lib.hid hlo
  have Heo := Lib.hid heo
  have HB := Lib.hid hB
  have Hs := Lib.hid hs
  have H1 := Lib.hid h1
  have Hib := Lib.hid hib
  clear hil hlo heo hB hs h1 him hib
  go_upto_if 12 with fail
  go_cut [5] (fun s5 wx => s5 = .int .i64 p.k ∧ Fr (· = pb) W1 wx ∧ wx.heap[pb]? = some (.cells #[lv, ev, .slice ia im ic, .int .i64 p.next] 44 (0, 0)))
  case first =>
    by_cases hl : p.l = []
    · have hk : Hid (p.k = 0) := by show _ = _; simp [PartM.k, hl]
      have hn : Hid (p.next = p.at_) := by show _ = _; simp [PartM.next, hl]
      have h0 : ¬ 0 < im := by have := Him.out; rw [hl] at this; simp at this; omega
      clear hl
      go_wp2_with fail
      go_meet
      exact ⟨by rw [hk.out], Fr.refl _ _, by rw [hn.out]; exact h1a⟩
    · obtain ⟨m, hm⟩ : ∃ m : Nat, p.at_ = (m : Int) := ⟨p.at_.toNat, by have := Hs.out.2.2.2.1; omega⟩
      have hlp : 0 < p.l.length := by
        cases hh : p.l with
        | nil => exact absurd hh hl
        | cons a l => simp
      have hmb : m < 2 ^ 40 := by have := Hs.out.2.2.2.2; omega
      have hlb : p.l.length < 2 ^ 40 := by have := Hs.out.2.2.1; omega
      rcases Hil.out with ⟨e, _⟩ | ⟨b, off, cap, cc, eiv, hbb, hcc⟩
      · exact absurd e hl
      · simp only [Value.slice.injEq] at eiv
        obtain ⟨rfl, rfl, rfl⟩ := eiv
        have hidx : m % p.l.length < p.l.length := Nat.mod_lt _ hlp
        have hx := hcc (m % p.l.length) p.l[m % p.l.length] (List.getElem?_eq_getElem hidx)
        have hxw : W1.cell? ⟨b, off + m % p.l.length, none⟩ = some (.int .i64 p.l[m % p.l.length]) := by
          rw [cellv, HW1.out.get hbb (fun f => f)]; exact hx
        have hk : Hid (p.k = if (p.l[m % p.l.length]).tmod 6 < 0 then (p.l[m % p.l.length]).tmod 6 + 6 else (p.l[m % p.l.length]).tmod 6) := by
          show _ = _
          have e1 : p.at_.toNat = m := by omega
          have e2 : p.l.getD (m % p.l.length) 0 = p.l[m % p.l.length] := by simp [List.getD_eq_getElem?_getD, hidx]
          unfold PartM.k
          rw [if_neg hl, e1, e2]
        have hn : Hid (p.next = (m : Int) + 1) := by show _ = _; simp [PartM.next, hl, hm]
        have h0 : 0 < p.l.length := hlp
        have h1b := h1a
        rw [hm] at h1b
        have Hm := Lib.hid hm
        generalize p.l[m % p.l.length] = x at hk hxw
        have hr1 : -6 < x.tmod 6 ∧ x.tmod 6 < 6 := by
          have a1 := Int.lt_tmod_of_pos x (show (0 : Int) < 6 by omega)
          have a2 := Int.tmod_lt_of_pos x (show (0 : Int) < 6 by omega)
          exact ⟨a1, a2⟩
        clear hl hm hx hcc hbb h1a hcv hfv
        go_upto_region 3 with fail
        refine pt_r3 pb b off ic 0 m p.l lv ev x W1 hmb hlb h1b hxw hlp rfl ?_
        intro y13 y14 y15 y16 y17 y18 y19 y20 y21 y22 y23 y24 y25 y26 y27 y28 q
        have h2 : (W1.drewN q).heap[pb]? = some (.cells #[lv, ev, .slice (some ⟨b, off, none⟩) p.l.length ic, .int .i64 (m : Int)] 44 (0, 0)) := h1b
        have HF2 : Hid (Fr (· = pb) W1 (W1.drewN q)) := (Fr.refl _ _).drewN _
        clear h1b hxw
        generalize W1.drewN q = W2 at h2 HF2 ⊢
        have hcv := cellv W2
        have hfv := frozv W2
        generalize x.tmod 6 = r at hk hr1
        have hm1 : wrap64 ((m : Int) + 1) = (m : Int) + 1 := wrap_in _ (by omega)
        by_cases hr : r < 0
        · have hk' : Hid (p.k = r + 6) := by show _ = _; rw [hk.out, if_pos hr]
          go_wp2_with fail
          go_meet
          refine ⟨by rw [hk'.out], HF2.out.trans (Fr.one _ _ _ _), ?_⟩
          rw [hp_setCell, if_pos rfl, h2, hn.out]; rfl
        · have hk' : Hid (p.k = r) := by show _ = _; rw [hk.out, if_neg hr]
          go_wp2_with fail
          go_meet
          refine ⟨by rw [hk'.out], HF2.out.trans (Fr.one _ _ _ _), ?_⟩
          rw [hp_setCell, if_pos rfl, h2, hn.out]; rfl
  case rest =>
    obtain ⟨rfl, hfx, hpx⟩ := hcut
    obtain ⟨wc0, hwc0⟩ : ∃ wc0, wc0 = wc := ⟨_, rfl⟩
    subst hwc0
    have hNp : ¬ N = pb := by
      intro e
      have := lt_of_hp H1.out
      have := HN.out
      omega
    have hcx := hfx.get hca hNp
    have hFw : Fr (· = pb) w wc0 := (HW1.out.mono (fun _ _ f => f.elim)).trans hfx
    have hpw : ∀ k, k = pb → ∃ o, w.heap[k]? = some o ∧ kindOf o = 45 := by rintro k rfl; exact ⟨_, H1.out, rfl⟩
    have hlx := ownsRow_fr Hlo.out hFw (fun k hk => by obtain ⟨o, ho, he⟩ := hpw k hk; exact ⟨o, ho, by rw [he]; decide⟩)
    have hex := ownsRow_fr Heo.out hFw (fun k hk => by obtain ⟨o, ho, he⟩ := hpw k hk; exact ⟨o, ho, by rw [he]; decide⟩)
    have hix : IntsAt wc0 (.slice ia im ic) p.l := Hil.out.keep (fun k o ho he => hFw.get ho (by rintro rfl; rw [H1.out] at ho; cases ho; simp [kindOf] at he))
    have hBx : B ≤ wc0.heap.size := Nat.le_trans HB.out hFw.size
    have Hp : Hid (PAt wc0 pb ⟨p.log, p.effs, p.l, p.next, p.lo⟩) := ⟨⟨lv, ev, .slice ia im ic, B, hpx, hlx, hex, hix, ⟨hBx, HB0.out⟩, Hib.out⟩⟩
    have hef : p.effs.length < 2 ^ 30 := Hs.out.2.1
    have hlf : p.log.length < 2 ^ 30 := Hs.out.1
    have heN : ev.ownBlock ≠ some N := by
      intro e
      have := own_lt Heo.out e
      have := HN.out
      omega
    have hlN : lv.ownBlock ≠ some N := by
      intro e
      have := own_lt Hlo.out e
      have := HN.out
      omega
    have Hfw := Lib.hid hFw
    have Hlx := Lib.hid hlx
    have Hex := Lib.hid hex
    have Hix := Lib.hid hix
    have HBx := Lib.hid hBx
    have Hef := Lib.hid hef
    have Hlf := Lib.hid hlf
    have HeN := Lib.hid heN
    have HlN := Lib.hid hlN
    have Hcx := Lib.hid hcx
    have Hpx := Lib.hid hpx
    clear hcv hfv hFw hpw hlx hex hix hBx hef hlf heN hlN hfx h1a hca
    have Hr : Hid (replyM (p.knows c) c.back p.k = if p.knows c = true then (if p.k = 3 ∨ p.k = 4 then 1 else 0) else if p.k = 3 ∨ (p.k = 5 ∧ c.back = true) then 1 else if p.k = 5 then 2 else if p.k = 4 then 1 else 0) := rfl
    have He : Hid ((p.ask c).effs = if p.knows c = true ∨ p.k = 3 ∨ p.k = 5 then p.effs else p.effs ++ [c]) := rfl
    have Hlog : Hid ((p.ask c).log = p.log ++ [(c, replyM (p.knows c) c.back p.k)]) := rfl
    generalize hkk : p.k = k at Hr He Hlog ⊢
    have Hkk := Lib.hid hkk
    clear hkk
    generalize hrr : replyM (p.knows c) c.back k = rp at Hr Hlog ⊢
    have Hrr := Lib.hid hrr
    clear hrr
    go_upto_block 0 with fail
    go_cut [6] (fun s6 wx => s6 = .int .i64 rp ∧ Fr (fun k => k = pb ∨ ev.ownBlock = some k) wc0 wx ∧ ∃ ev', wx.heap[pb]? = some (.cells #[lv, ev', .slice ia im ic, .int .i64 p.next] 44 (0, 0)) ∧ wx.ownsRow B 46 4 ev' (p.ask c).effs.length (effCells (p.ask c).effs))
    case first =>
      have HD := Lib.hid (done_calls (p := ⟨p.log, p.effs, p.l, p.next, p.lo⟩) Hp.out c Hef.out)
      have Hkn : Hid ((p.effs.any fun e => sameCall e c) = p.knows c) := rfl
      simp only [Hkn.out] at HD
      have hcx2 := Hcx.out
      have hcv := cellv wc0
      clear Hkn hpx
      have HQ : Hid (∀ w2, New wc0 w2 → w2.heap[N]? = some (.cells c.cells.toArray 46 (0, 0)) ∧ w2.heap[pb]? = some (.cells #[lv, ev, .slice ia im ic, .int .i64 p.next] 44 (0, 0)) ∧ w2.ownsRow B 46 4 ev p.effs.length (effCells p.effs) ∧ B ≤ w2.heap.size) := by
        intro w2 hf
        exact ⟨hf.get Hcx.out (fun f => f), hf.get Hpx.out (fun f => f), ownsRow_fr Hex.out hf (fun _ f => f.elim), Nat.le_trans HBx.out hf.size⟩
      cases hd : p.knows c
      · rw [hd] at HD Hr He
        clear hd
        by_cases k3 : k = 3
        · subst k3
          go_wp2_with (first
            | (go_at_call 83; refine Calls.mono HD.out ?_; rintro e w2 ⟨rfl, hf2⟩)
            | fail)
          go_meet
          obtain ⟨_, q2, q3, _⟩ := HQ.out w2 hf2
          exact ⟨by rw [Hr.out]; simp, hf2.mono (fun _ _ f => f.elim), ev, q2, by rw [He.out]; simpa using q3⟩
        · have k3' : (k == 3) = false := by simpa using k3
          by_cases k5 : k = 5
          · subst k5
            go_upto_region 14 with (first
              | (go_at_call 83; refine Calls.mono HD.out ?_; rintro e w2 ⟨rfl, hf2⟩)
              | fail)
            have hcv2 := cellv w2
            have hcx3 := hf2.get Hcx.out (fun f => f)
            obtain ⟨_, q2, q3, _⟩ := HQ.out w2 hf2
            have Q2 := Lib.hid q2
            have Q3 := Lib.hid q3
            clear hcv hcx2 q2 q3
            by_cases hbk : c.back = true
            · have Hb := Lib.hid hbk
              go_wp2_with fail
              go_meet
              exact ⟨by rw [Hr.out]; simp [Hb.out], hf2.mono (fun _ _ f => f.elim), ev, Q2.out, by rw [He.out]; simpa using Q3.out⟩
            · have hbk' : c.back = false := by simpa using hbk
              have Hb := Lib.hid hbk'
              clear hbk
              go_wp2_with fail
              go_meet
              exact ⟨by rw [Hr.out]; simp [Hb.out], hf2.mono (fun _ _ f => f.elim), ev, Q2.out, by rw [He.out]; simpa using Q3.out⟩
          · have k5' : (k == 5) = false := by simpa using k5
            have He' : Hid ((p.ask c).effs = p.effs ++ [c]) := by show _ = _; rw [He.out]; simp [k3, k5]
            by_cases k4 : k = 4
            · subst k4
              have Hr' : Hid (rp = 1) := by show _ = _; rw [Hr.out]; simp
              clear k3 k5 k3' k5'
              go_upto_region 8 with (first
                | (go_at_call 83; refine Calls.mono HD.out ?_; rintro e w2 ⟨rfl, hf2⟩)
                | fail)
              obtain ⟨q1, q2, q3, q4⟩ := HQ.out w2 hf2
              refine pt_r8 pb N c p.effs lv ev (.slice ia im ic) (.int .i64 p.next) B w2 q2 q1 q3 q4 HeN.out Hef.out ?_
              intro y41 y42 y43 y44 y45 y46 y47 y48 y49 y50 ev' w3 hf3 hp3 ho3 hw3
              clear hcv hcx2 q1 q2 q3 q4
              go_wp2_with fail
              go_meet
              exact ⟨by rw [Hr'.out], (hf2.mono (fun _ _ f => f.elim)).trans hf3, ev', hp3, by rw [He'.out]; exact ho3⟩
            · have k4' : (k == 4) = false := by simpa using k4
              have Hr' : Hid (rp = 0) := by show _ = _; rw [Hr.out]; simp [k3, k4, k5]
              clear k3 k5 k4
              go_upto_region 8 with (first
                | (go_at_call 83; refine Calls.mono HD.out ?_; rintro e w2 ⟨rfl, hf2⟩)
                | fail)
              obtain ⟨q1, q2, q3, q4⟩ := HQ.out w2 hf2
              refine pt_r8 pb N c p.effs lv ev (.slice ia im ic) (.int .i64 p.next) B w2 q2 q1 q3 q4 HeN.out Hef.out ?_
              intro y41 y42 y43 y44 y45 y46 y47 y48 y49 y50 ev' w3 hf3 hp3 ho3 hw3
              clear hcv hcx2 q1 q2 q3 q4
              go_wp2_with fail
              go_meet
              exact ⟨by rw [Hr'.out], (hf2.mono (fun _ _ f => f.elim)).trans hf3, ev', hp3, by rw [He'.out]; exact ho3⟩
      · rw [hd] at HD Hr He
        clear hd
        by_cases k3 : k = 3
        · subst k3
          go_wp2_with (first
            | (go_at_call 83; refine Calls.mono HD.out ?_; rintro e w2 ⟨rfl, hf2⟩)
            | fail)
          go_meet
          obtain ⟨_, q2, q3, _⟩ := HQ.out w2 hf2
          exact ⟨by rw [Hr.out]; simp, hf2.mono (fun _ _ f => f.elim), ev, q2, by rw [He.out]; simpa using q3⟩
        · have k3' : (k == 3) = false := by simpa using k3
          by_cases k4 : k = 4
          · subst k4
            go_wp2_with (first
              | (go_at_call 83; refine Calls.mono HD.out ?_; rintro e w2 ⟨rfl, hf2⟩)
              | fail)
            go_meet
            obtain ⟨_, q2, q3, _⟩ := HQ.out w2 hf2
            exact ⟨by rw [Hr.out]; simp, hf2.mono (fun _ _ f => f.elim), ev, q2, by rw [He.out]; simpa using q3⟩
          · have k4' : (k == 4) = false := by simpa using k4
            have Hr' : Hid (rp = 0) := by show _ = _; rw [Hr.out]; simp [k3, k4]
            clear k3 k4
            go_wp2_with (first
              | (go_at_call 83; refine Calls.mono HD.out ?_; rintro e w2 ⟨rfl, hf2⟩)
              | fail)
            go_meet
            obtain ⟨_, q2, q3, _⟩ := HQ.out w2 hf2
            exact ⟨by rw [Hr'.out], hf2.mono (fun _ _ f => f.elim), ev, q2, by rw [He.out]; simpa using q3⟩
    case rest =>
      obtain ⟨rfl, hfy, ev', hpy, hey⟩ := hcut
      have hK2 : ∀ (q : Nat) (o : Obj), (q = pb ∨ ev.ownBlock = some q) → (World.heap wc0)[q]? = some o → kindOf o = 45 ∨ kindOf o = 47 := by
        rintro q o (rfl | hq) ho
        · rw [Hpx.out] at ho; cases ho; exact .inl rfl
        · obtain ⟨o', ho', he⟩ := own_kind Hex.out hq
          rw [ho'] at ho; cases ho; exact .inr he
      have hcN := hfy.get Hcx.out (by
        rintro (e | e)
        · exact hNp e
        · exact HeN.out e)
      have hlo2 := ownsRow_fr Hlx.out hfy (fun q hq => by
        rcases hq with rfl | hq
        · exact ⟨_, Hpx.out, by simp [kindOf]⟩
        · obtain ⟨o', ho', he⟩ := own_kind Hex.out hq
          exact ⟨o', ho', by rw [he]; decide⟩)
      have hix2 := Hix.out.keep (w' := wc) (fun q o ho he => hfy.get ho (fun hq => by rcases hK2 q o hq ho with e | e <;> omega))
      have hFK : FrK [45, 47, 49] w wc := (Hfw.out.toK (fun q o hq ho => by
          subst hq; rw [H1.out] at ho; cases ho; simp [kindOf])).trans (hfy.toK (fun q o hq ho => by rcases hK2 q o hq ho with e | e <;> simp [e]))
      have hlow1 := HB0.out
      have hO4 : Low p.lo w wc := by
        refine ⟨hfy.os.trans Hfw.out.os, hfy.tape.trans Hfw.out.tape, hfy.output.trans Hfw.out.output, Nat.le_trans Hfw.out.size hfy.size, fun k hk => ?_⟩
        have hkp : k ≠ pb := by omega
        have hks : k < w.heap.size := by have := lt_of_hp H1.out; omega
        have e1 := Hfw.out.block k hks hkp
        refine (hfy.block k (Nat.lt_of_lt_of_le hks Hfw.out.size) ?_).trans e1
        rintro (hq | hq)
        · exact hkp hq
        · have := (Hex.out.lt k hq).1; omega
      clear hlow1
      have HO4 := Lib.hid hO4
      have hB2 := Nat.le_trans HBx.out hfy.size
      have Hlo2 := Lib.hid hlo2
      have Hey := Lib.hid hey
      have Hix2 := Lib.hid hix2
      have HFK := Lib.hid hFK
      have Hpy := Lib.hid hpy
      have HB2 := Lib.hid hB2
      clear hpx hcx hK2 hfy hFK hix2 hey hO4
      go_upto_region 18 with fail
      refine pt_r18 pb N c p.log rp lv ev' (.slice ia im ic) (.int .i64 p.next) B wc hpy hcN hlo2 hB2 HlN.out Hlf.out ?_
      intro y77 y78 y79 y80 y81 y82 y83 y84 y85 y86 y87 y88 lv' w5 hf5 hp5 ho5 hw5
      clear hpy hcN hlo2
      go_wp2_with fail
      go_ret
      have hK5 : ∀ (q : Nat) (o : Obj), (q = pb ∨ lv.ownBlock = some q) → wc.heap[q]? = some o → kindOf o = 45 ∨ kindOf o = 49 := by
        rintro q o (rfl | hq) ho
        · rw [Hpy.out] at ho; cases ho; exact .inl rfl
        · obtain ⟨o', ho', he⟩ := own_kind Hlo2.out hq
          rw [ho'] at ho; cases ho; exact .inr he
      refine ⟨by rw [Hkk.out, Hrr.out]; rfl, ⟨⟨lv', ev', .slice ia im ic, B, hp5, ?_, ?_, ?_, ?_, Hib.out⟩⟩, ?_⟩
      · rw [Hlog.out]; exact ho5
      · refine ownsRow_fr Hey.out hf5 (fun q hq => ?_)
        rcases hq with rfl | hq
        · exact ⟨_, Hpy.out, by simp [kindOf]⟩
        · obtain ⟨o', ho', he⟩ := own_kind Hlo2.out hq
          exact ⟨o', ho', by rw [he]; decide⟩
      · exact Hix2.out.keep (fun q o ho he => hf5.get ho (fun hq => by rcases hK5 q o hq ho with e | e <;> omega))
      · exact ⟨Nat.le_trans HB2.out hf5.size, HB0.out⟩
      · refine ⟨HFK.out.trans (hf5.toK (fun q o hq ho => by rcases hK5 q o hq ho with e | e <;> simp [e])), HO4.out.trans (hf5.low ?_ ?_)⟩
        · have := HB2.out; have := HB0.out; omega
        · rintro q (rfl | hq)
          · have := HB0.out; omega
          · have := (Hlo2.out.lt q hq).1; have := HB0.out; omega
end Go.Proofs.YtkafmfdipmhleaaGreatDoor
