/-
  What is proved: a disk of a script that runs: what is found when it is opened. what a step on a disk makes of it, and of its engine's partner. a disk of a script that runs: what Open answers is the document's answer. a disk of a script that runs: formatted.
-/
import Derived.Test.YtkafmfdipmhleaaGreatDoorRy11

namespace Go.Proofs.YtkafmfdipmhleaaGreatDoor
open Go.RowKit Go.Maps
noncomputable def fndR15 : Code := ((Tryz.f110.body).bind (regionAt 15)).getD .skip
set_option maxRecDepth 100000 in
set_option maxHeartbeats 8000000 in
/-- s.state = state{all[at].state, all[at].step} -/
theorem fnd_r15 (sb ga k n c : Nat) (st step : Int) (a0 a1 a4 a5 a6 : Value) (cs : Array Value) (W : World)
    (hsb : W.heap[sb]? = some (.cells #[a0, a1, .int .i64 0, .int .i64 0, a4, a5, a6] 223 (0, 0))) (hkn : k < n)
    (hga : W.heap[ga]? = some (.cells cs 38 (0, 0))) (h1 : cs[k * 6 + 1]? = some (.int .i64 st)) (h2 : cs[k * 6 + 2]? = some (.int .i64 step))
    {ds : List Deferred} {x0 x1 x2 x3 x4 x5 x6 x8 x9 x11 x13 x14 x15 x16 x17 x18 x19 x20 x21 x22 x23 x24 x25 x26 x27 x28 x29 x30 x31 x32 x33 x34 x35 x36 x37 x38 x39 x40 x41 x42 x43 x44 x45 x46 x47 x48 x49 x50 x51 x52 x53 x54 x55 x56 x57 x58 x59 x60 x61 x62 x63 x64 x65 x66 x67 x68 x69 x70 x71 x72 x73 x74 x75 x76 x77 x78 x79 x80 x81 x82 x83 x84 x85 x86 x87 x88 x89 x90 x91 x92 x93 x94 x95 x96 x97 x98 x99 x100 x101 x102 x103 x104 x105 x106 x107 x108 x109 x110 x111 x112 x113 x114 x115 x116 x117 x118 x119 x120 x121 x122 x123 x124 x125 x126 x127 x128 x129 x130 x131 x132 x133 x134 x135 x136 x137 x138 x139 x140 x141 x142 x143 x144 x145 x146 x147 x148 x149 x150 x151 x152 x153 x154 : Value} {Q : Exit → Act → World → Prop}
    (hQ : ∀ (y94 y95 y96 y97 y98 y99 y100 y101 y102 y103 y104 y105 : Value) (w3 : World), Fr (· = sb) W w3 → w3.heap[sb]? = some (.cells #[a0, a1, .int .i64 st, .int .i64 step, a4, a5, a6] 223 (0, 0)) → Q .normal ⟨#[x0,x1,x2,x3,x4,x5,x6, .slice (some ⟨ga, 0, none⟩) n c, x8,x9, .int .i64 k, x11, .pointer (some ⟨sb, 0, none⟩), x13,x14,x15,x16,x17,x18,x19,x20,x21,x22,x23,x24,x25,x26,x27,x28,x29,x30,x31,x32,x33,x34,x35,x36,x37,x38,x39,x40,x41,x42,x43,x44,x45,x46,x47,x48,x49,x50,x51,x52,x53,x54,x55,x56,x57,x58,x59,x60,x61,x62,x63,x64,x65,x66,x67,x68,x69,x70,x71,x72,x73,x74,x75,x76,x77,x78,x79,x80,x81,x82,x83,x84,x85,x86,x87,x88,x89,x90,x91,x92,x93,y94,y95,y96,y97,y98,y99,y100,y101,y102,y103,y104,y105,x106,x107,x108,x109,x110,x111,x112,x113,x114,x115,x116,x117,x118,x119,x120,x121,x122,x123,x124,x125,x126,x127,x128,x129,x130,x131,x132,x133,x134,x135,x136,x137,x138,x139,x140,x141,x142,x143,x144,x145,x146,x147,x148,x149,x150,x151,x152,x153,x154], ds⟩ w3) :
    Code.wp Tryz.prog fndR15 Q ⟨#[x0,x1,x2,x3,x4,x5,x6, .slice (some ⟨ga, 0, none⟩) n c, x8,x9, .int .i64 k, x11, .pointer (some ⟨sb, 0, none⟩), x13,x14,x15,x16,x17,x18,x19,x20,x21,x22,x23,x24,x25,x26,x27,x28,x29,x30,x31,x32,x33,x34,x35,x36,x37,x38,x39,x40,x41,x42,x43,x44,x45,x46,x47,x48,x49,x50,x51,x52,x53,x54,x55,x56,x57,x58,x59,x60,x61,x62,x63,x64,x65,x66,x67,x68,x69,x70,x71,x72,x73,x74,x75,x76,x77,x78,x79,x80,x81,x82,x83,x84,x85,x86,x87,x88,x89,x90,x91,x92,x93,x94,x95,x96,x97,x98,x99,x100,x101,x102,x103,x104,x105,x106,x107,x108,x109,x110,x111,x112,x113,x114,x115,x116,x117,x118,x119,x120,x121,x122,x123,x124,x125,x126,x127,x128,x129,x130,x131,x132,x133,x134,x135,x136,x137,x138,x139,x140,x141,x142,x143,x144,x145,x146,x147,x148,x149,x150,x151,x152,x153,x154], ds⟩ W := by
  have Hsb := Lib.hid hsb
  have HQ := Lib.hid hQ
  have d1 : W.cell? ⟨ga, k * 6 + 1, none⟩ = some (.int .i64 st) := by rw [cellv, hga, cellOf_cells]; exact h1
  have d2 : W.cell? ⟨ga, k * 6 + 2, none⟩ = some (.int .i64 step) := by rw [cellv, hga, cellOf_cells]; exact h2
  have e2 : W.cell? ⟨sb, 2, none⟩ = some (.int .i64 0) := by rw [cellv, hsb]; rfl
  have e3 : W.cell? ⟨sb, 3, none⟩ = some (.int .i64 0) := by rw [cellv, hsb]; rfl
  have f2 : W.frozen? ⟨sb, 2, none⟩ = false := by rw [frozv, hsb]; rfl
  have f3 : W.frozen? ⟨sb, 3, none⟩ = false := by rw [frozv, hsb]; rfl
  have hkI : (k : Int) < n := by omega
  have hk0 : (0 : Int) ≤ k := by omega
  clear hsb hkn hga h1 h2 hQ
  conv => arg 2; whnf
  refine wp_region_noPanic ?_
  go_region_law (fail)
  all_goals
    refine NoPanic.normal (HQ.out _ _ _ _ _ _ _ _ _ _ _ _ _ ((((Fr.refl (· = sb) W).setCell (fun _ => rfl) _ _).setCell (fun _ => rfl) _ _).drew) ?_)
    show (((W.setCell ⟨sb, 2, none⟩ _).setCell ⟨sb, 3, none⟩ _)).heap[sb]? = _
    simp only [hp_setCell, if_true, Hsb.out]; rfl
theorem RefAt.snoc {w w' : World} {B : Nat} {v v' : Value} {R : List RefM} {r : RefM} (h : RefAt w B v R) (hr : RefOk w r) (h' : w'.ownsRow B 223 7 v' (R.length + 1) (allR R ++ rCells r)) (hg : w.grownBy w' v.ownBlock) : RefAt w' B v' (R ++ [r]) := by
  have hS : ∀ k, v.ownBlock = some k → ∃ o, w.heap[k]? = some o ∧ kindOf o ∉ [193, 221] := fun k hk => by
    obtain ⟨c, hc⟩ := own_cells h.own hk
    exact ⟨_, hc, by simp [kindOf]⟩
  refine ⟨?_, fun x hx => ?_⟩
  · have e : allR (R ++ [r]) = allR R ++ rCells r := by simp [allR]
    rw [e, List.length_append]; exact h'
  · rcases List.mem_append.1 hx with hx | hx
    · exact (h.ok x hx).fr (Fr.ofGrown hg) hS
    · obtain rfl := List.mem_singleton.1 hx
      exact hr.fr (Fr.ofGrown hg) hS
/-- A disk was opened. -/
def FoundPost (w : World) (kb xb : Nat) (c0 c1 c2 : Value) (pause : Int) (R : List RefM) (e : Ending) (w' : World) : Prop :=
  e = .returned (.bool true) ∧ Fr (· = kb) w w' ∧ ∃ lv' R', w'.heap[kb]? = some (.cells #[c0, c1, c2, .bool false, .bool false, .pointer (some ⟨xb, 0, none⟩), .int .i64 pause, .int .i64 0, .bool false, lv'] 165 (0, 0)) ∧ RefAt w' w.heap.size lv' R' ∧ sagasOf R' = coreL (sagasOf R)
set_option maxRecDepth 100000 in
set_option maxHeartbeats 8000000 in
theorem found_gen {w : World} {B kb db bb : Nat} {c1 c2 c3 c5 c6 c7 c8 lv cv : Value} {d : DiskM} {R : List RefM} {q : Pl} {bl : List Nat} {s : StM} {pause : Int}
    (hk : w.heap[kb]? = some (.cells #[.pointer (some ⟨db, 0, none⟩), c1, c2, c3, .bool false, c5, c6, c7, c8, lv] 165 (0, 0)))
    (hd : DiskAt w db bb d) (hp : d.pend = none) (hR : RefAt w B lv R) (ho : (sagasOf R).Pairwise (fun a b => a.id < b.id)) (hl : R.length ≤ 1000) (hok : ∀ g ∈ sagasOf R, g.ok)
    (hE : EvV cv w q bl s) (hs : s.sagas = coreL (sagasOf R)) :
    Calls Tryz.prog 110 #[.pointer (some ⟨kb, 0, none⟩), .pointer (some ⟨q.xb, 0, none⟩), .int .i64 pause] w (FoundPost w kb q.xb (.pointer (some ⟨db, 0, none⟩)) c1 c2 pause R) := by
  obtain ⟨i0, hi, hz0, hz1, hz2⟩ := info_parts Tryz.info223
  obtain ⟨la, lc, rfl⟩ := hR.shape
  have hsl : (coreL (sagasOf R)).length = R.length := by simp [sagasOf, coreL]
  have hA := All_any hE (by rw [hs]; exact coreL_ord ho) (by
    rw [hs]; intro g hg
    obtain ⟨g0, hg0, rfl⟩ := List.mem_map.1 hg
    have := hok g0 hg0
    exact ⟨this.1, this.2.1⟩) (by rw [hs, hsl]; exact hl) 1048576
  rw [hs, List.take_of_length_le (by rw [hsl]; unfold mostN; simp; omega), hsl] at hA
  have HA := Lib.hid hA
  have Hk := Lib.hid hk
  have HR := Lib.hid hR
  have Hl := Lib.hid hl
  have Hok := Lib.hid hok
  have hpe : d.pending = 0 := by unfold DiskM.pending; rw [hp]
  have HP := Lib.hid (fun (w' : World) (hf : New w w') => Pending_calls (hd.new hf))
  rw [hpe] at HP
  have hkl := lt_of_hp hk
  have Hkl := Lib.hid hkl
  clear hA hE hs hsl hpe hd hp hR ho hl hok hkl
  have hcv := cellv w
  go_enter Tryz.func110, Tryz.ntmps110
  go_upto_region 2 with (first
    | (go_at_call 32; refine Calls.mono HA.out ?_; rintro e w1 ⟨v, rfl, hown, hf1⟩; obtain ⟨va, vc, rfl⟩ : ∃ va vc, v = .slice va R.length vc := (by
        rcases hown.2 with ⟨h1, h2⟩ | ⟨g, cap, cur, h1, _⟩
        · exact ⟨none, 0, by rw [h1, h2]⟩
        · exact ⟨_, _, h1⟩))
    | fail)
  have Hf1 := Lib.hid hf1
  have Hown := Lib.hid hown
  have HP1 := Lib.hid (HP.out w1 hf1)
  have hk1 := hf1.get Hk.out (fun f => f)
  clear hf1 hown hcv hk HA HP
  have hcv := cellv w1
  cases hz : ((R.length : Int) == 0)
  all_goals
    go_upto_region 5 with (first
      | (go_at_call 31; refine Calls.mono HP1.out ?_; rintro e w2 ⟨rfl, rfl⟩)
      | fail)
    clear hk1 hcv hz HP1
    go_wp2_with fail
    go_loopw [9, 10, 11] (fun lv a i wr => ∃ (k : Nat) (R' : List RefM), k ≤ R.length ∧ i = .int .i64 k ∧ a = .int .i64 k ∧ RefAt wr w1.heap.size lv R' ∧ sagasOf R' = coreL (sagasOf (R.take k)) ∧ New w1 wr) (fun _ _ i _ => R.length - (intOf i).toNat)
    case atStart => exact ⟨0, [], Nat.zero_le _, rfl, rfl, ⟨World.ownsRow_nil _ _ _ _, fun r hr => by simp at hr⟩, rfl, Fr.refl _ _⟩
    case round =>
      obtain ⟨k, R', hk, rfl, rfl, hR', hsR', hf⟩ := hrel
      have Hf := Lib.hid hf
      have HR' := Lib.hid hR'
      have HsR' := Lib.hid hsR'
      have hkr := (Hf1.out.trans hf).get Hk.out (fun f => f)
      obtain ⟨ra, rn, rc, rfl⟩ := own_slice hR'.own
      have hl30 : R.length ≤ 1000 := Hl.out
      clear hf hR' hsR'
      have hcv := cellv wr
      by_cases hlt : k < R.length
      · obtain ⟨r, hr⟩ : ∃ r, R[k]? = some r := ⟨R[k], List.getElem?_eq_getElem hlt⟩
        obtain ⟨g, sv, mv⟩ := r
        have hrefr := (HR.out.new Hf1.out).new Hf.out
        obtain ⟨hsv, hmv⟩ := hrefr.ok _ (List.mem_of_getElem? hr)
        have Hsv := Lib.hid hsv
        have Hmv := Lib.hid hmv
        have hmv0 := hmv
        clear hmv
        have hmv := hmv0
        clear hmv0
        obtain ⟨sa, sc, hsv⟩ := hsv.shape
        obtain ⟨mb, mc, _, hmv, _⟩ := hmv
        change sv = .slice sa g.steps.length sc at hsv
        change mv = _ at hmv
        subst hsv hmv
        have Hr := Lib.hid hr
        have Hlt := Lib.hid hlt
        obtain ⟨gb, rfl, c0, c1, c2, c3, c4, c5, c6⟩ := hrefr.at k _ hr
        change wr.cell? _ = some (.int .i64 g.id) at c0; change wr.cell? _ = some (.slice sa g.steps.length sc) at c1; change wr.cell? _ = some (.int .i64 g.st) at c2; change wr.cell? _ = some (.int .i64 g.step) at c3; change wr.cell? _ = some (.int .i64 g.tries) at c4; change wr.cell? _ = some (.int .i64 g.due) at c5; change wr.cell? _ = some (.slice (some ⟨mb, 0, none⟩) 1 mc) at c6
        have hkI : (k : Int) < R.length := by omega
        have hk0 : (0 : Int) ≤ k := by omega
        rw [hcv] at c0 c1 c2 c3 c4 c5 c6
        have hgk : (coreL (sagasOf R))[k]? = some (coreG g) := by
          unfold coreL sagasOf
          rw [List.map_map, List.getElem?_map, hr]; rfl
        have Hgk := Lib.hid hgk
        have hok := Hok.out g (List.mem_map.2 ⟨_, List.mem_of_getElem? hr, rfl⟩)
        have hst0 : (g.st != 0) = true := by
          have := hok.2.2.2.2
          simp; omega
        have Hst0 := Lib.hid hst0
        clear hr hrefr hgk hok hst0
        go_upto_region 11 with fail
        have hN3 : New wr (wr.alloc (.cells #[.int .i64 g.id, .slice sa g.steps.length sc, .int .i64 g.st, .int .i64 g.step, .int .i64 g.tries, .int .i64 g.due, .slice (some ⟨mb, 0, none⟩) 1 mc] 223)) := (Fr.refl _ wr).alloc _
        have hs3 := heap_alloc_new wr (.cells #[.int .i64 g.id, .slice sa g.steps.length sc, .int .i64 g.st, .int .i64 g.step, .int .i64 g.tries, .int .i64 g.due, .slice (some ⟨mb, 0, none⟩) 1 mc] 223)
        generalize wr.alloc (.cells #[.int .i64 g.id, .slice sa g.steps.length sc, .int .i64 g.st, .int .i64 g.step, .int .i64 g.tries, .int .i64 g.due, .slice (some ⟨mb, 0, none⟩) 1 mc] 223) = w3 at hN3 hs3 ⊢
        have hslt : w1.heap.size ≤ wr.heap.size := Hf.out.size
        generalize hsbe : wr.heap.size = sb at hs3 hslt ⊢
        have Hsbe := Lib.hid hsbe
        have Hslt := Lib.hid hslt
        have HN3 := Lib.hid hN3
        have Hs3 := Lib.hid hs3
        clear hN3 hsbe hslt hkr c0 c1 c2 c3 c4 c5 c6 hcv
        have hcv := cellv w3
        have hfv := frozv w3
        go_upto_region 12 with fail
        have hF4 : Fr (· = sb) w3 ((w3.setCell ⟨sb, 2, none⟩ (.int .i64 0)).setCell ⟨sb, 3, none⟩ (.int .i64 0)) := ((Fr.refl (· = sb) w3).setCell (fun _ => rfl) _ _).setCell (fun _ => rfl) _ _
        have hs4 : ((w3.setCell ⟨sb, 2, none⟩ (.int .i64 0)).setCell ⟨sb, 3, none⟩ (.int .i64 0)).heap[sb]? = some (.cells #[.int .i64 g.id, .slice sa g.steps.length sc, .int .i64 0, .int .i64 0, .int .i64 g.tries, .int .i64 g.due, .slice (some ⟨mb, 0, none⟩) 1 mc] 223 (0, 0)) := by
          simp only [hp_setCell, if_true, hs3]; rfl
        generalize (w3.setCell ⟨sb, 2, none⟩ (.int .i64 0)).setCell ⟨sb, 3, none⟩ (.int .i64 0) = w4 at hF4 hs4 ⊢
        have HN4 : Hid (New wr w4) := HN3.out.trans' hF4 (fun i hi e => by have := Hsbe.out; omega)
        have Hs4 := Lib.hid hs4
        clear hF4 hs3 hs4 HN3 Hs3 hcv hfv
        obtain ⟨ga, cap, cs, hvv, hga, hcs⟩ := all_at (own_frS (w := w1) (w' := w4) (S := fun _ => False) (n := (coreL (sagasOf R)).length) (by rw [show (coreL (sagasOf R)).length = R.length by simp [sagasOf, coreL]]; exact Hown.out) (Hf.out.trans HN4.out) (fun _ _ f => f)) k (coreG g) Hgk.out
        simp only [Value.slice.injEq] at hvv
        obtain ⟨hv1, hv2, hv3⟩ := hvv
        subst hv1
        clear hv2 hv3
        have Hga := Lib.hid hga
        have Hcs := Lib.hid hcs
        have d0 : w4.cell? ⟨ga, k * 6, none⟩ = some (.int .i64 g.id) := by rw [cellv, hga, cellOf_cells]; exact hcs 0 _ rfl
        have d3 : w4.cell? ⟨ga, k * 6 + 3, none⟩ = some (.int .i64 g.steps.length) := by rw [cellv, hga, cellOf_cells]; exact hcs 3 _ rfl
        have d4 : w4.cell? ⟨ga, k * 6 + 4, none⟩ = some (.int .i64 0) := by rw [cellv, hga, cellOf_cells]; exact hcs 4 _ rfl
        have d5 : w4.cell? ⟨ga, k * 6 + 5, none⟩ = some (.int .i64 0) := by rw [cellv, hga, cellOf_cells]; exact hcs 5 _ rfl
        have e0 : w4.cell? ⟨sb, 0, none⟩ = some (.int .i64 g.id) := by rw [cellv, Hs4.out]; rfl
        have e1 : w4.cell? ⟨sb, 1, none⟩ = some (.slice sa g.steps.length sc) := by rw [cellv, Hs4.out]; rfl
        have hdk : decide (k < R.length) = true := by simp [Hlt.out]
        have hdd : decide (g.id = g.id) = true := by simp
        have hnl : ((g.steps.length : Int) != g.steps.length) = false := by simp
        clear hga hcs
        go_quiet (fail)
        have HN5 := Lib.hid (HN4.out.trans ((Fr.refl _ w4).drewN nq))
        have Hs5 := Lib.hid (show (w4.drewN nq).heap[sb]? = _ from Hs4.out)
        have Hga5 := Lib.hid (show (w4.drewN nq).heap[ga]? = _ from Hga.out)
        have d3 : (w4.drewN nq).cell? ⟨ga, k * 6 + 3, none⟩ = some (.int .i64 g.steps.length) := d3
        have d4 : (w4.drewN nq).cell? ⟨ga, k * 6 + 4, none⟩ = some (.int .i64 0) := d4
        have d5 : (w4.drewN nq).cell? ⟨ga, k * 6 + 5, none⟩ = some (.int .i64 0) := d5
        have e1 : (w4.drewN nq).cell? ⟨sb, 1, none⟩ = some (.slice sa g.steps.length sc) := e1
        generalize w4.drewN nq = w5 at HN5 Hs5 Hga5 d3 d4 d5 e1 ⊢
        clear HN4 Hs4 Hga d0 e0
        go_upto_region 13 with fail
        go_quiet (fail)
        have HN6 := Lib.hid (HN5.out.trans ((Fr.refl _ w5).drewN nq))
        have Hs6 := Lib.hid (show (w5.drewN nq).heap[sb]? = _ from Hs5.out)
        have Hga6 := Lib.hid (show (w5.drewN nq).heap[ga]? = _ from Hga5.out)
        generalize w5.drewN nq = w6 at HN6 Hs6 Hga6 ⊢
        clear HN5 Hs5 Hga5 d3 d4 d5 e1
        go_upto_region 15 with fail
        refine fnd_r15 sb ga k R.length vc g.st g.step _ _ _ _ _ cs w6 Hs6.out Hlt.out Hga6.out (Hcs.out 1 _ rfl) (Hcs.out 2 _ rfl) ?_
        intros
        rename_i w7 hf7 hs7
        have HN7 : Hid (New wr w7) := HN6.out.trans' hf7 (fun i hi e => by have := Hsbe.out; omega)
        have Hs7 := Lib.hid hs7
        clear hf7 HN6 Hs6 Hga6
        have hcv := cellv w7
        have HHas := Lib.hid (Has_calls (Hmv.out.new HN7.out))
        go_upto_region 18 with (first
          | (go_at_call 133; refine Calls.mono HHas.out ?_; rintro e8 w8 ⟨rfl, hf8⟩)
          | fail)
        have HN8 := Lib.hid (HN7.out.trans hf8)
        have hs8 := hf8.get Hs7.out (fun f => f)
        clear hs7 hcv hf8 HN7 Hs7 HHas
        have Hs8 := Lib.hid hs8
        have hcv := cellv w8
        have hfv := frozv w8
        go_upto_region 22 with fail
        have hF9 : Fr (· = sb) w8 ((w8.setCell ⟨sb, 4, none⟩ (.int .i64 0)).setCell ⟨sb, 5, none⟩ (.int .i64 0)) := ((Fr.refl (· = sb) w8).setCell (fun _ => rfl) _ _).setCell (fun _ => rfl) _ _
        have hs9 : ((w8.setCell ⟨sb, 4, none⟩ (.int .i64 0)).setCell ⟨sb, 5, none⟩ (.int .i64 0)).heap[sb]? = some (.cells #[.int .i64 g.id, .slice sa g.steps.length sc, .int .i64 g.st, .int .i64 g.step, .int .i64 0, .int .i64 0, .slice (some ⟨mb, 0, none⟩) 1 mc] 223 (0, 0)) := by
          simp only [hp_setCell, if_true, hs8]; rfl
        generalize (w8.setCell ⟨sb, 4, none⟩ (.int .i64 0)).setCell ⟨sb, 5, none⟩ (.int .i64 0) = w9 at hF9 hs9 ⊢
        have HN9 : Hid (New wr w9) := HN8.out.trans' hF9 (fun i hi e => by have := Hsbe.out; omega)
        clear hF9 hs8 Hs8 hcv hfv HN8
        have hcv := cellv w9
        have hfv := frozv w9
        have Hs9 := Lib.hid hs9
        have hsb9 := lt_of_hp hs9
        have Hsb9 := Lib.hid hsb9
        clear hsb9
        have hsA := heap_alloc_keep (.cells #[.int .i64 g.st, .int .i64 g.step] 220) hs9
        have hmA := heap_alloc_new w9 (.cells #[.int .i64 g.st, .int .i64 g.step] 220)
        have HmA := Lib.hid hmA
        have HsA := Lib.hid hsA
        clear hmA
        have hcvA := cellv (w9.alloc (.cells #[.int .i64 g.st, .int .i64 g.step] 220))
        have hfvA := frozv (w9.alloc (.cells #[.int .i64 g.st, .int .i64 g.step] 220))
        go_upto_region 24 with fail
        have hF10 : Fr (fun k => k = sb) w9 ((w9.alloc (.cells #[.int .i64 g.st, .int .i64 g.step] 220)).setCell ⟨sb, 6, none⟩ (.slice (some ⟨w9.heap.size, 0, none⟩) 1 1)) := ((Fr.refl (· = sb) w9).alloc _).setCell (fun _ => rfl) _ _
        have hs10 : ((w9.alloc (.cells #[.int .i64 g.st, .int .i64 g.step] 220)).setCell ⟨sb, 6, none⟩ (.slice (some ⟨w9.heap.size, 0, none⟩) 1 1)).heap[sb]? = some (.cells #[.int .i64 g.id, .slice sa g.steps.length sc, .int .i64 g.st, .int .i64 g.step, .int .i64 0, .int .i64 0, .slice (some ⟨w9.heap.size, 0, none⟩) 1 1] 223 (0, 0)) := by
          simp only [hp_setCell, if_true, hsA]; rfl
        have hm10 : ((w9.alloc (.cells #[.int .i64 g.st, .int .i64 g.step] 220)).setCell ⟨sb, 6, none⟩ (.slice (some ⟨w9.heap.size, 0, none⟩) 1 1)).heap[w9.heap.size]? = some (.cells #[.int .i64 g.st, .int .i64 g.step] 220 (0, 0)) := by
          rw [hp_setCell, if_neg (by have := Hsb9.out; omega)]; exact HmA.out
        have hm9s := HN9.out.size
        generalize (w9.alloc (.cells #[.int .i64 g.st, .int .i64 g.step] 220)).setCell ⟨sb, 6, none⟩ (.slice (some ⟨w9.heap.size, 0, none⟩) 1 1) = w10 at hF10 hs10 hm10 ⊢
        have HN10 : Hid (New wr w10) := HN9.out.trans' hF10 (fun i hi e => by have := Hsbe.out; omega)
        generalize w9.heap.size = nb at hs10 hm10 hm9s ⊢
        have HM10 : Hid (RefOk w10 ({ g with tries := 0, due := 0 }, .slice sa g.steps.length sc, .slice (some ⟨nb, 0, none⟩) 1 1)) := ⟨Hsv.out.new HN10.out, _, _, _, rfl, hm10, rfl, rfl⟩
        clear hF10 hs9 Hs9 hcv hfv HN9 hsA HsA HmA hcvA hfvA hm10 hm9s Hsb9
        have hcv := cellv w10
        have hst0 := Hst0.out
        have hoA := Lib.hid ((HR'.out.new HN10.out).own.alloc (.cells #[.int .i64 g.id, .slice sa g.steps.length sc, .int .i64 g.st, .int .i64 g.step, .int .i64 0, .int .i64 0, .slice (some ⟨nb, 0, none⟩) 1 1] 223))
        have hnews : ∀ (j : Nat) (u : Value), [Value.int .i64 g.id, .slice sa g.steps.length sc, .int .i64 g.st, .int .i64 g.step, .int .i64 0, .int .i64 0, .slice (some ⟨nb, 0, none⟩) 1 1][j]? = some u → (w10.alloc (.cells #[.int .i64 g.id, .slice sa g.steps.length sc, .int .i64 g.st, .int .i64 g.step, .int .i64 0, .int .i64 0, .slice (some ⟨nb, 0, none⟩) 1 1] 223)).cell? ((⟨w10.heap.size, 0, none⟩ : Addr).add j) = some u := World.news_of_block (heap_alloc_new w10 _)
        have Hnews := Lib.hid hnews
        have hRl : R'.length = k := by
          have := congrArg List.length HsR'.out
          simp [sagasOf, coreL] at this
          have := Hlt.out
          omega
        have HRl := Lib.hid hRl
        clear hnews hRl
        go_wp2_with (first
          | (at_builtin; refine wpList_append_own _ rfl _ _ 161 rfl w1.heap.size 223 i0 (.agg #[.int .i64 0, .slice none 0 0, .int .i64 0, .int .i64 0, .int .i64 0, .int .i64 0, .slice none 0 0]) 7 88 Tryz.underlying161 hi hz0 hz1 hz2 rfl (by decide) _ _ _ rfl hoA.out ⟨w10.heap.size, 0, none⟩ 1 1 [Value.int .i64 g.id, .slice sa g.steps.length sc, .int .i64 g.st, .int .i64 g.step, .int .i64 0, .int .i64 0, .slice (some ⟨nb, 0, none⟩) 1 1] rfl rfl Hnews.out (by intro u hu; simp at hu; rcases hu with rfl | rfl | rfl | rfl | rfl | rfl | rfl <;> rfl) (by have := Hl.out; have := HRl.out; have := Hlt.out; unfold maxLen; omega) (by have := Hl.out; have := HRl.out; have := Hlt.out; omega) (by have := Hf.out.size; have := HN10.out.size; simp; omega) ?_; intro l2 w11 hown11 hg11 _; obtain ⟨a4, n4, c4, rfl⟩ := own_slice hown11; go_frame)
          | fail)
        go_roundw
        case rel =>
          have hRA : RefAt (w10.alloc (.cells #[.int .i64 g.id, .slice sa g.steps.length sc, .int .i64 g.st, .int .i64 g.step, .int .i64 0, .int .i64 0, .slice (some ⟨nb, 0, none⟩) 1 1] 223)) w1.heap.size (.slice ra rn rc) R' := (HR'.out.new HN10.out).new ((Fr.refl _ _).alloc _)
          refine ⟨k + 1, R' ++ [({ g with tries := 0, due := 0 }, .slice sa g.steps.length sc, .slice (some ⟨nb, 0, none⟩) 1 1)], Hlt.out, by go_num, by go_num, hRA.snoc (r := ({ g with tries := 0, due := 0 }, .slice sa g.steps.length sc, .slice (some ⟨nb, 0, none⟩) 1 1)) ⟨(HM10.out.1).new ((Fr.refl _ _).alloc _), (HM10.out.2).new ((Fr.refl _ _).alloc _)⟩ hown11 hg11, ?_, ?_⟩
          · have e1 : R.take (k + 1) = R.take k ++ [(g, .slice sa g.steps.length sc, .slice (some ⟨mb, 0, none⟩) 1 mc)] := by
              rw [List.take_add_one, Hr.out]; rfl
            have h0 := HsR'.out
            unfold sagasOf coreL at h0 ⊢
            rw [e1]
            simp only [List.map_append, List.map_cons, List.map_nil] at h0 ⊢
            rw [h0]; rfl
          · exact (((Hf.out.trans HN10.out).alloc _).trans' (Fr.ofGrown hg11) (fun i hi e => by have := (hRA.own.lt i e).1; omega))
        case measure => have := Hlt.out; simp [intOf]; omega
      · obtain rfl : k = R.length := by omega
        have hkI : ¬ ((R.length : Int) < R.length) := by omega
        have hnn : ((R.length : Int) == R.length) = true := by simp
        have hfv := frozv wr
        go_wp2_with fail
        go_ret
        have hFc := ((((((Fr.one kb wr 5 (.pointer (some ⟨q.xb, 0, none⟩))).trans (Fr.one kb _ 6 (.int .i64 pause))).trans (Fr.one kb _ 7 (.int .i64 0))).trans (Fr.one kb _ 8 (.bool false))).trans (Fr.one kb _ 9 (.slice ra rn rc))).trans (Fr.one kb _ 3 (.bool false))).trans (Fr.one kb _ 4 (.bool false))
        refine ⟨rfl, ((Hf1.out.trans Hf.out).mono (fun _ _ f => f.elim)).trans hFc, .slice ra rn rc, R', ?_, ?_, ?_⟩
        · simp only [hp_setCell, if_true, hkr]; rfl
        · have h1 := HR'.out.fr hFc (by rintro k rfl; exact ⟨_, hkr, by simp [kindOf]⟩) (fun k hk e => by
            obtain ⟨c, hc⟩ := own_cells HR'.out.own hk
            rw [e] at hc
            rw [hkr] at hc
            simp at hc)
          exact ⟨own_baseW h1.own Hf1.out.size, h1.ok⟩
        · rw [HsR'.out, List.take_length]
end Go.Proofs.YtkafmfdipmhleaaGreatDoor

namespace Go.Proofs.YtkafmfdipmhleaaGreatDoor
open Go.RowKit Go.Maps
/-- What a step on a disk makes of it, and what is known of what it made. -/
def TurnedTo (Q : RD → Prop) (w : World) (B m : Nat) (o : RD) (w' : World) : Prop := ∃ o', RunAt w' B o' ∧ RDok m o' ∧ (o'.kb = o.kb ∧ o'.db = o.db ∧ o'.bb = o.bb ∧ o'.pb = o.pb) ∧ (∀ k, o'.own k → o.own k ∨ w.heap.size ≤ k) ∧ Fr o.own w w' ∧ Q o'
/-- The engine asks as it did. -/
def KeepA (o o' : RD) : Prop := ∀ e', o'.x = some e' → ∃ e, o.x = some e ∧ e'.a = e.a
/-- The engine, if there is one, asks the partner itself. -/
def PlainA (o' : RD) : Prop := ∀ e', o'.x = some e' → e'.a = askP
/-- No engine is open. -/
def NoX (o' : RD) : Prop := o'.x = none
/-- An engine, if there is one, was opened just now: it asks the partner itself. -/
def JustO (pause : Int) (o' : RD) : Prop := ∀ e', o'.x = some e' → e'.a = askP ∧ o'.pz = pause ∧ o'.ck = 0 ∧ sagasOf o'.R = o'.evs.foldl applyEv []
theorem NoX.just {o' : RD} (h : NoX o') (pause : Int) : JustO pause o' := fun e he => by
  have h' : o'.x = none := h
  rw [h'] at he; cases he
theorem NoX.plain {o' : RD} (h : NoX o') : PlainA o' := fun e he => by
  have h' : o'.x = none := h
  rw [h'] at he; cases he
theorem TurnedTo.mono {Q P : RD → Prop} {w w' : World} {B m : Nat} {o : RD} (h : TurnedTo Q w B m o w') (hQ : ∀ o', Q o' → P o') : TurnedTo P w B m o w' := by
  obtain ⟨o', h1, h2, h3, h4, h5, h6⟩ := h
  exact ⟨o', h1, h2, h3, h4, h5, hQ _ h6⟩
theorem TurnedTo.turned {Q : RD → Prop} {w w' : World} {B m : Nat} {o : RD} (h : TurnedTo Q w B m o w') : Turned w B m o w' := by
  obtain ⟨o', h1, h2, h3, h4, h5, _⟩ := h
  exact ⟨o', h1, h2, h3, h4, h5⟩
theorem TurnedTo.same {w w' : World} {B m k : Nat} {o : RD} (h : RunAt w B o) (hk : RDok k o) (hm : m ≤ k) (hf : New w w') : TurnedTo (KeepA o) w B m o w' :=
  ⟨o, h.new hk.pend hf, hk.less hm, ⟨rfl, rfl, rfl, rfl⟩, fun _ h => .inl h, hf.mono (fun _ _ f => f.elim), fun e he => ⟨e, he, rfl⟩⟩
end Go.Proofs.YtkafmfdipmhleaaGreatDoor

namespace Go.Proofs.YtkafmfdipmhleaaGreatDoor
open Go.RowKit Go.Maps
theorem coreL_left (l : List SagaM) : leftSum (coreL l) = leftSum l := by
  unfold leftSum coreL
  rw [List.map_map]; rfl
theorem coreL_core (l : List SagaM) : coreL (coreL l) = coreL l := by
  unfold coreL
  rw [List.map_map]; rfl
/-- The partner's blocks have not turned. -/
theorem RunAt.ptFr {w w' : World} {B : Nat} {o : RD} {S : Nat → Prop} (h : RunAt w B o) (hf : Fr S w w') (hpb : ¬ S o.pb) (hS : ∀ k ob, S k → w.heap[k]? = some ob → kindOf ob ∉ [49, 47, 4]) :
    w'.heap[o.pb]? = some (.cells #[o.pl, o.pe, o.pi, .int .i64 o.p.at_] 44 (0, 0)) ∧ PAt w' o.pb o.p := by
  have hps := hf.get h.ps hpb
  refine ⟨hps, ?_⟩
  obtain ⟨⟨lv, ev, iv, C, h1, h2, h3, h4, h5, h6⟩⟩ := h.pt
  have h0 := h.ps
  rw [h1] at h0
  simp only [Option.some.injEq, Obj.cells.injEq, Array.mk.injEq, List.cons.injEq] at h0
  obtain ⟨⟨e1, e2, e3, _⟩, _⟩ := h0
  subst e1 e2 e3
  have own : ∀ {C e size n : Nat} {v : Value} {xs : List Value}, e + 1 ∈ [49, 47, 4] → w.ownsRow C e size v n xs → ∀ k, v.ownBlock = some k → ¬ S k := by
    intro C e size n v xs he hv k hk hs
    obtain ⟨c, hc⟩ := own_cells hv hk
    exact hS k _ hs hc he
  refine ⟨⟨_, _, _, C, hf.get h1 hpb, own_frS h2 hf (own (by simp) h2), own_frS h3 hf (own (by simp) h3), ?_, ⟨Nat.le_trans h5.1 hf.size, h5.2⟩, h6⟩⟩
  rcases h4 with h4 | ⟨b, off, cap, c, e, e4, e5⟩
  · exact .inl h4
  · exact .inr ⟨b, off, cap, c, e, hf.get e4 (fun hs => hS b _ hs e4 (by simp [kindOf])), e5⟩
/-- A disk that was opened, or was not. -/
theorem RunAt.remade {w w' : World} {B : Nat} {o o' : RD} (h : RunAt w B o) (hf : Fr (fun k => k = o.kb ∨ k = o.db) w w') (hs : o'.pb = o.pb ∧ o'.p = o.p ∧ o'.pl = o.pl ∧ o'.pe = o.pe ∧ o'.pi = o.pi)
    (st : w'.heap[o'.kb]? = some (.cells (rdCells o') 165 (0, 0))) (dk : DiskAt w' o'.db o'.bb o'.d) (ref : RefAt w' B o'.lv o'.R)
    (eng : ∀ e, o'.x = some e → StV e.cv w' (o'.pl_ e) e.bl (o'.st e) ∧ Asks e.cv o'.pb e.a) (lo : ∀ k, o'.own k → B ≤ k) : RunAt w' B o' := by
  obtain ⟨_, _, _, _, e1, e2, _⟩ := h.dk
  obtain ⟨h1, h2, h3, h4, h5⟩ := hs
  obtain ⟨p1, p2⟩ := h.ptFr hf (by
    rintro (e | e)
    · exact ne_of_kind h.ps h.st (by simp [kindOf]) e
    · exact ne_of_kind h.ps e1 (by simp [kindOf]) e) (by
    rintro k ob (rfl | rfl) hk
    · rw [h.st] at hk; cases hk; simp [kindOf]
    · rw [e1] at hk; cases hk; simp [kindOf])
  exact ⟨st, dk, by rw [h1, h2, h3, h4, h5]; exact p1, by rw [h1, h2]; exact p2, by rw [h2, h5]; exact h.pi, ref, eng, lo⟩
theorem RDok.reads {m : Nat} {o : RD} (h : RDok (m + 1) o) (k : Nat) (hk : k ≤ 10000) : 0 ≤ (o.d.reads k).calls ∧ (o.d.reads k).calls + 20000 * m ≤ 2 ^ 40 := by
  have := h.cal
  exact ⟨by show 0 ≤ o.d.calls + (k : Int); omega, by show o.d.calls + (k : Int) + 20000 * m ≤ 2 ^ 40; omega⟩
theorem RDok.closed {m : Nat} {o : RD} (h : RDok (m + 1) o) (k : Nat) (hk : k ≤ 10000) : RDok m { o with d := o.d.reads k, x := none } := by
  have h' := h.less (k := m) (by omega)
  exact ⟨h'.quiet, h'.pend, h'.len, h'.nl, h.reads k hk, h'.je, h'.ep, h'.core, h'.cap, h'.ok, h'.ord, h'.room, h'.fits, fun e => ⟨(h'.zero e).1, rfl⟩, h'.fine, h'.tries, h'.clock, fun _ e => by cases e⟩
theorem RDok.opened {m : Nat} {o : RD} (h : RDok (m + 1) o) (k : Nat) (hk : k ≤ 10000) {R' : List RefM} (hR : sagasOf R' = coreL (sagasOf o.R)) {pause : Int} (hp : 1 ≤ pause ∧ pause ≤ 64) (lv : Value) (e : EngR) (ha : e.a = askP ∨ e.a = askF) (he : o.ep ≠ 0) :
    RDok m { o with d := o.d.reads k, R := R', pz := pause, ck := 0, lv := lv, x := some e } := by
  have h' := h.less (k := m) (by omega)
  have hep := h'.ep
  refine ⟨h'.quiet, h'.pend, h'.len, h'.nl, h.reads k hk, h'.je, h'.ep, ?_, ?_, ?_, ?_, ?_, h'.fits, fun e => absurd e he, h'.fine, ?_, ⟨by show (0 : Int) ≤ 0; omega, by show (0 : Int) + m ≤ 2 ^ 30; omega⟩, fun e' ee => ?_⟩
  · show coreL (sagasOf R') = _
    rw [hR, coreL_core]; exact h'.core
  · show (evLen o.evs : Int) + leftSum (sagasOf R') ≤ capSum (sagasOf R')
    rw [hR, coreL_left, coreL_capSum]; exact h'.cap
  · intro g hg
    have hg' : g ∈ coreL (sagasOf o.R) := by rw [← hR]; exact hg
    obtain ⟨g0, h0, rfl⟩ := List.mem_map.1 hg'
    have := h'.ok g0 h0
    exact ⟨this.1, this.2.1, this.2.2.1, by show (0 : Int) ≤ 0; omega, this.2.2.2.2⟩
  · show (sagasOf R').Pairwise _
    rw [hR]; exact coreL_ord h'.ord
  · intro e0
    show (1 + evLen o.evs : Nat) + leftSum (sagasOf R') ≤ o.n
    rw [hR, coreL_left]; exact h'.room e0
  · intro g hg
    have hg' : g ∈ coreL (sagasOf o.R) := by rw [← hR]; exact hg
    obtain ⟨g0, h0, rfl⟩ := List.mem_map.1 hg'
    show (0 : Int) + 2000 * m < 2 ^ 30
    omega
  · simp only [Option.some.injEq] at ee
    subst ee
    exact ⟨hp, ha⟩
/-- Open, where the journal may be opened. -/
def OpnHyp (o : RD) : Prop := ∀ (w : World) (pause : Int), DiskAt w o.db o.bb o.d → 1 ≤ pause ∧ pause ≤ 64 →
  Calls Tryz.prog 30 #[.pointer (some ⟨o.db, 0, none⟩), .int .i64 pause, .pointer (some ⟨o.pb, 0, none⟩)] w (OpnPost w o.db o.bb o.d ⟨o.ep, 1 + evLen o.evs, true⟩ (o.evs.foldl applyEv []) pause (askFn o.pb))
theorem RDok.dfits {m : Nat} {o : RD} (h : RDok m o) (he : o.ep ≠ 0) : o.d.fits = true := by
  have := h.fits he
  unfold DiskM.fits
  rw [h.len]
  simp; omega
theorem RDok.opnHyp {m : Nat} {o : RD} (h : RDok (m + 1) o) (hr : evLen o.evs + 1 < o.n) (he : o.ep ≠ 0) : OpnHyp o := by
  intro w pause hd hp
  have hc := h.cal
  have hep := h.ep
  have hJ := h.je (by omega)
  rcases hJ.parse0 rfl h.pend (by omega) with ⟨h0, _⟩ | ⟨_, h0⟩
  · exact absurd h0 he
  · exact pOpen_any (pb := o.pb) hd h.quiet (by omega) _ h0 rfl o.evs (hJ.evs rfl h.pend) (hJ.stop rfl h.pend (by rw [h.len]; omega)) hJ.ok (by rw [h.len]; exact hr) (h.dfits he) pause hp
/-- What Open makes: nothing turns but the disk's count. -/
def OpRV (w : World) (o : RD) (pause : Int) (xv ev : Value) (w' : World) : Prop :=
  ∃ k, k ≤ 10000 ∧ DiskAt w' o.db o.bb (o.d.reads k) ∧ Fr (· = o.db) w w' ∧
    ((xv = .pointer none ∧ ∃ nb, ev = .iface 121 (.pointer (some ⟨nb, 0, none⟩)) ∧ (∃ op, w'.heap[nb]? = some (.cells (faultCells op (errOf o.d pause)) 123 (0, 0))) ∧ (o.ep = 0 ∨ (pause < 1 ∨ 64 < pause) ∨ o.d.fits = false)) ∨
     (ev = .nilIface ∧ o.ep ≠ 0 ∧ (1 ≤ pause ∧ pause ≤ 64) ∧ o.d.fits = true ∧ ∃ xb jb mb bl, xv = .pointer (some ⟨xb, 0, none⟩) ∧ (w.heap.size ≤ xb ∧ w.heap.size ≤ jb ∧ w.heap.size ≤ mb ∧ ∀ b ∈ bl, w.heap.size ≤ b) ∧
        JnAt w' jb o.db ⟨o.ep, 1 + evLen o.evs, true⟩ ∧ EvV (askFn o.pb) w' ⟨xb, jb, mb, o.db, o.bb, o.pb⟩ bl ⟨pause, 0, o.evs.foldl applyEv [], ⟨o.ep, 1 + evLen o.evs, true⟩, o.d.reads k, o.p⟩))
theorem opened_callV {w : World} {m : Nat} {o : RD} {pause : Int} (hd : DiskAt w o.db o.bb o.d) (hk : RDok (m + 1) o) (hO : o.ep ≠ 0 → OpnHyp o) :
    Calls Tryz.prog 30 #[.pointer (some ⟨o.db, 0, none⟩), .int .i64 pause, .pointer (some ⟨o.pb, 0, none⟩)] w fun e w' => ∃ xv ev, e = .returned (.tuple #[xv, ev]) ∧ OpRV w o pause xv ev w' := by
  have hc := hk.cal
  have hep := hk.ep
  by_cases herr : o.ep = 0 ∨ (pause < 1 ∨ 64 < pause) ∨ o.d.fits = false
  · obtain ⟨r0, h0⟩ : ∃ r0, parseM (o.d.look 0) = some (r0, false) ∨ (pause < 1 ∨ 64 < pause) ∨ o.d.fits = false := by
      by_cases hn : 0 < o.n
      · rcases (hk.je hn).parse0 rfl hk.pend (by omega) with ⟨_, r, hr⟩ | ⟨h1, _⟩
        · exact ⟨r, .inl hr⟩
        · rcases herr with h2 | h2
          · exact absurd h2 h1
          · exact ⟨default_rec, .inr h2⟩
      · refine ⟨default_rec, .inr (.inr ?_)⟩
        unfold DiskM.fits
        rw [hk.len]
        simp; omega
    refine Calls.mono (pOpen_err (pb := o.pb) hd hk.quiet (by omega) r0 h0) ?_
    rintro e w' ⟨nb, k, hk2, rfl, hfb, hd', hf⟩
    exact ⟨_, _, rfl, k, hk2, hd', hf, .inl ⟨rfl, nb, rfl, ⟨_, hfb⟩, herr⟩⟩
  · have h1 : o.ep ≠ 0 := fun h => herr (.inl h)
    have h2 : 1 ≤ pause ∧ pause ≤ 64 := by
      have : ¬ (pause < 1 ∨ 64 < pause) := fun h => herr (.inr (.inl h))
      omega
    refine Calls.mono (hO h1 w pause hd h2) ?_
    rintro e w' ⟨xb, jb, mb, bl, k, rfl, hxs, hk2, hx, hj, hd', hm, hlb, hsg, hnd, hbl, hf⟩
    exact ⟨_, _, rfl, k, hk2, hd', hf, .inr ⟨rfl, h1, h2, hk.dfits h1, xb, jb, mb, bl, rfl, ⟨hxs.1, hxs.2.1, hxs.2.2, hbl⟩, hj, ⟨hx, hm, hlb, hsg, hnd⟩⟩⟩
theorem RunAt.low {w : World} {B : Nat} {o : RD} (h : RunAt w B o) : B ≤ w.heap.size := Nat.le_trans (h.lo _ (.inl rfl)) (Nat.le_of_lt (lt_of_hp h.st))
theorem RunAt.shut {w w' : World} {B : Nat} {o : RD} {d : DiskM} (h : RunAt w B o) (hf : Fr (fun k => k = o.kb ∨ k = o.db) w w') (hk : w'.heap[o.kb]? = some (.cells (rdCells { o with d := d, x := none }) 165 (0, 0))) (hd : DiskAt w' o.db o.bb d) : RunAt w' B { o with d := d, x := none } := by
  obtain ⟨_, _, _, _, e1, _⟩ := h.dk
  refine h.remade hf ⟨rfl, rfl, rfl, rfl, rfl⟩ hk hd (h.ref.fr hf ?_ ?_) (fun e he => by cases he) (fun k hk => ?_)
  · rintro k (rfl | rfl)
    · exact ⟨_, h.st, by simp [kindOf]⟩
    · exact ⟨_, e1, by simp [kindOf]⟩
  · intro k hk
    obtain ⟨c, hc⟩ := own_cells h.ref.own hk
    rintro (rfl | rfl)
    · rw [h.st] at hc; simp at hc
    · rw [e1] at hc; simp at hc
  · refine h.lo k ?_
    rcases hk with e | e | e | e | e | e | e | e | ⟨_, e, _⟩
    · exact .inl e
    · exact .inr (.inl e)
    · exact .inr (.inr (.inl e))
    · exact .inr (.inr (.inr (.inl e)))
    · exact .inr (.inr (.inr (.inr (.inl e))))
    · exact .inr (.inr (.inr (.inr (.inr (.inl e)))))
    · exact .inr (.inr (.inr (.inr (.inr (.inr (.inl e))))))
    · exact .inr (.inr (.inr (.inr (.inr (.inr (.inr (.inl e)))))))
    · cases e
theorem own_less {o o' : RD} (hs : o'.kb = o.kb ∧ o'.db = o.db ∧ o'.bb = o.bb ∧ o'.pb = o.pb ∧ o'.pl = o.pl ∧ o'.pe = o.pe ∧ o'.pi = o.pi) {A : Nat} (hl : ∀ k, o'.lv.ownBlock = some k → o.own k ∨ A ≤ k) (hx : ∀ e, o'.x = some e → ∀ k, (k = e.xb ∨ k = e.jb ∨ k = e.mb ∨ k ∈ e.bl) → o.own k ∨ A ≤ k) {k : Nat} (hk : o'.own k) : o.own k ∨ A ≤ k := by
  obtain ⟨h1, h2, h3, h4, h5, h6, h7⟩ := hs
  rcases hk with e | e | e | e | e | e | e | e | ⟨x, e, e'⟩
  · exact .inl (.inl (e.trans h1))
  · exact .inl (.inr (.inl (e.trans h2)))
  · exact .inl (.inr (.inr (.inl (e.trans h3))))
  · exact .inl (.inr (.inr (.inr (.inl (e.trans h4)))))
  · exact hl k e
  · exact .inl (.inr (.inr (.inr (.inr (.inr (.inl (h5 ▸ e)))))))
  · exact .inl (.inr (.inr (.inr (.inr (.inr (.inr (.inl (h6 ▸ e))))))))
  · exact .inl (.inr (.inr (.inr (.inr (.inr (.inr (.inr (.inl (h7 ▸ e)))))))))
  · exact hx x e k e'
theorem TurnedTo.shut {w w' : World} {B m : Nat} {o : RD} (h : RunAt w B o) (hk : RDok (m + 1) o) (k : Nat) (hk2 : k ≤ 10000) (hf : Fr (fun k => k = o.kb ∨ k = o.db) w w') (hst : w'.heap[o.kb]? = some (.cells (rdCells { o with d := o.d.reads k, x := none }) 165 (0, 0))) (hd : DiskAt w' o.db o.bb (o.d.reads k)) : TurnedTo NoX w B m o w' :=
  ⟨_, h.shut hf hst hd, hk.closed k hk2, ⟨rfl, rfl, rfl, rfl⟩, fun j hj => own_less (o := o) (o' := { o with d := o.d.reads k, x := none }) ⟨rfl, rfl, rfl, rfl, rfl, rfl, rfl⟩ (fun i hi => .inl (.inr (.inr (.inr (.inr (.inl hi)))))) (fun e he => by cases he) hj, hf.mono (by
    rintro i hi (e | e)
    · exact .inl e
    · exact .inr (.inl e)), rfl⟩
theorem TurnedTo.opened {w w5 w' : World} {B m xb jb mb : Nat} {o : RD} {bl : List Nat} {pause : Int} (h : RunAt w B o) (hk : RDok (m + 1) o) (he : o.ep ≠ 0) (hp : 1 ≤ pause ∧ pause ≤ 64) (k : Nat) (hk2 : k ≤ 10000) (hs5 : w.heap.size ≤ w5.heap.size) (hf : Fr (fun k => k = o.kb ∨ k = o.db) w w')
    (hf5 : Fr (· = o.kb) w5 w') (hkb : ∃ c, w5.heap[o.kb]? = some (.cells c 165 (0, 0))) (hd : DiskAt w5 o.db o.bb (o.d.reads k)) (hl : w.heap.size ≤ xb ∧ w.heap.size ≤ jb ∧ w.heap.size ≤ mb ∧ ∀ b ∈ bl, w.heap.size ≤ b) (hj : JnAt w5 jb o.db ⟨o.ep, 1 + evLen o.evs, true⟩)
    (hE : EvV (askFn o.pb) w5 ⟨xb, jb, mb, o.db, o.bb, o.pb⟩ bl ⟨pause, 0, o.evs.foldl applyEv [], ⟨o.ep, 1 + evLen o.evs, true⟩, o.d.reads k, o.p⟩) {lv : Value} {R' : List RefM}
    (hst : w'.heap[o.kb]? = some (.cells #[.pointer (some ⟨o.db, 0, none⟩), .pointer (some ⟨o.pb, 0, none⟩), .int .i64 o.n, .bool false, .bool false, .pointer (some ⟨xb, 0, none⟩), .int .i64 pause, .int .i64 0, .bool false, lv] 165 (0, 0)))
    (hR : RefAt w' w5.heap.size lv R') (hRs : sagasOf R' = coreL (sagasOf o.R)) : TurnedTo (JustO pause) w B m o w' := by
  obtain ⟨cc, hkb⟩ := hkb
  have hBw := h.low
  have hK : FrK [166] w5 w' := hf5.toK (by
    rintro i ob rfl ho
    rw [hkb] at ho; cases ho; simp [kindOf])
  have hd' : DiskAt w' o.db o.bb (o.d.reads k) := hd.keepK hK (by decide) (by decide) (by decide)
  have hpt := (h.ptFr hf (by
    obtain ⟨_, _, _, _, e1, _⟩ := h.dk
    rintro (e | e)
    · exact ne_of_kind h.ps h.st (by simp [kindOf]) e
    · exact ne_of_kind h.ps e1 (by simp [kindOf]) e) (by
    obtain ⟨_, _, _, _, e1, _⟩ := h.dk
    rintro i ob (rfl | rfl) hi
    · rw [h.st] at hi; cases hi; simp [kindOf]
    · rw [e1] at hi; cases hi; simp [kindOf])).2
  have hsg : o.evs.foldl applyEv [] = sagasOf R' := by rw [hRs]; exact hk.core.symm
  have hE' := hE.keepK hK (by decide)
  have hj' : JnAt w' jb o.db ⟨o.ep, 1 + evLen o.evs, true⟩ := hj.keepK hK (by decide)
  rw [hsg] at hE'
  have hlvn : ∀ i, lv.ownBlock = some i → w.heap.size ≤ i := by
    intro i hi
    have := (hR.own.lt i hi).1; omega
  have hown : ∀ j, RD.own { o with d := o.d.reads k, R := R', pz := pause, ck := 0, lv := lv, x := some ⟨xb, jb, mb, bl, true, askFn o.pb, askP⟩ } j → o.own j ∨ w.heap.size ≤ j := by
    intro j hj2
    refine own_less (o := o) (o' := { o with d := o.d.reads k, R := R', pz := pause, ck := 0, lv := lv, x := some ⟨xb, jb, mb, bl, true, askFn o.pb, askP⟩ }) ⟨rfl, rfl, rfl, rfl, rfl, rfl, rfl⟩ (fun i hi => .inr (hlvn i hi)) (fun e he2 i hi => ?_) hj2
    simp only [Option.some.injEq] at he2
    subst he2
    rcases hi with rfl | rfl | rfl | hi
    · exact .inr hl.1
    · exact .inr hl.2.1
    · exact .inr hl.2.2.1
    · exact .inr (hl.2.2.2 i hi)
  refine ⟨{ o with d := o.d.reads k, R := R', pz := pause, ck := 0, lv := lv, x := some ⟨xb, jb, mb, bl, true, askFn o.pb, askP⟩ }, h.remade hf ⟨rfl, rfl, rfl, rfl, rfl⟩ ?_ hd' ⟨own_baseW hR.own (by omega), hR.ok⟩ (fun e he2 => ?_) (fun j hj2 => ?_), hk.opened k hk2 hRs hp lv _ (.inl rfl) he, ⟨rfl, rfl, rfl, rfl⟩, hown, hf.mono (by
    rintro i hi (e | e)
    · exact .inl e
    · exact .inr (.inl e)), fun e he2 => by
      simp only [Option.some.injEq] at he2
      subst he2; exact ⟨rfl, rfl, rfl, hsg.symm⟩⟩
  · rw [hst]
    simp only [rdCells, xvOf, show decide (o.ep = 0) = false by simp [he]]
  · simp only [Option.some.injEq] at he2
    subst he2
    exact ⟨⟨hE'.eng, hj', hd', hpt, hE'.mp, hE'.len, hE'.sg, hE'.nd⟩, asks_p _⟩
  · rcases hown j hj2 with hh | hh
    · exact h.lo j hh
    · omega
end Go.Proofs.YtkafmfdipmhleaaGreatDoor

namespace Go.Proofs.YtkafmfdipmhleaaGreatDoor
open Go.RowKit Go.Maps
theorem RunAt.remade3 {w w' : World} {B : Nat} {o o' : RD} (h : RunAt w B o) (hf : Fr (fun k => k = o.kb ∨ k = o.db ∨ k = o.bb) w w') (hs : o'.pb = o.pb ∧ o'.p = o.p ∧ o'.pl = o.pl ∧ o'.pe = o.pe ∧ o'.pi = o.pi)
    (st : w'.heap[o'.kb]? = some (.cells (rdCells o') 165 (0, 0))) (dk : DiskAt w' o'.db o'.bb o'.d) (ref : RefAt w' B o'.lv o'.R)
    (eng : ∀ e, o'.x = some e → StV e.cv w' (o'.pl_ e) e.bl (o'.st e) ∧ Asks e.cv o'.pb e.a) (lo : ∀ k, o'.own k → B ≤ k) : RunAt w' B o' := by
  obtain ⟨_, _, _, _, e1, e2, _⟩ := h.dk
  obtain ⟨h1, h2, h3, h4, h5⟩ := hs
  obtain ⟨p1, p2⟩ := h.ptFr hf (by
    rintro (e | e | e)
    · exact ne_of_kind h.ps h.st (by simp [kindOf]) e
    · exact ne_of_kind h.ps e1 (by simp [kindOf]) e
    · exact ne_of_kind h.ps e2 (by simp [kindOf]) e) (by
    rintro k ob (rfl | rfl | rfl) hk
    · rw [h.st] at hk; cases hk; simp [kindOf]
    · rw [e1] at hk; cases hk; simp [kindOf]
    · rw [e2] at hk; cases hk; simp [kindOf])
  exact ⟨st, dk, by rw [h1, h2, h3, h4, h5]; exact p1, by rw [h1, h2]; exact p2, by rw [h2, h5]; exact h.pi, ref, eng, lo⟩
def RD.fmtd (o : RD) : RD := { o with d := o.d.format (o.ep + 1), ep := o.ep + 1, evs := [], R := [], pz := 0, ck := 0, lv := .slice none 0 0, x := none }
theorem RDok.fmtd {m : Nat} {o : RD} (h : RDok (m + 1) o) (hf : 8 ≤ o.n ∧ o.n ≤ 400) : RDok m o.fmtd := by
  have hJ := h.je (by omega)
  have h' := h.less (k := m) (by omega)
  have hg : Grew 4 o.d (o.d.format (o.ep + 1)) := ((((Grew.count o.d).trans (Grew.flush _)).trans (Grew.put _ 0 _)).trans (Grew.flush _))
  obtain ⟨c1, c2⟩ := h.cal
  obtain ⟨g1, g2⟩ := hg.1 c1 (by omega)
  have hb : (o.d.format (o.ep + 1)).blocks = o.d.blocks.set 0 (hdrE (o.ep + 1)) := by
    have h1 : (o.d.count.flush).blocks = o.d.blocks := by
      have hp : o.d.count.pend = none := h.pend
      unfold DiskM.flush
      rw [hp]; rfl
    show ((o.d.count.flush).blocks.set 0 (padB (recBytes ⟨1, o.ep + 1, 0, 0, 0, []⟩))) = _
    rw [h1]; rfl
  have hep := h.ep
  refine ⟨((h.quiet.count.flush).put 0 _).flush, rfl, ?_, h'.nl, ⟨g1, by show (o.d.format (o.ep + 1)).calls + _ ≤ _; omega⟩, ?_, by show o.ep + 1 + m ≤ 100000; omega, rfl, by show ((0 : Nat) : Int) + 0 ≤ 0; omega, fun g hg => (by cases hg), List.Pairwise.nil, fun _ => ?_, fun _ => hf, fun e => ?_, h'.fine, fun g hg => by (cases hg), ⟨by show (0 : Int) ≤ 0; omega, by show (0 : Int) + m ≤ 2 ^ 30; omega⟩, fun _ e => by cases e⟩
  · show (o.d.format (o.ep + 1)).blocks.length = o.n
    rw [hb, List.length_set]; exact h.len
  · intro _
    show JE (o.d.format (o.ep + 1)).blocks (o.ep + 1) []
    rw [hb]
    exact hJ.fmt (by rw [h.len]; omega)
  · show ((1 + 0 : Nat) : Int) + 0 ≤ o.n
    omega
  · have : o.ep + 1 = 0 := e
    omega
theorem RDok.next {m : Nat} {o : RD} (h : RDok (m + 1) o) (hn : 0 < o.n) : ∃ r ok, parseM (o.d.look 0) = some (r, ok) ∧ nextEpoch r ok = o.ep + 1 := by
  have hep := h.ep
  rcases (h.je hn).parse0 rfl h.pend (by omega) with ⟨h0, r, hr⟩ | ⟨h0, hr⟩
  · exact ⟨r, false, hr, by rw [h0]; rfl⟩
  · refine ⟨_, true, hr, ?_⟩
    show (if true && (1 : Nat) == 1 then (o.ep + 1) % 2 ^ 32 else 1) = _
    simp; omega
theorem TurnedTo.shut3 {w w' : World} {B m : Nat} {o : RD} (h : RunAt w B o) (hk : RDok (m + 1) o) (hf : Fr (fun k => k = o.kb ∨ k = o.db) w w') (hst : w'.heap[o.kb]? = some (.cells (rdCells { o with d := o.d.reads 0, x := none }) 165 (0, 0))) (hd : DiskAt w' o.db o.bb o.d) : TurnedTo NoX w B m o w' :=
  TurnedTo.shut h hk 0 (by omega) hf hst (by rw [show o.d.reads 0 = o.d by simp [DiskM.reads]]; exact hd)
theorem TurnedTo.fmtd {w w' : World} {B m : Nat} {o : RD} (h : RunAt w B o) (hk : RDok (m + 1) o) (hf : 8 ≤ o.n ∧ o.n ≤ 400) (hF : Fr (fun k => k = o.kb ∨ k = o.db ∨ k = o.bb) w w') (hst : w'.heap[o.kb]? = some (.cells (rdCells o.fmtd) 165 (0, 0))) (hd : DiskAt w' o.db o.bb (o.d.format (o.ep + 1))) : TurnedTo NoX w B m o w' := by
  have hown : ∀ k, o.fmtd.own k → o.own k ∨ w.heap.size ≤ k := fun j hj => own_less (o := o) (o' := o.fmtd) ⟨rfl, rfl, rfl, rfl, rfl, rfl, rfl⟩ (fun i hi => by cases hi) (fun e he => by cases he) hj
  refine ⟨o.fmtd, h.remade3 hF ⟨rfl, rfl, rfl, rfl, rfl⟩ hst hd ⟨World.ownsRow_nil _ _ _ _, fun r hr => by cases hr⟩ (fun e he => by cases he) (fun k hk2 => ?_), hk.fmtd hf, ⟨rfl, rfl, rfl, rfl⟩, hown, hF.mono (by
    rintro i hi (e | e | e)
    · exact .inl e
    · exact .inr (.inl e)
    · exact .inr (.inr (.inl e))), rfl⟩
  rcases hown k hk2 with h1 | h1
  · exact h.lo k h1
  · have := h.low; omega
set_option maxRecDepth 100000 in
set_option maxHeartbeats 4000000 in
/-- Format. -/
theorem formattedR_calls {w : World} {B m : Nat} {o : RD} (h : RunAt w B o) (hk : RDok (m + 1) o) (hg : Handle w) (h0 : 0 < o.kb ∧ 0 < o.db ∧ 0 < o.bb) :
    Calls Tryz.prog 88 #[.pointer (some ⟨o.kb, 0, none⟩)] w fun e w' => e = .returned (.bool true) ∧ TurnedTo NoX w B m o w' := by
  obtain ⟨_, _, _, _, hdk1, hdk2, _⟩ := h.dk
  have hn1 : o.kb ≠ o.db := ne_of_kind h.st hdk1 (by simp [kindOf])
  have hn2 : o.kb ≠ o.bb := ne_of_kind h.st hdk2 (by simp [kindOf])
  have hst := h.st
  have hd := h.dk
  obtain ⟨la, ln, lc, hlv⟩ := own_slice h.ref.own
  simp only [rdCells] at hst
  rw [hlv] at hst
  have H := Lib.hid h
  have HK := Lib.hid hk
  have Hlv := Lib.hid hlv
  have hF1 : Fr (· = o.kb) w (w.setCell ⟨o.kb, 5, none⟩ (.pointer none)) := Fr.one o.kb w 5 (.pointer none)
  have hk1 : (w.setCell ⟨o.kb, 5, none⟩ (.pointer none)).heap[o.kb]? = some (.cells #[.pointer (some ⟨o.db, 0, none⟩), .pointer (some ⟨o.pb, 0, none⟩), .int .i64 o.n, .bool (decide (o.ep = 0)), .bool false, .pointer none, .int .i64 o.pz, .int .i64 o.ck, .bool false, .slice la ln lc] 165 (0, 0)) := by
    rw [hp_setCell, if_pos rfl, hst]; rfl
  have hd1 : DiskAt (w.setCell ⟨o.kb, 5, none⟩ (.pointer none)) o.db o.bb o.d := hd.frame hF1 (by
    rintro k rfl
    exact ⟨hn1, hn2, _, hst, by simp [kindOf]⟩)
  have hg1 : Handle (w.setCell ⟨o.kb, 5, none⟩ (.pointer none)) := hg.fr hF1 (by omega)
  have H0 := Lib.hid h0
  clear hd hg h hk hlv hdk1 hdk2 h0
  have hcv0 := cellv w
  have hfv0 := frozv w
  go_enter Tryz.func88, Tryz.ntmps88
  go_upto_region 2 with fail
  generalize w.setCell ⟨o.kb, 5, none⟩ (.pointer none) = w1 at hF1 hk1 hd1 hg1 ⊢
  have HF1 := Lib.hid hF1
  have Hk1 := Lib.hid hk1
  have Hg1 := Lib.hid hg1
  have Hd1 := Lib.hid hd1
  clear hst hF1 hg1 hd1 hcv0 hfv0
  have hcv := cellv w1
  have HTd := Lib.hid (Told_calls Hd1.out)
  have HNm := Lib.hid (fun (x : Int) (w' : World) => num_calls w' x)
  have hfd : o.d.fits = (decide (8 ≤ o.n) && decide (o.n ≤ 400)) := by unfold DiskM.fits; rw [HK.out.len]
  cases hfit : o.d.fits
  · have HFm := Lib.hid (pFormat_size Hd1.out hfit)
    have HFi := Lib.hid (fun (w' : World) (hf : New w1 w') => fits109 (hf.get Hk1.out (fun f => f)) (n := o.n) rfl)
    rw [hfit] at hfd
    rw [← hfd] at HFi
    clear hfd hfit
    go_wp2_with (first
      | (go_at_call 33; refine Calls.mono HTd.out ?_; rintro e w2 ⟨rfl, rfl⟩)
      | (go_at_call 39; refine Calls.mono HFm.out ?_; rintro e w3 ⟨v, rfl, ⟨fb, hfb, rfl, hfc⟩, hf3⟩)
      | (go_at_call 26; refine Calls.mono (toldP_fault fb fmtStr 7 w3 (Hg1.out.new hf3) hfc) ?_; rintro e w4 ⟨rfl, hf4⟩)
      | (go_at_call 108; refine Calls.mono (HNm.out _ _) ?_; rintro e w5 ⟨rfl, rfl⟩)
      | (go_at_call 109; refine Calls.mono (HFi.out _ (hf3.trans hf4)) ?_; rintro e w6 ⟨rfl, rfl⟩)
      | fail)
    go_ret
    have hf14 := hf3.trans hf4
    refine ⟨rfl, TurnedTo.shut3 H.out HK.out ((HF1.out.mono (fun _ _ e => .inl e)).trans (hf14.mono (fun _ _ f => f.elim))) ?_ (Hd1.out.new hf14)⟩
    rw [hf14.get Hk1.out (fun f => f)]
    simp only [rdCells, xvOf, Hlv.out]
  · have hfm0 : 8 ≤ o.n ∧ o.n ≤ 400 := by rw [hfit] at hfd; simpa using hfd.symm
    obtain ⟨r, ok, hpm, hnx⟩ := HK.out.next (by omega)
    have HFm := Lib.hid (pFormat_calls Hd1.out HK.out.quiet HK.out.pend r ok hpm)
    have HSf : Hid (∀ e w', sFmtPost w1 o.db o.bb o.d (nextEpoch r ok) e w' → FmtPost w1 o.db o.bb o.d (o.ep + 1) e w') := by
      intro e w' he
      unfold sFmtPost at he
      rw [if_pos hfit, hnx] at he; exact he
    have hfm : 8 ≤ o.n ∧ o.n ≤ 400 := by rw [hfit] at hfd; simpa using hfd.symm
    have HFi := Lib.hid (fun (w' : World) (hf : Fr (fun k => k = o.db ∨ k = o.bb) w1 w') => fits109 (hf.get Hk1.out (by omega)) (n := o.n) rfl)
    rw [hfit] at hfd
    rw [← hfd] at HFi
    have hfmD : ∀ e w', sFmtPost w1 o.db o.bb o.d (nextEpoch r ok) e w' → e = .returned .nilIface ∧ Fr (fun k => k = o.db ∨ k = o.bb) w1 w' ∧ DiskAt w' o.db o.bb (o.d.format (o.ep + 1)) := fun e w' he => HSf.out e w' he
    have HfmD := Lib.hid hfmD
    have Hfm := Lib.hid hfm
    clear hfd hfit hpm hnx HSf hfmD hfm
    go_upto_region 10 with (first
      | (go_at_call 33; refine Calls.mono HTd.out ?_; rintro e w2 ⟨rfl, rfl⟩)
      | (go_at_call 39; refine Calls.mono HFm.out ?_; intro e w3 he; obtain ⟨rfl, hf3, hd3⟩ := HfmD.out e w3 he)
      | (go_at_call 26; refine Calls.mono (toldP_nil w3) ?_; rintro e w4 ⟨rfl, hw4⟩; obtain rfl := hw4.symm)
      | (go_at_call 108; refine Calls.mono (HNm.out _ _) ?_; rintro e w5 ⟨rfl, rfl⟩)
      | (go_at_call 109; refine Calls.mono (HFi.out _ hf3) ?_; rintro e w6 ⟨rfl, rfl⟩)
      | fail)
    have hk3 := hf3.get Hk1.out (by omega)
    have Hk3 := Lib.hid hk3
    have Hf3 := Lib.hid hf3
    have Hd3 := Lib.hid hd3
    clear hf3 hd3 hcv hk1 HTd HNm HFi HFm
    have hcv := cellv w3
    have hfv := frozv w3
    go_wp2_with fail
    go_ret
    have hFc := (((((Fr.one o.kb w3 3 (.bool false)).trans (Fr.one o.kb _ 4 (.bool false))).trans (Fr.one o.kb _ 6 (.int .i64 0))).trans (Fr.one o.kb _ 7 (.int .i64 0))).trans (Fr.one o.kb _ 8 (.bool false))).trans (Fr.one o.kb _ 9 (.slice none 0 0))
    refine ⟨rfl, TurnedTo.fmtd H.out HK.out Hfm.out (((HF1.out.mono (fun _ _ e => .inl e)).trans (Hf3.out.mono (fun _ _ e => .inr e))).trans (hFc.mono (fun _ _ e => .inl e))) ?_ (Hd3.out.frame hFc (by rintro k rfl; exact ⟨hn1, hn2, _, Hk3.out, by simp [kindOf]⟩))⟩
    simp only [hp_setCell, if_true, Hk3.out, RD.fmtd, rdCells, xvOf]
    rfl
end Go.Proofs.YtkafmfdipmhleaaGreatDoor
