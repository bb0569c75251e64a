/-
  What is proved: regions of ticked's loop. a Tick of a script's engine, seen: ticked. an engine whose partner panics: what it hears is Later. a disk of a script that runs: opened with a partner that panics.
-/
import Derived.Test.YtkafmfdipmhleaaGreatDoorRy15
import Derived.StillTailTactics
import Derived.Laws.OwnMore

namespace Go.Proofs.YtkafmfdipmhleaaGreatDoor
open Go.RowKit Go.Maps
noncomputable def tkdR19 : Code := ((Tryz.f113.body).bind (regionAt 19)).getD .skip
set_option maxRecDepth 100000 in
set_option maxHeartbeats 8000000 in
/-- w := s.S.State != sagasref.Absent && s.Waits(d.r.Clock) -/
theorem tkd_r19 (kb sb : Nat) (g : SagaM) (sa : Option Addr) (sn sc : Nat) (mv : Value) (ck : Int) (d0 d1 d2 d3 d4 d5 d6 d8 d9 : Value) (W : World)
    (hk : W.heap[kb]? = some (.cells #[d0, d1, d2, d3, d4, d5, d6, .int .i64 ck, d8, d9] 165 (0, 0))) (hs : W.heap[sb]? = some (.cells #[.int .i64 g.id, .slice sa sn sc, .int .i64 g.st, .int .i64 g.step, .int .i64 g.tries, .int .i64 g.due, mv] 223 (0, 0)))
    (hst : (g.st != 0) = true)
    {ds : List Deferred} {x1 x2 x3 x4 x5 x6 x7 x8 x9 x10 x11 x12 x14 x15 x16 x17 x18 x19 x20 x21 x22 x23 x24 x25 x26 x27 x28 x29 x30 x31 x32 x33 x34 x35 x36 x37 x38 x39 x40 x41 x42 x43 x44 x45 x46 x47 x48 x49 x50 x51 x52 x53 x54 x55 x56 x57 x58 x59 x60 x61 x62 x63 x64 x65 x66 x67 x68 x69 x70 x71 x72 x73 x74 x75 x76 x77 x78 x79 x80 x81 x82 x83 x84 x85 x86 x87 x88 x89 x90 x91 x92 x93 x94 x95 x96 x97 x98 x99 x100 x101 x102 x103 x104 x105 x106 x107 x108 x109 x110 x111 x112 x113 x114 x115 x116 x117 x118 x119 x120 x121 x122 x123 x124 x125 x126 x127 x128 x129 x130 x131 x132 x133 x134 x135 x136 x137 x138 x139 x140 x141 x142 x143 x144 x145 x146 x147 x148 x149 x150 x151 x152 x153 x154 x155 x156 x157 x158 x159 x160 x161 x162 x163 x164 x165 x166 x167 x168 x169 x170 x171 x172 x173 x174 x175 x176 x177 x178 x179 x180 x181 x182 x183 x184 x185 x186 x187 x188 x189 x190 x191 x192 x193 x194 x195 x196 x197 x198 x199 x200 x201 x202 x203 x204 x205 x206 x207 x208 x209 x210 x211 x212 x213 x214 x215 x216 x217 x218 x219 x220 x221 : Value} {Q : Exit → Act → World → Prop}
    (hQ : ∀ (y118 y119 y120 y121 y122 y123 y124 y125 y126 y127 y128 y129 y130 : Value) (w3 : World), New W w3 → Q .normal ⟨#[.pointer (some ⟨kb, 0, none⟩), x1,x2,x3,x4,x5,x6,x7,x8,x9,x10,x11,x12, .pointer (some ⟨sb, 0, none⟩), .bool (g.waits ck), x15,x16,x17,x18,x19,x20,x21,x22,x23,x24,x25,x26,x27,x28,x29,x30,x31,x32,x33,x34,x35,x36,x37,x38,x39,x40,x41,x42,x43,x44,x45,x46,x47,x48,x49,x50,x51,x52,x53,x54,x55,x56,x57,x58,x59,x60,x61,x62,x63,x64,x65,x66,x67,x68,x69,x70,x71,x72,x73,x74,x75,x76,x77,x78,x79,x80,x81,x82,x83,x84,x85,x86,x87,x88,x89,x90,x91,x92,x93,x94,x95,x96,x97,x98,x99,x100,x101,x102,x103,x104,x105,x106,x107,x108,x109,x110,x111,x112,x113,x114,x115,x116,x117,y118,y119,y120,y121,y122,y123,y124,y125,y126,y127,y128,y129,y130,x131,x132,x133,x134,x135,x136,x137,x138,x139,x140,x141,x142,x143,x144,x145,x146,x147,x148,x149,x150,x151,x152,x153,x154,x155,x156,x157,x158,x159,x160,x161,x162,x163,x164,x165,x166,x167,x168,x169,x170,x171,x172,x173,x174,x175,x176,x177,x178,x179,x180,x181,x182,x183,x184,x185,x186,x187,x188,x189,x190,x191,x192,x193,x194,x195,x196,x197,x198,x199,x200,x201,x202,x203,x204,x205,x206,x207,x208,x209,x210,x211,x212,x213,x214,x215,x216,x217,x218,x219,x220,x221], ds⟩ w3) :
    Code.wp Tryz.prog tkdR19 Q ⟨#[.pointer (some ⟨kb, 0, none⟩), x1,x2,x3,x4,x5,x6,x7,x8,x9,x10,x11,x12, .pointer (some ⟨sb, 0, none⟩), x14,x15,x16,x17,x18,x19,x20,x21,x22,x23,x24,x25,x26,x27,x28,x29,x30,x31,x32,x33,x34,x35,x36,x37,x38,x39,x40,x41,x42,x43,x44,x45,x46,x47,x48,x49,x50,x51,x52,x53,x54,x55,x56,x57,x58,x59,x60,x61,x62,x63,x64,x65,x66,x67,x68,x69,x70,x71,x72,x73,x74,x75,x76,x77,x78,x79,x80,x81,x82,x83,x84,x85,x86,x87,x88,x89,x90,x91,x92,x93,x94,x95,x96,x97,x98,x99,x100,x101,x102,x103,x104,x105,x106,x107,x108,x109,x110,x111,x112,x113,x114,x115,x116,x117,x118,x119,x120,x121,x122,x123,x124,x125,x126,x127,x128,x129,x130,x131,x132,x133,x134,x135,x136,x137,x138,x139,x140,x141,x142,x143,x144,x145,x146,x147,x148,x149,x150,x151,x152,x153,x154,x155,x156,x157,x158,x159,x160,x161,x162,x163,x164,x165,x166,x167,x168,x169,x170,x171,x172,x173,x174,x175,x176,x177,x178,x179,x180,x181,x182,x183,x184,x185,x186,x187,x188,x189,x190,x191,x192,x193,x194,x195,x196,x197,x198,x199,x200,x201,x202,x203,x204,x205,x206,x207,x208,x209,x210,x211,x212,x213,x214,x215,x216,x217,x218,x219,x220,x221], ds⟩ W := by
  have hcv := cellv W
  have HQ := Lib.hid hQ
  have HW := Lib.hid (fun (w' : World) => WaitsR_calls w' g sa sn sc mv ck)
  clear hQ
  conv => arg 2; whnf
  go_still_tail 11, (by kernel_rfl)
  change wpList _ _ _ _ _ W.drew
  have hN : New W W.drew := (Fr.refl _ W).drew
  generalize W.drew = w2 at hN ⊢
  clear hcv hk hs
  go_wp2_with (first
    | (go_at_call 144; refine Calls.mono (HW.out _) ?_; rintro e w3 ⟨rfl, hf3⟩)
    | fail)
  exact HQ.out _ _ _ _ _ _ _ _ _ _ _ _ _ _ (hN.trans hf3)
noncomputable def tkdR27 : Code := ((Tryz.f113.body).bind (regionAt 27)).getD .skip
set_option maxRecDepth 100000 in
set_option maxHeartbeats 8000000 in
/-- a := asked(log[k].C, c) -/
theorem tkd_r27 (lg fr k K cx cb : Nat) (c : CallM) (cs : Array Value) (W : World) (hkK : k < K)
    (hl : W.heap[lg]? = some (.cells cs 48 (0, 0))) (h0 : cs[fr * 5 + k * 5]? = some (.int .i64 c.saga)) (h1 : cs[fr * 5 + k * 5 + 1]? = some (.int .i64 c.step)) (h2 : cs[fr * 5 + k * 5 + 2]? = some (.bool c.back)) (h3 : cs[fr * 5 + k * 5 + 3]? = some (.string c.data))
    (hc : W.heap[cb]? = some (.cells #[.int .i64 c.saga, .int .i64 c.step, .bool c.back, .string c.data] 234 (0, 0)))
    {ds : List Deferred} {x0 x1 x2 x3 x4 x5 x6 x7 x8 x9 x12 x13 x14 x16 x17 x18 x19 x20 x21 x22 x23 x24 x25 x26 x27 x28 x29 x30 x31 x32 x33 x34 x35 x36 x37 x38 x39 x40 x41 x42 x43 x44 x45 x46 x47 x48 x49 x50 x51 x52 x53 x54 x55 x56 x57 x58 x59 x60 x61 x62 x63 x64 x65 x66 x67 x68 x69 x70 x71 x72 x73 x74 x75 x76 x77 x78 x79 x80 x81 x82 x83 x84 x85 x86 x87 x88 x89 x90 x91 x92 x93 x94 x95 x96 x97 x98 x99 x100 x101 x102 x103 x104 x105 x106 x107 x108 x109 x110 x111 x112 x113 x114 x115 x116 x117 x118 x119 x120 x121 x122 x123 x124 x125 x126 x127 x128 x129 x130 x131 x132 x133 x134 x135 x136 x137 x138 x139 x140 x141 x142 x143 x144 x145 x146 x147 x148 x149 x150 x151 x152 x153 x154 x155 x156 x157 x158 x159 x160 x161 x162 x163 x164 x165 x166 x167 x168 x169 x170 x171 x172 x173 x174 x175 x176 x177 x178 x179 x180 x181 x182 x183 x184 x185 x186 x187 x188 x189 x190 x191 x192 x193 x194 x195 x196 x197 x198 x199 x200 x201 x202 x203 x204 x205 x206 x207 x208 x209 x210 x211 x212 x213 x214 x215 x216 x217 x218 x219 x220 x221 : Value} {Q : Exit → Act → World → Prop}
    (hQ : ∀ (y165 y166 y167 y168 y169 y170 y171 : Value) (w3 : World), New W w3 → Q .normal ⟨#[x0,x1,x2,x3,x4,x5,x6,x7,x8,x9, .slice (some ⟨lg, fr * 5, none⟩) K cx, .int .i64 k, x12,x13,x14, .pointer (some ⟨cb, 0, none⟩), .bool true, x17,x18,x19,x20,x21,x22,x23,x24,x25,x26,x27,x28,x29,x30,x31,x32,x33,x34,x35,x36,x37,x38,x39,x40,x41,x42,x43,x44,x45,x46,x47,x48,x49,x50,x51,x52,x53,x54,x55,x56,x57,x58,x59,x60,x61,x62,x63,x64,x65,x66,x67,x68,x69,x70,x71,x72,x73,x74,x75,x76,x77,x78,x79,x80,x81,x82,x83,x84,x85,x86,x87,x88,x89,x90,x91,x92,x93,x94,x95,x96,x97,x98,x99,x100,x101,x102,x103,x104,x105,x106,x107,x108,x109,x110,x111,x112,x113,x114,x115,x116,x117,x118,x119,x120,x121,x122,x123,x124,x125,x126,x127,x128,x129,x130,x131,x132,x133,x134,x135,x136,x137,x138,x139,x140,x141,x142,x143,x144,x145,x146,x147,x148,x149,x150,x151,x152,x153,x154,x155,x156,x157,x158,x159,x160,x161,x162,x163,x164,y165,y166,y167,y168,y169,y170,y171,x172,x173,x174,x175,x176,x177,x178,x179,x180,x181,x182,x183,x184,x185,x186,x187,x188,x189,x190,x191,x192,x193,x194,x195,x196,x197,x198,x199,x200,x201,x202,x203,x204,x205,x206,x207,x208,x209,x210,x211,x212,x213,x214,x215,x216,x217,x218,x219,x220,x221], ds⟩ w3) :
    Code.wp Tryz.prog tkdR27 Q ⟨#[x0,x1,x2,x3,x4,x5,x6,x7,x8,x9, .slice (some ⟨lg, fr * 5, none⟩) K cx, .int .i64 k, x12,x13,x14, .pointer (some ⟨cb, 0, none⟩), x16,x17,x18,x19,x20,x21,x22,x23,x24,x25,x26,x27,x28,x29,x30,x31,x32,x33,x34,x35,x36,x37,x38,x39,x40,x41,x42,x43,x44,x45,x46,x47,x48,x49,x50,x51,x52,x53,x54,x55,x56,x57,x58,x59,x60,x61,x62,x63,x64,x65,x66,x67,x68,x69,x70,x71,x72,x73,x74,x75,x76,x77,x78,x79,x80,x81,x82,x83,x84,x85,x86,x87,x88,x89,x90,x91,x92,x93,x94,x95,x96,x97,x98,x99,x100,x101,x102,x103,x104,x105,x106,x107,x108,x109,x110,x111,x112,x113,x114,x115,x116,x117,x118,x119,x120,x121,x122,x123,x124,x125,x126,x127,x128,x129,x130,x131,x132,x133,x134,x135,x136,x137,x138,x139,x140,x141,x142,x143,x144,x145,x146,x147,x148,x149,x150,x151,x152,x153,x154,x155,x156,x157,x158,x159,x160,x161,x162,x163,x164,x165,x166,x167,x168,x169,x170,x171,x172,x173,x174,x175,x176,x177,x178,x179,x180,x181,x182,x183,x184,x185,x186,x187,x188,x189,x190,x191,x192,x193,x194,x195,x196,x197,x198,x199,x200,x201,x202,x203,x204,x205,x206,x207,x208,x209,x210,x211,x212,x213,x214,x215,x216,x217,x218,x219,x220,x221], ds⟩ W := by
  have d0 : W.cell? ⟨lg, fr * 5 + k * 5, none⟩ = some (.int .i64 c.saga) := by rw [cellv, hl, cellOf_cells]; exact h0
  have d1 : W.cell? ⟨lg, fr * 5 + k * 5 + 1, none⟩ = some (.int .i64 c.step) := by rw [cellv, hl, cellOf_cells]; exact h1
  have d2 : W.cell? ⟨lg, fr * 5 + k * 5 + 2, none⟩ = some (.bool c.back) := by rw [cellv, hl, cellOf_cells]; exact h2
  have d3 : W.cell? ⟨lg, fr * 5 + k * 5 + 3, none⟩ = some (.string c.data) := by rw [cellv, hl, cellOf_cells]; exact h3
  have e0 : W.cell? ⟨cb, 0, none⟩ = some (.int .i64 c.saga) := by rw [cellv, hc]; rfl
  have e1 : W.cell? ⟨cb, 1, none⟩ = some (.int .i64 c.step) := by rw [cellv, hc]; rfl
  have e2 : W.cell? ⟨cb, 2, none⟩ = some (.bool c.back) := by rw [cellv, hc]; rfl
  have e3 : W.cell? ⟨cb, 3, none⟩ = some (.string c.data) := by rw [cellv, hc]; rfl
  have hkI : (k : Int) < K := by omega
  have hk0 : (0 : Int) ≤ k := by omega
  have HQ := Lib.hid hQ
  have HA := Lib.hid (fun (w' : World) => asked_calls w' c)
  simp only [CallM.val] at HA
  clear hQ hl hc h0 h1 h2 h3 hkK
  conv => arg 2; whnf
  go_still_tail 6, (by kernel_rfl)
  change wpList _ _ _ _ _ W.drew
  have hN : New W W.drew := (Fr.refl _ W).drew
  clear d0 d1 d2 d3 e0 e1 e2 e3
  generalize W.drew = w2 at hN ⊢
  go_wp2_with (first
    | (go_at_call 147; refine Calls.mono (HA.out _) ?_; rintro e w3 ⟨rfl, hf3⟩)
    | fail)
  exact HQ.out _ _ _ _ _ _ _ _ (hN.trans hf3)
/-- The seven cells of a row. -/
def set7 (w : World) (g o : Nat) (a b c d e f h : Value) : World := ((((((w.setCell ⟨g, o, none⟩ a).setCell ⟨g, o + 1, none⟩ b).setCell ⟨g, o + 2, none⟩ c).setCell ⟨g, o + 3, none⟩ d).setCell ⟨g, o + 4, none⟩ e).setCell ⟨g, o + 5, none⟩ f).setCell ⟨g, o + 6, none⟩ h
theorem set7_fr (w : World) (g o : Nat) (a b c d e f h : Value) : Fr (· = g) w (set7 w g o a b c d e f h) := (((((((Fr.refl (· = g) w).setCell (fun _ => rfl) _ _).setCell (fun _ => rfl) _ _).setCell (fun _ => rfl) _ _).setCell (fun _ => rfl) _ _).setCell (fun _ => rfl) _ _).setCell (fun _ => rfl) _ _).setCell (fun _ => rfl) _ _
theorem allR_set (R : List RefM) (i : Nat) (r r' : RefM) (h : R[i]? = some r) : ((((((((allR R).set (i * 7) (.int .i64 r'.1.id)).set (i * 7 + 1) r'.2.1).set (i * 7 + 2) (.int .i64 r'.1.st)).set (i * 7 + 3) (.int .i64 r'.1.step)).set (i * 7 + 4) (.int .i64 r'.1.tries)).set (i * 7 + 5) (.int .i64 r'.1.due)).set (i * 7 + 6) r'.2.2) = allR (R.set i r') := by
  induction R generalizing i with
  | nil => simp at h
  | cons a R ih =>
    cases i with
    | zero => simp [allR, rCells]
    | succ i =>
      have ih := ih i (by simpa using h)
      have e : ∀ (x : RefM) (L : List RefM), allR (x :: L) = .int .i64 x.1.id :: x.2.1 :: .int .i64 x.1.st :: .int .i64 x.1.step :: .int .i64 x.1.tries :: .int .i64 x.1.due :: x.2.2 :: allR L := fun x L => by simp [allR, rCells]
      rw [List.set_cons_succ, e, e, ← ih]
      have f : ∀ j, (i + 1) * 7 + j = (i * 7 + j) + 1 + 1 + 1 + 1 + 1 + 1 + 1 := fun j => by omega
      have f0 : (i + 1) * 7 = (i * 7) + 1 + 1 + 1 + 1 + 1 + 1 + 1 := by omega
      rw [f 1, f 2, f 3, f 4, f 5, f 6, f0]
      simp only [List.set_cons_succ]
theorem RefAt.set {w : World} {B g c i : Nat} {R : List RefM} {r r' : RefM} (h : RefAt w B (.slice (some ⟨g, 0, none⟩) R.length c) R) (hr : R[i]? = some r) (hok : RefOk w r') :
    RefAt (set7 w g (i * 7) (.int .i64 r'.1.id) r'.2.1 (.int .i64 r'.1.st) (.int .i64 r'.1.step) (.int .i64 r'.1.tries) (.int .i64 r'.1.due) r'.2.2) B (.slice (some ⟨g, 0, none⟩) R.length c) (R.set i r') := by
  have hfr := set7_fr w g (i * 7) (.int .i64 r'.1.id) r'.2.1 (.int .i64 r'.1.st) (.int .i64 r'.1.step) (.int .i64 r'.1.tries) (.int .i64 r'.1.due) r'.2.2
  have hS : ∀ k, k = g → ∃ o, w.heap[k]? = some o ∧ kindOf o ∉ [193, 221] := by
    rintro k rfl
    obtain ⟨cc, hc⟩ := own_cells h.own rfl
    exact ⟨_, hc, by simp [kindOf]⟩
  refine ⟨?_, fun x hx => ?_⟩
  · rw [List.length_set, ← allR_set R i r r' hr]
    exact (((((((h.own.stored _ _).1.stored _ _).1.stored _ _).1.stored _ _).1.stored _ _).1.stored _ _).1.stored _ _).1
  · have hx' : x = r' ∨ x ∈ R := by
      rcases List.mem_or_eq_of_mem_set hx with h1 | h1
      · exact .inr h1
      · exact .inl h1
    rcases hx' with rfl | hx
    · exact hok.fr hfr hS
    · exact (h.ok x hx).fr hfr hS
theorem okPut7 {w : World} {gb o : Nat} {cs : Array Value} {a b c d e : Int} {sa ma : Option Addr} {sn sc mn mc : Nat} (hg : w.heap[gb]? = some (.cells cs 223 (0, 0))) (ho : o + 6 < cs.size) :
    okPut Tryz.prog 223 w (.pointer (some ⟨gb, o, none⟩)) (.agg #[.int .i64 a, .slice sa sn sc, .int .i64 b, .int .i64 c, .int .i64 d, .int .i64 e, .slice ma mn mc]) :=
  ⟨gb, o, _, rfl, rfl, there_of_cells hg (show o + 7 ≤ cs.size by omega), Tryz.info223s, by simp [Value.oneCell']⟩
noncomputable def tkdR22 : Code := ((Tryz.f113.body).bind (regionAt 22)).getD .skip
set_option maxRecDepth 100000 in
set_option maxHeartbeats 8000000 in
/-- d.r.L[i] = s.Vain(d.r.Clock, d.r.Pause) -/
theorem tkd_r22 (kb sb gb i n c : Nat) (g : SagaM) (sa ma : Option Addr) (sn sc mn mc : Nat) (pz ck : Int) (d0 d1 d2 d3 d4 d5 d8 : Value) (cs : Array Value) (W : World)
    (hk : W.heap[kb]? = some (.cells #[d0, d1, d2, d3, d4, d5, .int .i64 pz, .int .i64 ck, d8, .slice (some ⟨gb, 0, none⟩) n c] 165 (0, 0))) (hs : W.heap[sb]? = some (.cells #[.int .i64 g.id, .slice sa sn sc, .int .i64 g.st, .int .i64 g.step, .int .i64 g.tries, .int .i64 g.due, .slice ma mn mc] 223 (0, 0)))
    (hsg : ¬ sb = gb) (hg : W.heap[gb]? = some (.cells cs 223 (0, 0))) (hi : i < n) (hcs : i * 7 + 6 < cs.size) (hp : 1 ≤ pz ∧ pz ≤ 64) (ht : 0 ≤ g.tries ∧ g.tries < 2 ^ 30)
    {ds : List Deferred} {x1 x2 x3 x4 x5 x6 x7 x8 x9 x10 x11 x14 x15 x16 x17 x18 x19 x20 x21 x22 x23 x24 x25 x26 x27 x28 x29 x30 x31 x32 x33 x34 x35 x36 x37 x38 x39 x40 x41 x42 x43 x44 x45 x46 x47 x48 x49 x50 x51 x52 x53 x54 x55 x56 x57 x58 x59 x60 x61 x62 x63 x64 x65 x66 x67 x68 x69 x70 x71 x72 x73 x74 x75 x76 x77 x78 x79 x80 x81 x82 x83 x84 x85 x86 x87 x88 x89 x90 x91 x92 x93 x94 x95 x96 x97 x98 x99 x100 x101 x102 x103 x104 x105 x106 x107 x108 x109 x110 x111 x112 x113 x114 x115 x116 x117 x118 x119 x120 x121 x122 x123 x124 x125 x126 x127 x128 x129 x130 x131 x132 x133 x134 x135 x136 x137 x138 x139 x140 x141 x142 x143 x144 x145 x146 x147 x148 x149 x150 x151 x152 x153 x154 x155 x156 x157 x158 x159 x160 x161 x162 x163 x164 x165 x166 x167 x168 x169 x170 x171 x172 x173 x174 x175 x176 x177 x178 x179 x180 x181 x182 x183 x184 x185 x186 x187 x188 x189 x190 x191 x192 x193 x194 x195 x196 x197 x198 x199 x200 x201 x202 x203 x204 x205 x206 x207 x208 x209 x210 x211 x212 x213 x214 x215 x216 x217 x218 x219 x220 x221 : Value} {Q : Exit → Act → World → Prop}
    (hQ : ∀ (y134 y135 y136 y137 y138 y139 y140 y141 y142 y143 y144 y145 y146 y147 y148 y149 y150 y151 y152 : Value) (w3 : World), New W w3 → Q .normal ⟨#[.pointer (some ⟨kb, 0, none⟩), x1,x2,x3,x4,x5,x6,x7,x8,x9,x10,x11, .int .i64 i, .pointer (some ⟨sb, 0, none⟩), x14,x15,x16,x17,x18,x19,x20,x21,x22,x23,x24,x25,x26,x27,x28,x29,x30,x31,x32,x33,x34,x35,x36,x37,x38,x39,x40,x41,x42,x43,x44,x45,x46,x47,x48,x49,x50,x51,x52,x53,x54,x55,x56,x57,x58,x59,x60,x61,x62,x63,x64,x65,x66,x67,x68,x69,x70,x71,x72,x73,x74,x75,x76,x77,x78,x79,x80,x81,x82,x83,x84,x85,x86,x87,x88,x89,x90,x91,x92,x93,x94,x95,x96,x97,x98,x99,x100,x101,x102,x103,x104,x105,x106,x107,x108,x109,x110,x111,x112,x113,x114,x115,x116,x117,x118,x119,x120,x121,x122,x123,x124,x125,x126,x127,x128,x129,x130,x131,x132,x133,y134,y135,y136,y137,y138,y139,y140,y141,y142,y143,y144,y145,y146,y147,y148,y149,y150,y151,y152,x153,x154,x155,x156,x157,x158,x159,x160,x161,x162,x163,x164,x165,x166,x167,x168,x169,x170,x171,x172,x173,x174,x175,x176,x177,x178,x179,x180,x181,x182,x183,x184,x185,x186,x187,x188,x189,x190,x191,x192,x193,x194,x195,x196,x197,x198,x199,x200,x201,x202,x203,x204,x205,x206,x207,x208,x209,x210,x211,x212,x213,x214,x215,x216,x217,x218,x219,x220,x221], ds⟩ (set7 w3 gb (i * 7) (.int .i64 g.id) (.slice sa sn sc) (.int .i64 g.st) (.int .i64 g.step) (.int .i64 (g.paused ck pz).tries) (.int .i64 (g.paused ck pz).due) (.slice ma mn mc))) :
    Code.wp Tryz.prog tkdR22 Q ⟨#[.pointer (some ⟨kb, 0, none⟩), x1,x2,x3,x4,x5,x6,x7,x8,x9,x10,x11, .int .i64 i, .pointer (some ⟨sb, 0, none⟩), x14,x15,x16,x17,x18,x19,x20,x21,x22,x23,x24,x25,x26,x27,x28,x29,x30,x31,x32,x33,x34,x35,x36,x37,x38,x39,x40,x41,x42,x43,x44,x45,x46,x47,x48,x49,x50,x51,x52,x53,x54,x55,x56,x57,x58,x59,x60,x61,x62,x63,x64,x65,x66,x67,x68,x69,x70,x71,x72,x73,x74,x75,x76,x77,x78,x79,x80,x81,x82,x83,x84,x85,x86,x87,x88,x89,x90,x91,x92,x93,x94,x95,x96,x97,x98,x99,x100,x101,x102,x103,x104,x105,x106,x107,x108,x109,x110,x111,x112,x113,x114,x115,x116,x117,x118,x119,x120,x121,x122,x123,x124,x125,x126,x127,x128,x129,x130,x131,x132,x133,x134,x135,x136,x137,x138,x139,x140,x141,x142,x143,x144,x145,x146,x147,x148,x149,x150,x151,x152,x153,x154,x155,x156,x157,x158,x159,x160,x161,x162,x163,x164,x165,x166,x167,x168,x169,x170,x171,x172,x173,x174,x175,x176,x177,x178,x179,x180,x181,x182,x183,x184,x185,x186,x187,x188,x189,x190,x191,x192,x193,x194,x195,x196,x197,x198,x199,x200,x201,x202,x203,x204,x205,x206,x207,x208,x209,x210,x211,x212,x213,x214,x215,x216,x217,x218,x219,x220,x221], ds⟩ W := by
  have hkg : ¬ kb = gb := ne_of_kind hk hg (by simp [kindOf])
  have HS : Hid (∀ w', Fr (· = gb) W w' → w'.cell? ⟨kb, 6, none⟩ = some (.int .i64 pz) ∧ w'.cell? ⟨kb, 7, none⟩ = some (.int .i64 ck) ∧ w'.cell? ⟨kb, 9, none⟩ = some (.slice (some ⟨gb, 0, none⟩) n c) ∧ w'.cell? ⟨sb, 0, none⟩ = some (.int .i64 g.id) ∧ w'.cell? ⟨sb, 1, none⟩ = some (.slice sa sn sc) ∧ w'.cell? ⟨sb, 2, none⟩ = some (.int .i64 g.st) ∧ w'.cell? ⟨sb, 3, none⟩ = some (.int .i64 g.step) ∧ w'.cell? ⟨sb, 4, none⟩ = some (.int .i64 g.tries) ∧ w'.cell? ⟨sb, 5, none⟩ = some (.int .i64 g.due) ∧ w'.cell? ⟨sb, 6, none⟩ = some (.slice ma mn mc)) := by
    intro w' hf
    simp only [cellv, hf.get hk hkg, hf.get hs hsg]
    exact ⟨rfl, rfl, rfl, rfl, rfl, rfl, rfl, rfl, rfl, rfl⟩
  obtain ⟨s0, s1, s2, s3, s4, s5, s6, s7, s8, s9⟩ := HS.out W (Fr.refl _ _)
  have HQ := Lib.hid hQ
  have HG := Lib.hid hg
  have HV := Lib.hid (fun (w' : World) => VainR_calls w' g sa ma sn sc mn mc ck pz hp ht)
  have hiI : (i : Int) < n := by omega
  have hi0 : (0 : Int) ≤ i := by omega
  have Hcs := Lib.hid hcs
  clear hQ hg hcs hi hp ht hk hs hsg hkg
  conv => arg 2; whnf
  refine wp_region_noPanic ?_
  have hn0 : New W W.drew := (Fr.refl _ W).drew
  refine wp_region_held_drew (S := (fun w' => w'.cell? ⟨kb, 6, none⟩ = some (.int .i64 pz) ∧ w'.cell? ⟨kb, 7, none⟩ = some (.int .i64 ck) ∧ w'.cell? ⟨kb, 9, none⟩ = some (.slice (some ⟨gb, 0, none⟩) n c) ∧ w'.cell? ⟨sb, 0, none⟩ = some (.int .i64 g.id) ∧ w'.cell? ⟨sb, 1, none⟩ = some (.slice sa sn sc) ∧ w'.cell? ⟨sb, 2, none⟩ = some (.int .i64 g.st) ∧ w'.cell? ⟨sb, 3, none⟩ = some (.int .i64 g.step) ∧ w'.cell? ⟨sb, 4, none⟩ = some (.int .i64 g.tries) ∧ w'.cell? ⟨sb, 5, none⟩ = some (.int .i64 g.due) ∧ w'.cell? ⟨sb, 6, none⟩ = some (.slice ma mn mc))) (by kernel_rfl) (HS.out _ (hn0.mono (fun _ _ f => f.elim))) (fun hHeld => ?_)
  refine wpAnyH_take (i := 0) (v := ?va0) rfl (by kernel_rfl) (by kernel_rfl) (by kernel_rfl) (fun _ _ _ h => h) (Or.inl ⟨by rfl, ?ya0⟩) hHeld ?ra0
  case ya0 => intro w hSw; (try dsimp only at hSw); go_simp; (try with_reducible rfl)
  simp only [List.getElem_toArray, List.getElem_cons_zero, List.getElem_cons_succ, Act.put, List.setIfInBounds_toArray, List.set_cons_zero, List.set_cons_succ]
  refine wpAnyH_take (i := 1) (v := ?va1) rfl (by kernel_rfl) (by kernel_rfl) (by kernel_rfl) (fun _ _ _ h => h) (Or.inl ⟨by rfl, ?ya1⟩) hHeld ?ra1
  case ya1 => intro w hSw; (try dsimp only at hSw); go_simp; (try with_reducible rfl)
  simp only [List.getElem_toArray, List.getElem_cons_zero, List.getElem_cons_succ, Act.put, List.setIfInBounds_toArray, List.set_cons_zero, List.set_cons_succ]
  refine wpAnyH_take (i := 2) (v := ?va2) rfl (by kernel_rfl) (by kernel_rfl) (by kernel_rfl) (fun _ _ _ h => h) (Or.inl ⟨by rfl, ?ya2⟩) hHeld ?ra2
  case ya2 => intro w hSw; (try dsimp only at hSw); go_simp; (try with_reducible rfl)
  simp only [List.getElem_toArray, List.getElem_cons_zero, List.getElem_cons_succ, Act.put, List.setIfInBounds_toArray, List.set_cons_zero, List.set_cons_succ]
  refine wpAnyH_take (i := 3) (v := ?va3) rfl (by kernel_rfl) (by kernel_rfl) (by kernel_rfl) (fun _ _ _ h => h) (Or.inl ⟨by rfl, ?ya3⟩) hHeld ?ra3
  case ya3 => intro w hSw; (try dsimp only at hSw); go_simp; (try with_reducible rfl)
  simp only [List.getElem_toArray, List.getElem_cons_zero, List.getElem_cons_succ, Act.put, List.setIfInBounds_toArray, List.set_cons_zero, List.set_cons_succ]
  refine wpAnyH_take (i := 4) (v := ?va4) rfl (by kernel_rfl) (by kernel_rfl) (by kernel_rfl) (fun _ _ _ h => h) (Or.inl ⟨by rfl, ?ya4⟩) hHeld ?ra4
  case ya4 => intro w hSw; (try dsimp only at hSw); go_simp; (try with_reducible rfl)
  simp only [List.getElem_toArray, List.getElem_cons_zero, List.getElem_cons_succ, Act.put, List.setIfInBounds_toArray, List.set_cons_zero, List.set_cons_succ]
  refine wpAnyH_take (i := 5) (v := ?va5) rfl (by kernel_rfl) (by kernel_rfl) (by kernel_rfl) (fun _ _ _ h => h) (Or.inl ⟨by rfl, ?ya5⟩) hHeld ?ra5
  case ya5 => intro w hSw; (try dsimp only at hSw); go_simp; (try with_reducible rfl)
  simp only [List.getElem_toArray, List.getElem_cons_zero, List.getElem_cons_succ, Act.put, List.setIfInBounds_toArray, List.set_cons_zero, List.set_cons_succ]
  refine wpAnyH_take (i := 6) (v := ?va6) rfl (by kernel_rfl) (by kernel_rfl) (by kernel_rfl) (fun _ _ _ h => h) (Or.inl ⟨by rfl, ?ya6⟩) hHeld ?ra6
  case ya6 => intro w hSw; (try dsimp only at hSw); go_simp; (try with_reducible rfl)
  simp only [List.getElem_toArray, List.getElem_cons_zero, List.getElem_cons_succ, Act.put, List.setIfInBounds_toArray, List.set_cons_zero, List.set_cons_succ]
  refine wpAnyH_take (i := 7) (v := ?va7) rfl (by kernel_rfl) (by kernel_rfl) (by kernel_rfl) (fun _ _ _ h => h) (Or.inl ⟨by rfl, ?ya7⟩) hHeld ?ra7
  case ya7 => intro w hSw; (try dsimp only at hSw); go_simp; (try with_reducible rfl)
  simp only [List.getElem_toArray, List.getElem_cons_zero, List.getElem_cons_succ, Act.put, List.setIfInBounds_toArray, List.set_cons_zero, List.set_cons_succ]
  refine wpAnyH_take (i := 8) (v := ?va8) rfl (by kernel_rfl) (by kernel_rfl) (by kernel_rfl) (fun _ _ _ h => h) (Or.inl ⟨by rfl, ?ya8⟩) hHeld ?ra8
  case ya8 => intro w hSw; (try dsimp only at hSw); go_simp; (try with_reducible rfl)
  simp only [List.getElem_toArray, List.getElem_cons_zero, List.getElem_cons_succ, Act.put, List.setIfInBounds_toArray, List.set_cons_zero, List.set_cons_succ]
  refine wpAnyH_take (i := 9) (v := ?va9) rfl (by kernel_rfl) (by kernel_rfl) (by kernel_rfl) (fun _ _ _ h => h) (Or.inl ⟨by rfl, ?ya9⟩) hHeld ?ra9
  case ya9 => intro w hSw; (try dsimp only at hSw); go_simp; (try with_reducible rfl)
  simp only [List.getElem_toArray, List.getElem_cons_zero, List.getElem_cons_succ, Act.put, List.setIfInBounds_toArray, List.set_cons_zero, List.set_cons_succ]
  refine wpAnyH_take (i := 10) (v := ?va10) rfl (by kernel_rfl) (by kernel_rfl) (by kernel_rfl) (fun _ _ _ h => h) (Or.inl ⟨by rfl, ?ya10⟩) hHeld ?ra10
  case ya10 => intro w hSw; (try dsimp only at hSw); go_simp; (try with_reducible rfl)
  simp only [List.getElem_toArray, List.getElem_cons_zero, List.getElem_cons_succ, Act.put, List.setIfInBounds_toArray, List.set_cons_zero, List.set_cons_succ]
  refine wpAnyH_take (i := 11) (v := ?va11) rfl (by kernel_rfl) (by kernel_rfl) (by kernel_rfl) (fun _ _ _ h => h) (Or.inl ⟨by rfl, ?ya11⟩) hHeld ?ra11
  case ya11 => intro w hSw; (try dsimp only at hSw); go_simp; (try with_reducible rfl)
  simp only [List.getElem_toArray, List.getElem_cons_zero, List.getElem_cons_succ, Act.put, List.setIfInBounds_toArray, List.set_cons_zero, List.set_cons_succ]
  refine wpAnyH_take (i := 12) (v := ?va12) rfl (by kernel_rfl) (by kernel_rfl) (by kernel_rfl) (fun _ _ _ h => h) (Or.inl ⟨by rfl, ?ya12⟩) hHeld ?ra12
  case ya12 => intro w hSw; (try dsimp only at hSw); go_simp; (try with_reducible rfl)
  simp only [List.getElem_toArray, List.getElem_cons_zero, List.getElem_cons_succ, Act.put, List.setIfInBounds_toArray, List.set_cons_zero, List.set_cons_succ]
  refine wpAnyH_take (i := 13) (v := ?va13) rfl (by kernel_rfl) (by kernel_rfl) (by kernel_rfl) (fun _ _ _ h => h) (Or.inl ⟨by rfl, ?ya13⟩) hHeld ?ra13
  case ya13 => intro w hSw; (try dsimp only at hSw); go_simp; (try with_reducible rfl)
  simp only [List.getElem_toArray, List.getElem_cons_zero, List.getElem_cons_succ, Act.put, List.setIfInBounds_toArray, List.set_cons_zero, List.set_cons_succ]
  refine wpAnyH_take (i := 14) (v := ?va14) rfl (by kernel_rfl) (by kernel_rfl) (by kernel_rfl) (fun _ _ _ h => h) (Or.inl ⟨by rfl, ?ya14⟩) hHeld ?ra14
  case ya14 => intro w hSw; (try dsimp only at hSw); go_simp; (try with_reducible rfl)
  simp only [List.getElem_toArray, List.getElem_cons_zero, List.getElem_cons_succ, Act.put, List.setIfInBounds_toArray, List.set_cons_zero, List.set_cons_succ]
  refine wpAnyH_take (i := 15) (v := ?va15) rfl (by kernel_rfl) (by kernel_rfl) (by kernel_rfl) (fun _ _ _ h => h) (Or.inl ⟨by rfl, ?ya15⟩) hHeld ?ra15
  case ya15 => intro w hSw; (try dsimp only at hSw); go_simp; (try with_reducible rfl)
  simp only [List.getElem_toArray, List.getElem_cons_zero, List.getElem_cons_succ, Act.put, List.setIfInBounds_toArray, List.set_cons_zero, List.set_cons_succ]
  refine wpAnyH_take (i := 16) (v := ?va16) rfl (by kernel_rfl) (by kernel_rfl) (by kernel_rfl) (fun _ _ _ h => h) (Or.inl ⟨by rfl, ?ya16⟩) hHeld ?ra16
  case ya16 => intro w hSw; (try dsimp only at hSw); go_simp; (try with_reducible rfl)
  simp only [List.getElem_toArray, List.getElem_cons_zero, List.getElem_cons_succ, Act.put, List.setIfInBounds_toArray, List.set_cons_zero, List.set_cons_succ]
  refine wpAnyH_ready (rs := [17]) (by kernel_rfl) (by simp) ?_
  refine AllReadyH.cons rfl (fun K hK => ?_) AllReadyH.nil
  go_simp
  go_at_call 145
  refine Calls.mono (HV.out _) ?_
  rintro e w3 ⟨rfl, hf3⟩
  have hf3' := hn0.trans hf3
  refine Shut.out hK _ _ (HS.out _ (hf3'.mono (fun _ _ f => f.elim))) ?_
  clear hK K
  intro hHeld2
  try simp only [List.getElem_toArray, List.getElem_cons_zero, List.getElem_cons_succ, Act.put, List.setIfInBounds_toArray, List.set_cons_zero, List.set_cons_succ]
  refine wpAnyH_take (i := 18) (v := ?vc18) rfl (by kernel_rfl) (by kernel_rfl) (by kernel_rfl) (fun _ _ _ h => h) (Or.inl ⟨by rfl, ?yc18⟩) hHeld2 ?rc18
  case yc18 => intro w hSw; (try dsimp only at hSw); go_simp; (try with_reducible rfl)
  simp only [List.getElem_toArray, List.getElem_cons_zero, List.getElem_cons_succ, Act.put, List.setIfInBounds_toArray, List.set_cons_zero, List.set_cons_succ]
  have hp3 : okPut Tryz.prog 223 w3 (.pointer (some ⟨gb, i * 7, none⟩)) (.agg #[.int .i64 g.id, .slice sa sn sc, .int .i64 g.st, .int .i64 g.step, .int .i64 (g.paused ck pz).tries, .int .i64 (g.paused ck pz).due, .slice ma mn mc]) := okPut7 (hf3'.get HG.out (fun f => f)) Hcs.out
  refine wpAnyH_ready (rs := [19]) (by kernel_rfl) (by simp) ?_
  refine AllReadyH.cons rfl (fun K hK => ?_) AllReadyH.nil
  rw [if_pos (by kernel_rfl)]
  refine cast (wp_store_row' ?hput145).symm ?_
  case hput145 => exact hp3
  change K _ (set7 w3 gb (i * 7) (.int .i64 g.id) (.slice sa sn sc) (.int .i64 g.st) (.int .i64 g.step) (.int .i64 (g.paused ck pz).tries) (.int .i64 (g.paused ck pz).due) (.slice ma mn mc))
  refine Shut.out hK _ _ (HS.out _ ((hf3'.mono (fun _ _ f => f.elim)).trans (set7_fr w3 gb (i * 7) (.int .i64 g.id) (.slice sa sn sc) (.int .i64 g.st) (.int .i64 g.step) (.int .i64 (g.paused ck pz).tries) (.int .i64 (g.paused ck pz).due) (.slice ma mn mc)))) ?_
  clear hK K
  intro hHeld3
  try simp only [List.getElem_toArray, List.getElem_cons_zero, List.getElem_cons_succ, Act.put, List.setIfInBounds_toArray, List.set_cons_zero, List.set_cons_succ]
  refine wpAnyH_done (by kernel_rfl) ?_ _
  refine NoPanic.normal ?_
  exact HQ.out _ _ _ _ _ _ _ _ _ _ _ _ _ _ _ _ _ _ _ _ hf3'
noncomputable def tkdR33 : Code := ((Tryz.f113.body).bind (regionAt 33)).getD .skip
set_option maxRecDepth 100000 in
set_option maxHeartbeats 8000000 in
/-- d.r.L[i] = d.replied(s, reply, cut) -/
theorem tkd_r33 (kb sb gb i n c : Nat) (g : SagaM) (sa : Option Addr) (sc : Nat) (mv : Value) (pz ck rp : Int) (d0 d1 d2 d3 d4 d5 : Value) (cs : Array Value) (W : World)
    (hk : W.heap[kb]? = some (.cells #[d0, d1, d2, d3, d4, d5, .int .i64 pz, .int .i64 ck, .bool false, .slice (some ⟨gb, 0, none⟩) n c] 165 (0, 0))) (hs : W.heap[sb]? = some (.cells #[.int .i64 g.id, .slice sa g.steps.length sc, .int .i64 g.st, .int .i64 g.step, .int .i64 g.tries, .int .i64 g.due, mv] 223 (0, 0)))
    (hsg : ¬ sb = gb) (hg : W.heap[gb]? = some (.cells cs 223 (0, 0))) (hi : i < n) (hcs : i * 7 + 6 < cs.size) (hp : 1 ≤ pz ∧ pz ≤ 64) (ht : 0 ≤ g.tries ∧ g.tries < 2 ^ 30) (hsp : 1 ≤ g.step ∧ g.step ≤ g.steps.length) (hl : g.steps.length ≤ 1000) (hm : MayR W mv g.st g.step)
    {ds : List Deferred} {x1 x2 x3 x4 x5 x6 x7 x8 x9 x10 x11 x14 x15 x16 x19 x20 x21 x22 x23 x24 x25 x26 x27 x28 x29 x30 x31 x32 x33 x34 x35 x36 x37 x38 x39 x40 x41 x42 x43 x44 x45 x46 x47 x48 x49 x50 x51 x52 x53 x54 x55 x56 x57 x58 x59 x60 x61 x62 x63 x64 x65 x66 x67 x68 x69 x70 x71 x72 x73 x74 x75 x76 x77 x78 x79 x80 x81 x82 x83 x84 x85 x86 x87 x88 x89 x90 x91 x92 x93 x94 x95 x96 x97 x98 x99 x100 x101 x102 x103 x104 x105 x106 x107 x108 x109 x110 x111 x112 x113 x114 x115 x116 x117 x118 x119 x120 x121 x122 x123 x124 x125 x126 x127 x128 x129 x130 x131 x132 x133 x134 x135 x136 x137 x138 x139 x140 x141 x142 x143 x144 x145 x146 x147 x148 x149 x150 x151 x152 x153 x154 x155 x156 x157 x158 x159 x160 x161 x162 x163 x164 x165 x166 x167 x168 x169 x170 x171 x172 x173 x174 x175 x176 x177 x178 x179 x180 x181 x182 x183 x184 x185 x186 x187 x188 x189 x190 x191 x192 x193 x194 x195 x196 x197 x198 x199 x200 x201 x202 x203 x204 x205 x206 x207 x208 x209 x210 x211 x212 x213 x214 x215 x216 x217 x218 x219 x220 x221 : Value} {Q : Exit → Act → World → Prop}
    (hQ : ∀ (y189 y190 y191 y192 y193 y194 y195 y196 y197 y198 y199 y200 : Value) (w3 : World) (mv' : Value), New W w3 → MayR w3 mv' (g.after ck pz rp).st (g.after ck pz rp).step → Q .normal ⟨#[.pointer (some ⟨kb, 0, none⟩), x1,x2,x3,x4,x5,x6,x7,x8,x9,x10,x11, .int .i64 i, .pointer (some ⟨sb, 0, none⟩), x14,x15,x16, .int .i64 rp, .bool false, x19,x20,x21,x22,x23,x24,x25,x26,x27,x28,x29,x30,x31,x32,x33,x34,x35,x36,x37,x38,x39,x40,x41,x42,x43,x44,x45,x46,x47,x48,x49,x50,x51,x52,x53,x54,x55,x56,x57,x58,x59,x60,x61,x62,x63,x64,x65,x66,x67,x68,x69,x70,x71,x72,x73,x74,x75,x76,x77,x78,x79,x80,x81,x82,x83,x84,x85,x86,x87,x88,x89,x90,x91,x92,x93,x94,x95,x96,x97,x98,x99,x100,x101,x102,x103,x104,x105,x106,x107,x108,x109,x110,x111,x112,x113,x114,x115,x116,x117,x118,x119,x120,x121,x122,x123,x124,x125,x126,x127,x128,x129,x130,x131,x132,x133,x134,x135,x136,x137,x138,x139,x140,x141,x142,x143,x144,x145,x146,x147,x148,x149,x150,x151,x152,x153,x154,x155,x156,x157,x158,x159,x160,x161,x162,x163,x164,x165,x166,x167,x168,x169,x170,x171,x172,x173,x174,x175,x176,x177,x178,x179,x180,x181,x182,x183,x184,x185,x186,x187,x188,y189,y190,y191,y192,y193,y194,y195,y196,y197,y198,y199,y200,x201,x202,x203,x204,x205,x206,x207,x208,x209,x210,x211,x212,x213,x214,x215,x216,x217,x218,x219,x220,x221], ds⟩ (set7 w3 gb (i * 7) (.int .i64 g.id) (.slice sa g.steps.length sc) (.int .i64 (g.after ck pz rp).st) (.int .i64 (g.after ck pz rp).step) (.int .i64 (g.after ck pz rp).tries) (.int .i64 (g.after ck pz rp).due) mv')) :
    Code.wp Tryz.prog tkdR33 Q ⟨#[.pointer (some ⟨kb, 0, none⟩), x1,x2,x3,x4,x5,x6,x7,x8,x9,x10,x11, .int .i64 i, .pointer (some ⟨sb, 0, none⟩), x14,x15,x16, .int .i64 rp, .bool false, x19,x20,x21,x22,x23,x24,x25,x26,x27,x28,x29,x30,x31,x32,x33,x34,x35,x36,x37,x38,x39,x40,x41,x42,x43,x44,x45,x46,x47,x48,x49,x50,x51,x52,x53,x54,x55,x56,x57,x58,x59,x60,x61,x62,x63,x64,x65,x66,x67,x68,x69,x70,x71,x72,x73,x74,x75,x76,x77,x78,x79,x80,x81,x82,x83,x84,x85,x86,x87,x88,x89,x90,x91,x92,x93,x94,x95,x96,x97,x98,x99,x100,x101,x102,x103,x104,x105,x106,x107,x108,x109,x110,x111,x112,x113,x114,x115,x116,x117,x118,x119,x120,x121,x122,x123,x124,x125,x126,x127,x128,x129,x130,x131,x132,x133,x134,x135,x136,x137,x138,x139,x140,x141,x142,x143,x144,x145,x146,x147,x148,x149,x150,x151,x152,x153,x154,x155,x156,x157,x158,x159,x160,x161,x162,x163,x164,x165,x166,x167,x168,x169,x170,x171,x172,x173,x174,x175,x176,x177,x178,x179,x180,x181,x182,x183,x184,x185,x186,x187,x188,x189,x190,x191,x192,x193,x194,x195,x196,x197,x198,x199,x200,x201,x202,x203,x204,x205,x206,x207,x208,x209,x210,x211,x212,x213,x214,x215,x216,x217,x218,x219,x220,x221], ds⟩ W := by
  obtain ⟨ma, mn, mc, rfl⟩ : ∃ ma mn mc, mv = .slice ma mn mc := by
    obtain ⟨b, cap, c, h1, _⟩ := hm
    exact ⟨_, _, _, h1⟩
  have hkg : ¬ kb = gb := ne_of_kind hk hg (by simp [kindOf])
  have HS : Hid (∀ w', Fr (· = gb) W w' → w'.cell? ⟨kb, 6, none⟩ = some (.int .i64 pz) ∧ w'.cell? ⟨kb, 7, none⟩ = some (.int .i64 ck) ∧ w'.cell? ⟨kb, 9, none⟩ = some (.slice (some ⟨gb, 0, none⟩) n c) ∧ w'.cell? ⟨sb, 0, none⟩ = some (.int .i64 g.id) ∧ w'.cell? ⟨sb, 1, none⟩ = some (.slice sa g.steps.length sc) ∧ w'.cell? ⟨sb, 2, none⟩ = some (.int .i64 g.st) ∧ w'.cell? ⟨sb, 3, none⟩ = some (.int .i64 g.step) ∧ w'.cell? ⟨sb, 4, none⟩ = some (.int .i64 g.tries) ∧ w'.cell? ⟨sb, 5, none⟩ = some (.int .i64 g.due) ∧ w'.cell? ⟨sb, 6, none⟩ = some (.slice ma mn mc)) := by
    intro w' hf
    simp only [cellv, hf.get hk hkg, hf.get hs hsg]
    exact ⟨rfl, rfl, rfl, rfl, rfl, rfl, rfl, rfl, rfl, rfl⟩
  obtain ⟨s0, s1, s2, s3, s4, s5, s6, s7, s8, s9⟩ := HS.out W (Fr.refl _ _)
  have HQ := Lib.hid hQ
  have HG := Lib.hid hg
  have Hk := Lib.hid hk
  have HV := Lib.hid (fun (w' : World) (hf : New W w') => replied_calls (rp := rp) (sa := sa) (sc := sc) (hf.get hk (fun f => f)) hp ht hsp hl (by
    obtain ⟨b, cap, c, h1, h2, h3⟩ := hm
    exact ⟨b, cap, c, h1, hf.get h2 (fun f => f), h3⟩))
  have hiI : (i : Int) < n := by omega
  have hi0 : (0 : Int) ≤ i := by omega
  have Hcs := Lib.hid hcs
  clear hQ hg hcs hi hp ht hsp hl hm hk hs hsg hkg
  conv => arg 2; whnf
  refine wp_region_noPanic ?_
  have hn0 : New W W.drew := (Fr.refl _ W).drew
  have HVd := Lib.hid (HV.out _ hn0)
  refine wp_region_held_drew (S := (fun w' => w'.cell? ⟨kb, 6, none⟩ = some (.int .i64 pz) ∧ w'.cell? ⟨kb, 7, none⟩ = some (.int .i64 ck) ∧ w'.cell? ⟨kb, 9, none⟩ = some (.slice (some ⟨gb, 0, none⟩) n c) ∧ w'.cell? ⟨sb, 0, none⟩ = some (.int .i64 g.id) ∧ w'.cell? ⟨sb, 1, none⟩ = some (.slice sa g.steps.length sc) ∧ w'.cell? ⟨sb, 2, none⟩ = some (.int .i64 g.st) ∧ w'.cell? ⟨sb, 3, none⟩ = some (.int .i64 g.step) ∧ w'.cell? ⟨sb, 4, none⟩ = some (.int .i64 g.tries) ∧ w'.cell? ⟨sb, 5, none⟩ = some (.int .i64 g.due) ∧ w'.cell? ⟨sb, 6, none⟩ = some (.slice ma mn mc))) (by kernel_rfl) (HS.out _ (hn0.mono (fun _ _ f => f.elim))) (fun hHeld => ?_)
  refine wpAnyH_take (i := 0) (v := ?va0) rfl (by kernel_rfl) (by kernel_rfl) (by kernel_rfl) (fun _ _ _ h => h) (Or.inl ⟨by rfl, ?ya0⟩) hHeld ?ra0
  case ya0 => intro w hSw; (try dsimp only at hSw); go_simp; (try with_reducible rfl)
  simp only [List.getElem_toArray, List.getElem_cons_zero, List.getElem_cons_succ, Act.put, List.setIfInBounds_toArray, List.set_cons_zero, List.set_cons_succ]
  refine wpAnyH_take (i := 1) (v := ?va1) rfl (by kernel_rfl) (by kernel_rfl) (by kernel_rfl) (fun _ _ _ h => h) (Or.inl ⟨by rfl, ?ya1⟩) hHeld ?ra1
  case ya1 => intro w hSw; (try dsimp only at hSw); go_simp; (try with_reducible rfl)
  simp only [List.getElem_toArray, List.getElem_cons_zero, List.getElem_cons_succ, Act.put, List.setIfInBounds_toArray, List.set_cons_zero, List.set_cons_succ]
  refine wpAnyH_take (i := 2) (v := ?va2) rfl (by kernel_rfl) (by kernel_rfl) (by kernel_rfl) (fun _ _ _ h => h) (Or.inl ⟨by rfl, ?ya2⟩) hHeld ?ra2
  case ya2 => intro w hSw; (try dsimp only at hSw); go_simp; (try with_reducible rfl)
  simp only [List.getElem_toArray, List.getElem_cons_zero, List.getElem_cons_succ, Act.put, List.setIfInBounds_toArray, List.set_cons_zero, List.set_cons_succ]
  refine wpAnyH_take (i := 3) (v := ?va3) rfl (by kernel_rfl) (by kernel_rfl) (by kernel_rfl) (fun _ _ _ h => h) (Or.inl ⟨by rfl, ?ya3⟩) hHeld ?ra3
  case ya3 => intro w hSw; (try dsimp only at hSw); go_simp; (try with_reducible rfl)
  simp only [List.getElem_toArray, List.getElem_cons_zero, List.getElem_cons_succ, Act.put, List.setIfInBounds_toArray, List.set_cons_zero, List.set_cons_succ]
  refine wpAnyH_take (i := 4) (v := ?va4) rfl (by kernel_rfl) (by kernel_rfl) (by kernel_rfl) (fun _ _ _ h => h) (Or.inl ⟨by rfl, ?ya4⟩) hHeld ?ra4
  case ya4 => intro w hSw; (try dsimp only at hSw); go_simp; (try with_reducible rfl)
  simp only [List.getElem_toArray, List.getElem_cons_zero, List.getElem_cons_succ, Act.put, List.setIfInBounds_toArray, List.set_cons_zero, List.set_cons_succ]
  refine wpAnyH_take (i := 5) (v := ?va5) rfl (by kernel_rfl) (by kernel_rfl) (by kernel_rfl) (fun _ _ _ h => h) (Or.inl ⟨by rfl, ?ya5⟩) hHeld ?ra5
  case ya5 => intro w hSw; (try dsimp only at hSw); go_simp; (try with_reducible rfl)
  simp only [List.getElem_toArray, List.getElem_cons_zero, List.getElem_cons_succ, Act.put, List.setIfInBounds_toArray, List.set_cons_zero, List.set_cons_succ]
  refine wpAnyH_take (i := 6) (v := ?va6) rfl (by kernel_rfl) (by kernel_rfl) (by kernel_rfl) (fun _ _ _ h => h) (Or.inl ⟨by rfl, ?ya6⟩) hHeld ?ra6
  case ya6 => intro w hSw; (try dsimp only at hSw); go_simp; (try with_reducible rfl)
  simp only [List.getElem_toArray, List.getElem_cons_zero, List.getElem_cons_succ, Act.put, List.setIfInBounds_toArray, List.set_cons_zero, List.set_cons_succ]
  refine wpAnyH_take (i := 7) (v := ?va7) rfl (by kernel_rfl) (by kernel_rfl) (by kernel_rfl) (fun _ _ _ h => h) (Or.inl ⟨by rfl, ?ya7⟩) hHeld ?ra7
  case ya7 => intro w hSw; (try dsimp only at hSw); go_simp; (try with_reducible rfl)
  simp only [List.getElem_toArray, List.getElem_cons_zero, List.getElem_cons_succ, Act.put, List.setIfInBounds_toArray, List.set_cons_zero, List.set_cons_succ]
  refine wpAnyH_take (i := 8) (v := ?va8) rfl (by kernel_rfl) (by kernel_rfl) (by kernel_rfl) (fun _ _ _ h => h) (Or.inl ⟨by rfl, ?ya8⟩) hHeld ?ra8
  case ya8 => intro w hSw; (try dsimp only at hSw); go_simp; (try with_reducible rfl)
  simp only [List.getElem_toArray, List.getElem_cons_zero, List.getElem_cons_succ, Act.put, List.setIfInBounds_toArray, List.set_cons_zero, List.set_cons_succ]
  refine wpAnyH_take (i := 9) (v := ?va9) rfl (by kernel_rfl) (by kernel_rfl) (by kernel_rfl) (fun _ _ _ h => h) (Or.inl ⟨by rfl, ?ya9⟩) hHeld ?ra9
  case ya9 => intro w hSw; (try dsimp only at hSw); go_simp; (try with_reducible rfl)
  simp only [List.getElem_toArray, List.getElem_cons_zero, List.getElem_cons_succ, Act.put, List.setIfInBounds_toArray, List.set_cons_zero, List.set_cons_succ]
  refine wpAnyH_ready (rs := [10]) (by kernel_rfl) (by simp) ?_
  refine AllReadyH.cons rfl (fun K hK => ?_) AllReadyH.nil
  go_simp
  go_at_call 148
  refine Calls.mono HVd.out ?_
  rintro e w3 ⟨hf3, mv', rfl, hm3⟩; obtain ⟨mb', mc', mcs', rfl, hmh⟩ := hm3
  have hf3' := hn0.trans hf3
  refine Shut.out hK _ _ (HS.out _ (hf3'.mono (fun _ _ f => f.elim))) ?_
  clear hK K
  intro hHeld2
  try simp only [List.getElem_toArray, List.getElem_cons_zero, List.getElem_cons_succ, Act.put, List.setIfInBounds_toArray, List.set_cons_zero, List.set_cons_succ]
  refine wpAnyH_take (i := 11) (v := ?vc11) rfl (by kernel_rfl) (by kernel_rfl) (by kernel_rfl) (fun _ _ _ h => h) (Or.inl ⟨by rfl, ?yc11⟩) hHeld2 ?rc11
  case yc11 => intro w hSw; (try dsimp only at hSw); go_simp; (try with_reducible rfl)
  simp only [List.getElem_toArray, List.getElem_cons_zero, List.getElem_cons_succ, Act.put, List.setIfInBounds_toArray, List.set_cons_zero, List.set_cons_succ]
  have hp3 : okPut Tryz.prog 223 w3 (.pointer (some ⟨gb, i * 7, none⟩)) (.agg #[.int .i64 g.id, .slice sa g.steps.length sc, .int .i64 (g.after ck pz rp).st, .int .i64 (g.after ck pz rp).step, .int .i64 (g.after ck pz rp).tries, .int .i64 (g.after ck pz rp).due, .slice (some ⟨mb', 0, none⟩) 1 mc']) := okPut7 (hf3'.get HG.out (fun f => f)) Hcs.out
  refine wpAnyH_ready (rs := [12]) (by kernel_rfl) (by simp) ?_
  refine AllReadyH.cons rfl (fun K hK => ?_) AllReadyH.nil
  rw [if_pos (by kernel_rfl)]
  refine cast (wp_store_row' ?hput148).symm ?_
  case hput148 => exact hp3
  change K _ (set7 w3 gb (i * 7) (.int .i64 g.id) (.slice sa g.steps.length sc) (.int .i64 (g.after ck pz rp).st) (.int .i64 (g.after ck pz rp).step) (.int .i64 (g.after ck pz rp).tries) (.int .i64 (g.after ck pz rp).due) (.slice (some ⟨mb', 0, none⟩) 1 mc'))
  refine Shut.out hK _ _ (HS.out _ ((hf3'.mono (fun _ _ f => f.elim)).trans (set7_fr w3 gb (i * 7) (.int .i64 g.id) (.slice sa g.steps.length sc) (.int .i64 (g.after ck pz rp).st) (.int .i64 (g.after ck pz rp).step) (.int .i64 (g.after ck pz rp).tries) (.int .i64 (g.after ck pz rp).due) (.slice (some ⟨mb', 0, none⟩) 1 mc')))) ?_
  clear hK K
  intro hHeld3
  try simp only [List.getElem_toArray, List.getElem_cons_zero, List.getElem_cons_succ, Act.put, List.setIfInBounds_toArray, List.set_cons_zero, List.set_cons_succ]
  refine wpAnyH_done (by kernel_rfl) ?_ _
  refine NoPanic.normal ?_
  exact HQ.out _ _ _ _ _ _ _ _ _ _ _ _ _ _ hf3' ⟨_, _, _, rfl, hmh⟩
end Go.Proofs.YtkafmfdipmhleaaGreatDoor

namespace Go.Proofs.YtkafmfdipmhleaaGreatDoor
open Go.RowKit Go.Maps
/-- How many calls are in the log when the first k had their turn. -/
def logN (f : Bool) (clock : Int) (l : List SagaM) (k : Nat) : Nat := if f then 0 else waitN clock l k
theorem tick_log {od : RD} {e : EngR} {f : Bool} (hea : e.a = if f then askF else askP) : ((od.st e).tickA e.a).p.log.length = od.p.log.length + logN f (od.ck + 1) (sagasOf od.R) (sagasOf od.R).length := by
  rw [(tickA_turns e.a (od.st e)).2, hea]
  cases f
  · exact log_len _ _ _ _ _
  · simp only [if_true, part_f]; rfl
theorem logCells_at (l : List (CallM × Int)) (k : Nat) (c : CallM) (rp : Int) (h : l[k]? = some (c, rp)) : (logCells l)[k * 5]? = some (.int .i64 c.saga) ∧ (logCells l)[k * 5 + 1]? = some (.int .i64 c.step) ∧ (logCells l)[k * 5 + 2]? = some (.bool c.back) ∧ (logCells l)[k * 5 + 3]? = some (.string c.data) ∧ (logCells l)[k * 5 + 4]? = some (.int .i64 rp) := by
  induction l generalizing k with
  | nil => simp at h
  | cons a l ih =>
    have e : logCells (a :: l) = .int .i64 a.1.saga :: .int .i64 a.1.step :: .bool a.1.back :: .string a.1.data :: .int .i64 a.2 :: logCells l := by simp [logCells, CallM.cells]
    cases k with
    | zero =>
      simp at h
      subst h
      rw [e]
      exact ⟨rfl, rfl, rfl, rfl, rfl⟩
    | succ k =>
      have ih := ih k (by simpa using h)
      have f : ∀ j, (k + 1) * 5 + j = (k * 5 + j) + 1 + 1 + 1 + 1 + 1 := fun j => by omega
      have f0 : (k + 1) * 5 = (k * 5) + 1 + 1 + 1 + 1 + 1 := by omega
      rw [e, f 1, f 2, f 3, f 4, f0]
      simp only [List.getElem?_cons_succ]
      exact ih
/-- The log's cells. -/
theorem log_cells {w : World} {B g n cap : Nat} {l : List (CallM × Int)} (h : w.ownsRow B 48 5 (.slice (some ⟨g, 0, none⟩) n cap) n (logCells l)) (hn : n = l.length) : ∃ cs, w.heap[g]? = some (.cells cs 48 (0, 0)) ∧ ∀ k c rp, l[k]? = some (c, rp) → cs[k * 5]? = some (.int .i64 c.saga) ∧ cs[k * 5 + 1]? = some (.int .i64 c.step) ∧ cs[k * 5 + 2]? = some (.bool c.back) ∧ cs[k * 5 + 3]? = some (.string c.data) ∧ cs[k * 5 + 4]? = some (.int .i64 rp) := by
  rcases h.2 with ⟨h', _⟩ | ⟨g', cap', cur, h', hb, hg, hnc, hcm, hcs, htake⟩
  · simp at h'
  · simp only [Value.slice.injEq, Option.some.injEq, Addr.mk.injEq, and_true, true_and] at h'
    obtain ⟨rfl, rfl⟩ := h'
    refine ⟨cur, hg, fun k c rp hk => ?_⟩
    have hkl := (List.getElem?_eq_some_iff.1 hk).1
    have key : ∀ j u, j < n * 5 → (logCells l)[j]? = some u → cur[j]? = some u := by
      intro j u hj hu
      rw [← htake, List.getElem?_take_of_lt hj] at hu
      simpa using hu
    obtain ⟨a0, a1, a2, a3, a4⟩ := logCells_at l k c rp hk
    exact ⟨key _ _ (by omega) a0, key _ _ (by omega) a1, key _ _ (by omega) a2, key _ _ (by omega) a3, key _ _ (by omega) a4⟩
theorem refRow {w : World} {B n g c : Nat} {R : List RefM} (h : RefAt w B (.slice (some ⟨g, 0, none⟩) n c) R) {i : Nat} (hi : i < R.length) : n = R.length ∧ ∃ cs, w.heap[g]? = some (.cells cs 223 (0, 0)) ∧ i * 7 + 6 < cs.size := by
  rcases h.own.2 with ⟨h', _⟩ | ⟨g', cap', cur, h', hb, hg, hnc, hcm, hcs, htake⟩
  · simp at h'
  · simp only [Value.slice.injEq, Option.some.injEq, Addr.mk.injEq, and_true, true_and] at h'
    obtain ⟨rfl, rfl, rfl⟩ := h'
    exact ⟨rfl, cur, hg, by rw [hcs]; omega⟩
theorem after_steps (g : SagaM) (ck pz rp : Int) : (g.after ck pz rp).steps = g.steps := by
  unfold SagaM.after
  split
  · rfl
  · exact moved_steps g rp
theorem after_id (g : SagaM) (ck pz rp : Int) : (g.after ck pz rp).id = g.id := by
  unfold SagaM.after
  split
  · rfl
  · exact moved_id g rp
theorem waitN_le (clock : Int) (l : List SagaM) (k : Nat) : waitN clock l k ≤ k := by
  induction k with
  | zero => exact Nat.le_refl _
  | succ k ih =>
    cases hg : l[k]? with
    | none => simp only [waitN, hg]; omega
    | some g =>
      simp only [waitN, hg]
      split <;> omega
set_option maxRecDepth 100000 in
set_option maxHeartbeats 16000000 in
theorem ticked_calls {w : World} {B m : Nat} {od : RD} {e : EngR} {f : Bool} (h : RunAt w B od) (hk : RDok (m + 1) od) (hx : od.x = some e) (hea : e.a = if f then askF else askP) :
    Calls Tryz.prog 113 #[.pointer (some ⟨od.kb, 0, none⟩), .bool f] w fun e w' => e = .returned (.bool true) ∧ TurnedTo (KeepA od) w B m od w' := by
  have hBw : B ≤ w.heap.size := Nat.le_trans (h.lo _ (.inl rfl)) (Nat.le_of_lt (h.lt (.inl rfl)))
  obtain ⟨hpz, ha⟩ := hk.eng e hx
  obtain ⟨hsv, has⟩ := h.eng e hx
  have hT : Calls Tryz.prog 20 #[.pointer (some ⟨e.xb, 0, none⟩)] w fun e1 w' => e1 = .returned .nilIface ∧ StV e.cv w' (od.pl_ e) e.bl ((od.st e).tickA e.a) ∧ FrK KT w w' ∧ TkF (od.pl_ e) e.bl w w' :=
    Tick_V hsv has (good_of ha) (hk.inv hx) hk.fineV (by have := hk.clock; show -9223372036854775808 ≤ od.ck + 1 ∧ od.ck + 1 ≤ 9223372036854775807; omega)
  have hTo := Told_calls h.dk
  have hkb := h.st
  have hxv : xvOf od = .pointer (some ⟨e.xb, 0, none⟩) := by unfold xvOf; rw [hx]
  simp only [rdCells, hxv] at hkb
  have hps := h.ps
  obtain ⟨hpl, _, _⟩ := h.parts
  obtain ⟨la, ln, lc, hplv⟩ := own_slice hpl
  have hln : ln = od.p.log.length := by
    rcases hpl.2 with ⟨h1, h2⟩ | ⟨g, cap, cur, h1, _⟩
    · rw [hplv] at h1; simp only [Value.slice.injEq] at h1; omega
    · rw [hplv] at h1; simp only [Value.slice.injEq] at h1; exact h1.2.1
  rw [hplv, hln] at hps
  have H := Lib.hid h
  have Hk := Lib.hid hk
  have Hx := Lib.hid hx
  have Hea := Lib.hid hea
  have HBw := Lib.hid hBw
  have HT := Lib.hid hT
  have HTo := Lib.hid hTo
  have hll : od.p.log.length < 2 ^ 30 := by have := hk.fine.1; omega
  have Hll := Lib.hid hll
  have hne : decide (od.ep = 0) = false := by have := hk.epx hx; simpa using this
  rw [hne] at hkb
  have Hkb := Lib.hid hkb
  have Hpz := Lib.hid hpz
  clear h hk hx hea hBw hT hTo hpz ha hsv has hpl hplv hln hxv hne
  have hcv := cellv w
  go_enter Tryz.func113, Tryz.ntmps113
  go_upto_region 6 with (first
    | (go_at_call 33; refine Calls.mono HTo.out ?_; rintro e1 w1 ⟨rfl, rfl⟩)
    | (go_at_call 20; refine Calls.mono HT.out ?_; rintro e2 w2 ⟨rfl, hV2, hK2, hF2⟩)
    | (go_at_call 26; refine Calls.mono (toldP_nil _) ?_; rintro e3 w3 ⟨rfl, rfl⟩)
    | (go_at_call 108; refine Calls.mono (num_calls _ _) ?_; rintro e4 w4 ⟨rfl, rfl⟩)
    | fail)
  obtain ⟨pl', pe', hpb, _, _, _, hown⟩ := TickV.part (w := w) H.out Hx.out (Nat.le_refl _) hV2 hF2
  rw [tick_log Hea.out] at hown
  have hkb3 := hK2.block od.kb _ Hkb.out (by simp [kindOf])
  have HV2 := Lib.hid hV2
  have HK2 := Lib.hid hK2
  have HF2 := Lib.hid hF2
  have Hown := Lib.hid hown
  clear hkb hps hcv hV2 hK2 hF2
  refine tkd_r6 od.kb od.pb od.p.log.length (logN f (od.ck + 1) (sagasOf od.R) (sagasOf od.R).length) _ pl' pe' od.pi _ _ _ _ _ _ _ _ _ _ _ w3 hkb3 hpb hown ?_
  intros
  rename_i lx cx hlx
  have Hlx := Lib.hid hlx
  have Hpb := Lib.hid hpb
  have hck1 : wrap64 (od.ck + 1) = od.ck + 1 := wrap_in _ (by have := Hk.out.clock; omega)
  clear hlx hpb hown
  have hcv := cellv w3
  have hfv := frozv w3
  generalize hKe : logN f (od.ck + 1) (sagasOf od.R) (sagasOf od.R).length = K
  have HKe := Lib.hid hKe
  clear hKe
  go_upto_if 89 with fail
  have hF4 : Fr (· = od.kb) w3 (w3.setCell ⟨od.kb, 7, none⟩ (.int .i64 (od.ck + 1))) := Fr.one _ _ _ _
  have hkb4 : (w3.setCell ⟨od.kb, 7, none⟩ (.int .i64 (od.ck + 1))).heap[od.kb]? = some (.cells #[.pointer (some ⟨od.db, 0, none⟩), .pointer (some ⟨od.pb, 0, none⟩), .int .i64 od.n, .bool false, .bool false, .pointer (some ⟨e.xb, 0, none⟩), .int .i64 od.pz, .int .i64 (od.ck + 1), .bool false, od.lv] 165 (0, 0)) := by
    rw [hp_setCell, if_pos rfl, hkb3]; rfl
  generalize w3.setCell ⟨od.kb, 7, none⟩ (.int .i64 (od.ck + 1)) = w4 at hF4 hkb4 ⊢
  have HF4 := Lib.hid hF4
  have Hkb4 := Lib.hid hkb4
  have href0 : RefAt w3 B od.lv od.R := by
    have h1 := H.out.ref
    refine ⟨⟨h1.own.1, ?_⟩, fun r hr => ?_⟩
    · rcases h1.own.2 with h2 | ⟨g, cap, cur, e1, e2, e3, e4⟩
      · exact .inl h2
      · exact .inr ⟨g, cap, cur, e1, e2, HK2.out.block g _ e3 (by simp [kindOf]), e4⟩
    · obtain ⟨h2, b, cap, c, h3, h4, h5⟩ := h1.ok r hr
      refine ⟨?_, b, cap, c, h3, HK2.out.block b _ h4 (by simp [kindOf]), h5⟩
      rcases h2 with h2 | ⟨b, cap, c, h2, h3, h4⟩
      · exact .inl h2
      · exact .inr ⟨b, cap, c, h2, HK2.out.block b _ h3 (by simp [kindOf]), h4⟩
  have href4 : RefAt w4 B od.lv od.R := href0.fr hF4 (by rintro k rfl; exact ⟨_, hkb3, by simp [kindOf]⟩) (fun k hk e => by
    obtain ⟨c, hc⟩ := own_cells href0.own hk
    rw [e, hkb3] at hc
    simp at hc)
  have Href4 := Lib.hid href4
  clear hcv hfv hkb3 hF4 href0 href4
  have hcv := cellv w4
  have hfv := frozv w4
  go_cut [] from 83 to 221 (fun wx => ∃ (lvx : Value) (Rx : List RefM), wx.heap[od.kb]? = some (.cells #[.pointer (some ⟨od.db, 0, none⟩), .pointer (some ⟨od.pb, 0, none⟩), .int .i64 od.n, .bool false, .bool false, .pointer (some ⟨e.xb, 0, none⟩), .int .i64 od.pz, .int .i64 (od.ck + 1), .bool false, lvx] 165 (0, 0)) ∧ RefAt wx B lvx Rx ∧ sagasOf Rx = sagasOf od.R ∧ Fr (· = od.kb) w4 wx ∧ ∀ k, lvx.ownBlock = some k → od.lv.ownBlock = some k ∨ w4.heap.size ≤ k)
  case first =>
    by_cases hK : (0 : Int) < K
    · have HSe := Lib.hid (settled_calls Href4.out Hk.out.lenR (fun r hr => by have := (Hk.out.ok r.1 (List.mem_map.2 ⟨r, hr, rfl⟩)).2.2.2.2; omega))
      go_wp2_with (first
        | (go_at_call 143; refine Calls.mono HSe.out ?_; rintro e5 w5 ⟨v5, R5, rfl, href5, hs5, hf5⟩; obtain ⟨a5, n5, c5, rfl⟩ := own_slice href5.own; have hkb5 := hf5.get Hkb4.out (fun f => f); have hcv5 := cellv w5; have hfv5 := frozv w5)
        | fail)
      go_meet
      case rel =>
        have hB4 : B ≤ w4.heap.size := Nat.le_trans HBw.out (Nat.le_trans HK2.out.size HF4.out.size)
        have hF6 : Fr (· = od.kb) w5 (w5.setCell ⟨od.kb, 9, none⟩ (.slice a5 n5 c5)) := Fr.one _ _ _ _
        have href6 : RefAt (w5.setCell ⟨od.kb, 9, none⟩ (.slice a5 n5 c5)) w4.heap.size (.slice a5 n5 c5) R5 := href5.fr hF6 (by rintro k rfl; exact ⟨_, hkb5, by simp [kindOf]⟩) (fun k hk e => by
          obtain ⟨c, hc⟩ := own_cells href5.own hk
          rw [e, hkb5] at hc
          simp at hc)
        refine ⟨.slice a5 n5 c5, R5, ?_, ⟨own_baseW href6.own hB4, href6.ok⟩, hs5, (hf5.mono (fun _ _ f => f.elim)).trans hF6, fun k hk => .inr (href5.own.lt k hk).1⟩
        rw [hp_setCell, if_pos rfl, hkb5]; rfl
    · go_wp2_with fail
      go_meet
      case rel => exact ⟨od.lv, od.R, Hkb4.out, Href4.out, rfl, Fr.refl _ _, fun k hk => .inl hk⟩
  case rest =>
    obtain ⟨lvx, Rx, hkbx, hrefx, hsx, hfx, hownx⟩ := hcut
    obtain ⟨xa, xc, rfl⟩ := hrefx.shape
    have hnx : Rx.length = (sagasOf od.R).length := by rw [← hsx]; simp [sagasOf]
    have hRx1000 : Rx.length ≤ 1000 := by rw [hnx]; have := Hk.out.lenR; simpa [sagasOf] using this
    have Hfx := Lib.hid hfx
    have Hownx := Lib.hid hownx
    have Hnx := Lib.hid hnx
    have Hsx := Lib.hid hsx
    have Hrefx := Lib.hid hrefx
    have Hkbx := Lib.hid hkbx
    clear hfx hownx hnx hsx hrefx hcv hfv
    have hcv := cellv wc
    go_wp2_with fail
    clear hkbx hcv
    go_loopw [11, 12] (fun kv iv wr => ∃ (i : Nat) (R' : List RefM), i ≤ Rx.length ∧ kv = .int .i64 (logN f (od.ck + 1) (sagasOf od.R) i) ∧ iv = .int .i64 i ∧ wr.heap[od.kb]? = some (.cells #[.pointer (some ⟨od.db, 0, none⟩), .pointer (some ⟨od.pb, 0, none⟩), .int .i64 od.n, .bool false, .bool false, .pointer (some ⟨e.xb, 0, none⟩), .int .i64 od.pz, .int .i64 (od.ck + 1), .bool false, .slice xa Rx.length xc] 165 (0, 0)) ∧ RefAt wr B (.slice xa Rx.length xc) R' ∧ sagasOf R' = sagK (if f then askF else askP) (od.ck + 1) od.pz od.p (sagasOf od.R) i ∧ Fr (fun k => (Value.slice xa Rx.length xc).ownBlock = some k) wc wr) (fun _ iv _ => Rx.length - (intOf iv).toNat)
    case atStart => exact ⟨0, Rx, Nat.zero_le _, (by cases f <;> rfl), rfl, Hkbx.out, Hrefx.out, Hsx.out, Fr.refl _ _⟩
    case round =>
      obtain ⟨i, R', hi, rfl, rfl, hkbr, hrefr, hsR, hfr⟩ := hrel
      obtain ⟨kk, hkk⟩ : ∃ kk, kk = logN f (od.ck + 1) (sagasOf od.R) i := ⟨_, rfl⟩
      rw [← hkk]
      have hrl : Rx.length = R'.length := by
        have h1 := congrArg List.length hsR
        rw [sagK_len] at h1
        rw [Hnx.out, ← h1]; simp [sagasOf]
      have Hkk := Lib.hid hkk
      have Hrl := Lib.hid hrl
      have Hfr := Lib.hid hfr
      have HsR := Lib.hid hsR
      have Hrefr := Lib.hid hrefr
      have Hkbr := Lib.hid hkbr
      clear hkk hfr hsR
      have hcv := cellv wr
      by_cases hlt : i < Rx.length
      · obtain ⟨r, hr⟩ : ∃ r, R'[i]? = some r := ⟨R'[i]'(by omega), List.getElem?_eq_getElem _⟩
        obtain ⟨g, sv, mv⟩ := r
        have hgL : (sagasOf od.R)[i]? = some g := by
          have h1 : (sagasOf R')[i]? = some g := by unfold sagasOf; rw [List.getElem?_map, hr]; rfl
          rw [HsR.out, sagK_get _ _ _ _ _ _ _ (Nat.le_refl i)] at h1
          exact h1
        obtain ⟨hsv, hmv⟩ := hrefr.ok _ (List.mem_of_getElem? hr)
        have Hsv := Lib.hid hsv
        have Hmv := Lib.hid hmv
        have hmv0 := hmv
        clear hmv
        have hmv := hmv0
        clear hmv0
        obtain ⟨sa, sc, hsv⟩ := hsv.shape
        obtain ⟨mb, mc, _, hmv, _⟩ := hmv
        change sv = .slice sa g.steps.length sc at hsv
        change mv = _ at hmv
        subst hsv hmv
        have Hr := Lib.hid hr
        have Hlt := Lib.hid hlt
        obtain ⟨gb, rfl, c0, c1, c2, c3, c4, c5, c6⟩ := hrefr.at i _ hr
        change wr.cell? _ = some (.int .i64 g.id) at c0; change wr.cell? _ = some (.slice sa g.steps.length sc) at c1; change wr.cell? _ = some (.int .i64 g.st) at c2; change wr.cell? _ = some (.int .i64 g.step) at c3; change wr.cell? _ = some (.int .i64 g.tries) at c4; change wr.cell? _ = some (.int .i64 g.due) at c5; change wr.cell? _ = some (.slice (some ⟨mb, 0, none⟩) 1 mc) at c6
        obtain ⟨_, cs, hcs, hcsz⟩ := refRow hrefr (show i < R'.length by omega)
        have hiI : (i : Int) < Rx.length := by omega
        have hi0 : (0 : Int) ≤ i := by omega
        rw [hcv] at c0 c1 c2 c3 c4 c5 c6
        have hok := Hk.out.ok g (List.mem_of_getElem? hgL)
        have htr := Hk.out.tries g (List.mem_of_getElem? hgL)
        have Hok := Lib.hid hok
        have ht : 0 ≤ g.tries ∧ g.tries < 2 ^ 30 := ⟨hok.2.2.2.1, by omega⟩
        have Ht := Lib.hid ht
        have hst : (g.st != 0) = true := by
          have := hok.2.2.2.2
          simp; omega
        have Hst := Lib.hid hst
        have HgL := Lib.hid hgL
        have Hcs := Lib.hid hcs
        have Hcsz := Lib.hid hcsz
        clear hr hrefr hgL hok htr ht hst hcs hcsz hrl
        go_upto_region 19 with fail
        have hN6 : New wr (wr.alloc (.cells #[.int .i64 g.id, .slice sa g.steps.length sc, .int .i64 g.st, .int .i64 g.step, .int .i64 g.tries, .int .i64 g.due, .slice (some ⟨mb, 0, none⟩) 1 mc] 223)) := (Fr.refl _ wr).alloc _
        have hs6 := heap_alloc_new wr (.cells #[.int .i64 g.id, .slice sa g.steps.length sc, .int .i64 g.st, .int .i64 g.step, .int .i64 g.tries, .int .i64 g.due, .slice (some ⟨mb, 0, none⟩) 1 mc] 223)
        generalize wr.alloc (.cells #[.int .i64 g.id, .slice sa g.steps.length sc, .int .i64 g.st, .int .i64 g.step, .int .i64 g.tries, .int .i64 g.due, .slice (some ⟨mb, 0, none⟩) 1 mc] 223) = w6 at hN6 hs6 ⊢
        have hsg : ¬ wr.heap.size = gb := fun e => by
          have := lt_of_hp Hcs.out
          omega
        generalize hsbe : wr.heap.size = sb at hs6 hsg ⊢
        have Hsbe := Lib.hid hsbe
        have Hsg := Lib.hid hsg
        clear hkbr c0 c1 c2 c3 c4 c5 c6 hcv hsbe hsg
        cases hw : g.waits (od.ck + 1)
        · refine tkd_r19 od.kb sb g sa g.steps.length sc (.slice (some ⟨mb, 0, none⟩) 1 mc) (od.ck + 1) _ _ _ _ _ _ _ _ _ w6 (hN6.get Hkbr.out (fun f => f)) hs6 Hst.out ?_
          intros
          rename_i w7 hf7
          rw [hw]
          have HN7 := Lib.hid (hN6.trans hf7)
          have Hw := Lib.hid hw
          clear hf7 hN6 hs6 hw
          go_wp2_with fail
          go_roundw
          case rel =>
            refine ⟨i + 1, R', Hlt.out, ?_, by go_num, HN7.out.get Hkbr.out (fun f => f), Hrefr.out.new HN7.out, ?_, Hfr.out.trans (HN7.out.mono (fun _ _ f => f.elim))⟩
            · rw [Hkk.out]
              unfold logN
              cases f
              · rw [waitN_no HgL.out Hw.out]
              · rfl
            · rw [HsR.out, sagK_no HgL.out Hw.out]
          case measure => have := Hlt.out; simp [intOf]; omega
        · refine tkd_r19 od.kb sb g sa g.steps.length sc (.slice (some ⟨mb, 0, none⟩) 1 mc) (od.ck + 1) _ _ _ _ _ _ _ _ _ w6 (hN6.get Hkbr.out (fun f => f)) hs6 Hst.out ?_
          intros
          rename_i w7 hf7
          rw [hw]
          have hN7 := hN6.trans hf7
          have hs7 := hf7.get hs6 (fun f => f)
          have hkb7 := hN7.get Hkbr.out (fun f => f)
          have hcs7 := hN7.get Hcs.out (fun f => f)
          have HN7 := Lib.hid hN7
          have Hw := Lib.hid hw
          have Hs7 := Lib.hid hs7
          have Hkb7 := Lib.hid hkb7
          have Hcs7 := Lib.hid hcs7
          have hgkb : ¬ od.kb = gb := ne_of_kind Hkbr.out Hcs.out (by simp [kindOf])
          have Hgkb := Lib.hid hgkb
          clear hf7 hN6 hs6 hw hN7 hgkb
          have hcv := cellv w7
          have hsp : 1 ≤ g.step ∧ g.step ≤ g.steps.length := by
            have h1 := waits_st Hok.out Hw.out
            have h2 := Hok.out.2.2.2.2
            omega
          have Hsp := Lib.hid hsp
          clear hsp
          cases f
          · have hkK : kk < K := by
              rw [Hkk.out, ← HKe.out]
              exact waitN_lt HgL.out Hw.out (by rw [← Hnx.out]; exact Hlt.out)
            obtain ⟨lg, rfl, hlg⟩ := Hlx.out (by rw [HKe.out]; omega)
            have hplv : ∃ n c, pl' = .slice (some ⟨lg, 0, none⟩) n c := by
              rcases Hown.out.2 with ⟨h1, _⟩ | ⟨g', cap, cur, h1, _⟩
              · rw [h1] at hlg; simp [Value.ownBlock] at hlg
              · rw [h1] at hlg
                obtain rfl : g' = lg := by simpa [Value.ownBlock] using hlg
                exact ⟨_, _, h1⟩
            obtain ⟨pn, pc, rfl⟩ := hplv
            have hpn : pn = od.p.log.length + logN false (od.ck + 1) (sagasOf od.R) (sagasOf od.R).length := by
              rcases Hown.out.2 with ⟨h1, _⟩ | ⟨g', cap, cur, h1, _⟩
              · simp at h1
              · simp only [Value.slice.injEq] at h1; exact h1.2.1
            have hown' := Hown.out
            rw [← hpn] at hown'
            obtain ⟨lcs, hl3, hlc⟩ := log_cells hown' (hpn.trans (tick_log Hea.out).symm)
            have hent := log_at (clock := od.ck + 1) (pause := od.pz) (p := od.p) HgL.out Hw.out (show i < (sagasOf od.R).length by rw [← Hnx.out]; exact Hlt.out)
            rw [show partK askP (od.ck + 1) od.pz od.p (sagasOf od.R) (sagasOf od.R).length = ((od.st e).tickA e.a).p by rw [(tickA_turns e.a (od.st e)).2, Hea.out]; rfl, show waitN (od.ck + 1) (sagasOf od.R) i = kk from Hkk.out.symm] at hent
            generalize hrp : askP.rep (partK askP (od.ck + 1) od.pz od.p (sagasOf od.R) i) g.call = rp at hent
            obtain ⟨l0, l1, l2, l3, l4⟩ := hlc _ _ _ hent
            rw [Nat.add_mul] at l0 l1 l2 l3 l4
            have hlgw : wr.heap[lg]? = some (.cells lcs 48 (0, 0)) := by
              have h4 := HF4.out.get hl3 (fun e => by have h5 := HK2.out.block od.kb _ Hkb.out (by simp [kindOf]); rw [e, h5] at hl3; simp at hl3)
              have h5 := Hfx.out.get h4 (fun e => by have h6 := Hkb4.out; rw [← e, h4] at h6; simp at h6)
              exact Hfr.out.get h5 (fun e => by
                obtain ⟨c, hc⟩ := own_cells Hrefx.out.own e
                rw [h5] at hc; simp at hc)
            have hlg7 := HN7.out.get hlgw (fun f => f)
            have Hlg7 := Lib.hid hlg7
            have Hl0 := Lib.hid l0
            have Hl1 := Lib.hid l1
            have Hl2 := Lib.hid l2
            have Hl3 := Lib.hid l3
            have Hl4 := Lib.hid l4
            have Hrp := Lib.hid hrp
            have HkK := Lib.hid hkK
            obtain ⟨st, hst⟩ : ∃ st : Nat, g.step = (st : Int) + 1 := ⟨(g.step - 1).toNat, by have := Hsp.out; omega⟩
            have hAs : Calls Tryz.prog 146 #[.agg #[.int .i64 g.id, .slice sa g.steps.length sc, .int .i64 g.st, .int .i64 g.step, .int .i64 g.tries, .int .i64 g.due, .slice (some ⟨mb, 0, none⟩) 1 mc]] w7 fun e w' => e = .returned (.agg #[.int .i64 g.call.saga, .int .i64 g.call.step, .bool g.call.back, .string g.call.data]) ∧ New w7 w' :=
              AsksR_calls w7 g _ _ st hst (by have := Hsp.out; omega) (by have := Hok.out.2.2.1.2.1; omega) (Hsv.out.new HN7.out)
            have HAs := Lib.hid hAs
            have hKk : ((kk : Int) == (K : Int)) = false := by simp; omega
            clear hAs hst hrp l0 l1 l2 l3 l4 hlgw hlg7 hent hlc hl3 hpn hlg hkK hown'
            go_upto_region 27 with (first
              | (go_at_call 146; refine Calls.mono HAs.out ?_; rintro e8 w8 ⟨rfl, hf8⟩)
              | fail)
            have hN9 : New w7 (w8.alloc (.cells #[.int .i64 g.call.saga, .int .i64 g.call.step, .bool g.call.back, .string g.call.data] 234)) := hf8.alloc _
            have hc9 := heap_alloc_new w8 (.cells #[.int .i64 g.call.saga, .int .i64 g.call.step, .bool g.call.back, .string g.call.data] 234)
            generalize w8.alloc (.cells #[.int .i64 g.call.saga, .int .i64 g.call.step, .bool g.call.back, .string g.call.data] 234) = w9 at hN9 hc9 ⊢
            generalize w8.heap.size = cb at hc9 ⊢
            have HN9 := Lib.hid hN9
            clear hs7 hkb7 hcs7 hcv hf8 hN9 hKk
            refine tkd_r27 lg od.p.log.length kk K cx cb g.call lcs w9 HkK.out (HN9.out.get Hlg7.out (fun f => f)) Hl0.out Hl1.out Hl2.out Hl3.out hc9 ?_
            intros
            rename_i w10 hf10
            have hN10 := HN9.out.trans hf10
            have hlg10 := hN10.get Hlg7.out (fun f => f)
            have hs10 := hN10.get Hs7.out (fun f => f)
            have HN10 := Lib.hid hN10
            have hcv := cellv w10
            have d4 : cellOf w10.heap[lg]? (od.p.log.length * 5 + kk * 5 + 4) = some (.int .i64 rp) := by rw [hlg10, cellOf_cells]; exact Hl4.out
            have hkI : (kk : Int) < K := by have := HkK.out; omega
            have hk0 : (0 : Int) ≤ kk := by omega
            have hwk : wrap64 ((kk : Int) + 1) = (kk : Int) + 1 := wrap_in _ (by
              have h1 := Hll.out
              have h2 : kk ≤ i := by rw [Hkk.out]; exact waitN_le _ _ _
              have := Hlt.out; omega)
            clear hc9 hf10 hN10 hlg10
            go_upto_region 33 with fail
            refine tkd_r33 od.kb sb gb i Rx.length xc g sa sc (.slice (some ⟨mb, 0, none⟩) 1 mc) od.pz (od.ck + 1) rp _ _ _ _ _ _ cs w10 (HN10.out.get Hkb7.out (fun f => f)) hs10 Hsg.out (HN10.out.get Hcs7.out (fun f => f)) Hlt.out Hcsz.out Hpz.out Ht.out Hsp.out (by have := Hok.out.2.2.1.2.1; omega) (by
              obtain ⟨b, cap, c, h1, h2, h3⟩ := Hmv.out
              exact ⟨b, cap, c, h1, HN10.out.get (HN7.out.get h2 (fun f => f)) (fun f => f), h3⟩) ?_
            intros
            rename_i w11 mv' hf11 hm11
            have HN11 := Lib.hid ((HN7.out.trans HN10.out).trans hf11)
            clear hf11 hs10 hcv d4
            have hset := RefAt.set (R := R') (i := i) (g := gb) (c := xc) (r' := (g.after (od.ck + 1) od.pz rp, .slice sa g.steps.length sc, mv')) (by rw [← Hrl.out]; exact Hrefr.out.new HN11.out) Hr.out ⟨by
              have h1 := Hsv.out.new HN11.out
              rw [after_steps]; exact h1, hm11⟩
            rw [← Hrl.out] at hset
            have hF9 := set7_fr w11 gb (i * 7) (.int .i64 g.id) (.slice sa g.steps.length sc) (.int .i64 (g.after (od.ck + 1) od.pz rp).st) (.int .i64 (g.after (od.ck + 1) od.pz rp).step) (.int .i64 (g.after (od.ck + 1) od.pz rp).tries) (.int .i64 (g.after (od.ck + 1) od.pz rp).due) mv'
            rw [show (g.after (od.ck + 1) od.pz rp, Value.slice sa g.steps.length sc, mv').1.id = g.id from after_id _ _ _ _] at hset
            change RefAt (set7 w11 gb (i * 7) (.int .i64 g.id) (.slice sa g.steps.length sc) (.int .i64 (g.after (od.ck + 1) od.pz rp).st) (.int .i64 (g.after (od.ck + 1) od.pz rp).step) (.int .i64 (g.after (od.ck + 1) od.pz rp).tries) (.int .i64 (g.after (od.ck + 1) od.pz rp).due) mv') B _ _ at hset
            generalize set7 w11 gb (i * 7) (.int .i64 g.id) (.slice sa g.steps.length sc) (.int .i64 (g.after (od.ck + 1) od.pz rp).st) (.int .i64 (g.after (od.ck + 1) od.pz rp).step) (.int .i64 (g.after (od.ck + 1) od.pz rp).tries) (.int .i64 (g.after (od.ck + 1) od.pz rp).due) mv' = w12 at hset hF9 ⊢
            have Hset := Lib.hid hset
            have HF9 := Lib.hid hF9
            clear hset hF9 hm11
            go_wp2_with fail
            go_roundw
            case rel =>
              refine ⟨i + 1, _, Hlt.out, ?_, by go_num, HF9.out.get (HN11.out.get Hkbr.out (fun f => f)) Hgkb.out, Hset.out, ?_, (Hfr.out.trans (HN11.out.mono (fun _ _ f => f.elim))).trans (HF9.out.mono (fun k _ e => by rw [e]; rfl))⟩
              · rw [show logN false (od.ck + 1) (sagasOf od.R) (i + 1) = kk + 1 by rw [Hkk.out]; exact waitN_yes HgL.out Hw.out]
                go_num
              · have h1 : sagasOf R' = sagK askP (od.ck + 1) od.pz od.p (sagasOf od.R) i := HsR.out
                show _ = sagK askP (od.ck + 1) od.pz od.p (sagasOf od.R) (i + 1)
                rw [sagK_yes HgL.out, turn_p Hw.out, Hrp.out, ← h1]
                unfold sagasOf
                rw [List.map_set]; rfl
            case measure => have := Hlt.out; simp [intOf]; omega
          · go_upto_region 22 with fail
            refine tkd_r22 od.kb sb gb i Rx.length xc g sa (some ⟨mb, 0, none⟩) g.steps.length sc 1 mc od.pz (od.ck + 1) _ _ _ _ _ _ _ cs w7 Hkb7.out Hs7.out Hsg.out Hcs7.out Hlt.out Hcsz.out Hpz.out Ht.out ?_
            intros
            rename_i w8 hf8
            have HN8 := Lib.hid (HN7.out.trans hf8)
            clear hf8 hs7 hkb7 hcs7 hcv
            have hset := RefAt.set (R := R') (i := i) (g := gb) (c := xc) (r' := (g.paused (od.ck + 1) od.pz, .slice sa g.steps.length sc, .slice (some ⟨mb, 0, none⟩) 1 mc)) (by rw [← Hrl.out]; exact Hrefr.out.new HN8.out) Hr.out ⟨Hsv.out.new HN8.out, by
              obtain ⟨b, cap, c, h1, h2, h3⟩ := Hmv.out
              exact ⟨b, cap, c, h1, HN8.out.get h2 (fun f => f), h3⟩⟩
            rw [← Hrl.out] at hset
            have hF9 := set7_fr w8 gb (i * 7) (.int .i64 g.id) (.slice sa g.steps.length sc) (.int .i64 g.st) (.int .i64 g.step) (.int .i64 (g.paused (od.ck + 1) od.pz).tries) (.int .i64 (g.paused (od.ck + 1) od.pz).due) (.slice (some ⟨mb, 0, none⟩) 1 mc)
            change RefAt (set7 w8 gb (i * 7) (.int .i64 g.id) (.slice sa g.steps.length sc) (.int .i64 g.st) (.int .i64 g.step) (.int .i64 (g.paused (od.ck + 1) od.pz).tries) (.int .i64 (g.paused (od.ck + 1) od.pz).due) (.slice (some ⟨mb, 0, none⟩) 1 mc)) B _ _ at hset
            generalize set7 w8 gb (i * 7) (.int .i64 g.id) (.slice sa g.steps.length sc) (.int .i64 g.st) (.int .i64 g.step) (.int .i64 (g.paused (od.ck + 1) od.pz).tries) (.int .i64 (g.paused (od.ck + 1) od.pz).due) (.slice (some ⟨mb, 0, none⟩) 1 mc) = w9 at hset hF9 ⊢
            have Hset := Lib.hid hset
            have HF9 := Lib.hid hF9
            clear hset hF9
            go_wp2_with fail
            go_roundw
            case rel =>
              refine ⟨i + 1, _, Hlt.out, ?_, by go_num, HF9.out.get (HN8.out.get Hkbr.out (fun f => f)) Hgkb.out, Hset.out, ?_, (Hfr.out.trans (HN8.out.mono (fun _ _ f => f.elim))).trans (HF9.out.mono (fun k _ e => by rw [e]; rfl))⟩
              · rw [Hkk.out]; rfl
              · have h1 : sagasOf R' = sagK askF (od.ck + 1) od.pz od.p (sagasOf od.R) i := HsR.out
                show _ = sagK askF (od.ck + 1) od.pz od.p (sagasOf od.R) (i + 1)
                rw [sagK_yes HgL.out, turn_f Hw.out, ← h1]
                unfold sagasOf
                rw [List.map_set]
            case measure => have := Hlt.out; simp [intOf]; omega
      · obtain rfl : i = Rx.length := by omega
        have hnn : ¬ ((Rx.length : Int) < Rx.length) := by omega
        have hkK : ((kk : Int) == (K : Int)) = true := by
          rw [Hkk.out, ← HKe.out, Hnx.out]; simp
        clear hrefr hkbr
        have hkbr := Hkbr.out
        go_wp2_with fail
        go_ret
        have hF3r : Fr (fun k => k = od.kb ∨ od.lv.ownBlock = some k) w3 wr := by
          refine ((HF4.out.trans' Hfx.out (fun i _ e => e)).mono (fun k _ e => .inl e)).trans' Hfr.out (fun i hi e => ?_)
          rcases Hownx.out i e with h1 | h1
          · exact .inr h1
          · have := HF4.out.size
            omega
        refine ⟨rfl, TurnedTo.tick H.out Hk.out Hx.out HBw.out (Fr.refl _ _) HV2.out HF2.out HK2.out hF3r ?_ Hrefr.out (fun k hk => ?_) ?_⟩
        · rw [Hkbr.out]
          have := Hk.out.epx Hx.out
          simp [this]
        · rcases Hownx.out k hk with h1 | h1
          · exact .inl h1
          · have h2 := HK2.out.size
            have h3 := HF4.out.size
            exact .inr (by omega)
        · rw [HsR.out, (tickA_turns e.a (od.st e)).1, Hea.out, Hnx.out]
          rfl
end Go.Proofs.YtkafmfdipmhleaaGreatDoor

namespace Go.Proofs.YtkafmfdipmhleaaGreatDoor
open Go.RowKit Go.Maps
def noPart : ByteArray := ⟨#[110, 111, 32, 112, 97, 114, 116, 110, 101, 114]⟩
def thrownP (r : Bool) : FrameMode := .panicking [{ v := .iface 9 (.string noPart), recovered := r }]
def failFn : Value := .func (.func 134) #[] #[]
set_option maxRecDepth 100000 in
set_option maxHeartbeats 4000000 in
theorem fail134 (w : World) (c : CallM) : Calls Tryz.prog 134 #[c.val] w fun e w' => e = .panicked [{ v := .iface 9 (.string noPart), recovered := false }] ∧ New w w' := by
  unfold CallM.val
  have hN : New w (w.alloc (.cells #[.int .i64 c.saga, .int .i64 c.step, .bool c.back, .string c.data] 46)) := (Fr.refl _ w).alloc _
  go_enter Tryz.func134, Tryz.ntmps134
  go_wp2
  refine ⟨rfl, ?_⟩
  exact ⟨rfl, hN⟩
set_option maxHeartbeats 1000000 in
theorem told72 {w : World} {rb : Nat} {old : Value} (he : w.heap[rb]? = some (.cells #[old] 3 (0, 0))) :
    CallsD Tryz.prog 72 #[.pointer (some ⟨rb, 0, none⟩)] (thrownP false) w fun e u' w' => e = .returned (.tuple #[]) ∧ u' = thrownP true ∧ w' = w.setCell ⟨rb, 0, none⟩ (.int .i64 1) := by
  have hcv := cellv w
  have hfv := frozv w
  refine callsD_of_wpS Tryz.func72 rfl fun c₀ cs hu => ?_
  apply wpS_seq
  apply wpS_region
  unfold thrownP at hu
  simp [wpOpsS, go_sem, recoverD, hu, Tryz.ntmps72, Exit.thenS]
  refine wpS_cond (t := true) (by simp [Act.eval, Array.replicate]) ?_
  simp only [if_true]
  have hc : w.cell? ⟨rb, 0, none⟩ = some old := by rw [hcv, he]; rfl
  have hf : w.frozen? ⟨rb, 0, none⟩ = false := by rw [hfv, he]; rfl
  apply wpS_region
  simp [wpOpsS, go_sem, hc, hf]
  cases c₀
  simp_all [bodyPostS, results, Tryz.results72]
  rfl
set_option maxRecDepth 100000 in
set_option maxHeartbeats 4000000 in
theorem ask_F {w : World} {xb pb jb mb : Nat} {pause clock : Int} (c : CallM) (p : PartM)
    (hx : w.heap[xb]? = some (.cells (egCells jb mb pause failFn clock false) 79 (0, 0))) (hp : PAt w pb p) :
    Calls Tryz.prog 51 #[.pointer (some ⟨xb, 0, none⟩), c.val] w fun e w' => e = .returned (.int .i64 1) ∧ PAt w' pb p ∧ FrK [45, 47, 49] w w' ∧ PGo w pb w' := by
  have hmf : ∀ (fn : Fn) (first cap : Array Value) (w : World), (Instr.makeFunc fn first cap).run Tryz.prog w = .ok (.func fn first cap) w := fun _ _ _ _ => rfl
  have hN : New w ((w.alloc (.cells #[.int .i64 c.saga, .int .i64 c.step, .bool c.back, .string c.data] 46)).alloc (.cells #[.int .i64 0] 3)) := ((Fr.refl _ _).alloc _).alloc _
  have hx1 := hN.get hx (fun f => f)
  have hc1 := heap_alloc_keep (.cells #[.int .i64 0] 3) (heap_alloc_new w (.cells #[.int .i64 c.saga, .int .i64 c.step, .bool c.back, .string c.data] 46))
  have hr1 := heap_alloc_new (w.alloc (.cells #[.int .i64 c.saga, .int .i64 c.step, .bool c.back, .string c.data] 46)) (.cells #[.int .i64 0] 3)
  rw [sz_alloc] at hr1
  have HF := Lib.hid (fun (w' : World) => fail134 w' c)
  have fin : ∀ w', New w w' → PAt w' pb p ∧ FrK [45, 47, 49] w w' ∧ PGo w pb w' := fun w' hf =>
    ⟨hp.keep hf.size (fun k o ho _ => hf.get ho (fun f => f)), hf.toK (fun _ _ f _ => f.elim), fun G iv _ hpg => ⟨hpg.new hf, hf.mono (fun _ _ f => f.elim)⟩⟩
  have Hfin := Lib.hid fin
  have HN := Lib.hid hN
  have Hr1 := Lib.hid hr1
  clear hx hp hN fin
  unfold CallM.val at HF ⊢
  go_enter_defers Tryz.func51, Tryz.ntmps51
  go_upto_region 2 with fail
  generalize ((w.alloc (.cells #[.int .i64 c.saga, .int .i64 c.step, .bool c.back, .string c.data] 46)).alloc (.cells #[.int .i64 0] 3)) = w1 at HN Hr1 hx1 hc1 hr1 ⊢
  have Hsz : Hid (w.heap.size = w.heap.size) := Lib.hid rfl
  generalize hX : w.heap.size = X at Hr1 hc1 hr1 ⊢
  have HX := Lib.hid hX
  clear hX Hsz
  unfold egCells failFn at hx1
  have hcv := cellv w1
  go_still_tail 5, (by kernel_rfl)
  change wpList _ _ _ _ _ w1.drew
  have hN2 : New w w1.drew := HN.out.drew
  have hr2 : w1.drew.heap[X + 1]? = _ := hr1
  generalize w1.drew = w2 at hN2 hr2 ⊢
  clear hcv hx1 hc1 hr1
  go_wp2_with (first
    | (go_at_call 134; refine Calls.mono (HF.out _) ?_; rintro e w3 ⟨rfl, hf3⟩)
    | fail)
  have hr3 := hf3.get hr2 (fun f => f)
  refine leaves_cons (f := 72) (args := #[.pointer (some ⟨X + 1, 0, none⟩)]) (by simp) (by simp [go_sem]) ?_
  refine (told72 hr3).mono ?_
  rintro e u' w'' ⟨rfl, rfl, rfl⟩
  have hsome : (w3.setCell ⟨X + 1, 0, none⟩ (.int .i64 1)).cell? ⟨X + 1, 0, none⟩ = some (.int .i64 1) := by rw [cellv, hp_setCell, if_pos rfl, hr3]; rfl
  refine ⟨.int .i64 1, ?_, rfl, Hfin.out _ ((hN2.trans hf3).trans' (Fr.one (X + 1) w3 0 _) (fun i hi e => by have := HX.out; omega))⟩
  simp [results, Tryz.results51, go_sem, hsome]
theorem asks_f (pb : Nat) : Asks failFn pb askF := fun _ _ _ _ _ _ c p hx hp _ => ask_F c p hx hp
end Go.Proofs.YtkafmfdipmhleaaGreatDoor

namespace Go.Proofs.YtkafmfdipmhleaaGreatDoor
open Go.RowKit Go.Maps
set_option maxRecDepth 100000 in
set_option maxHeartbeats 4000000 in
/-- plain.Fails. -/
theorem pFails_calls {w : World} {o : RD} {m : Nat} {pause : Int} (h : RDok (m + 1) o) (he : o.ep ≠ 0) (hd : DiskAt w o.db o.bb o.d) (hp : 1 ≤ pause ∧ pause ≤ 64) :
    Calls Tryz.prog 111 #[.pointer (some ⟨o.db, 0, none⟩), .int .i64 pause] w (OpnPost w o.db o.bb o.d ⟨o.ep, 1 + evLen o.evs, true⟩ (o.evs.foldl applyEv []) pause failFn) := by
  have hO : Calls Tryz.prog 57 #[.iface 27 (.pointer (some ⟨o.db, 0, none⟩)), .int .i64 pause, .func (.func 134) #[] #[]] w (OpnPost w o.db o.bb o.d ⟨o.ep, 1 + evLen o.evs, true⟩ (o.evs.foldl applyEv []) pause failFn) := by
    have hc := h.cal
    have hep := h.ep
    have hfi := h.fits he
    have h1 := h.room he
    have h2 := leftSum_nonneg _ h.ok
    have hJ := h.je (by omega)
    rcases hJ.parse0 rfl h.pend (by omega) with ⟨h0, _⟩ | ⟨_, h0⟩
    · exact absurd h0 he
    · by_cases hr : evLen o.evs + 1 < o.n
      · exact sOpen_calls hd h.quiet (by omega) _ h0 rfl o.evs (hJ.evs rfl h.pend) (hJ.stop rfl h.pend (by rw [h.len]; omega)) hJ.ok (by rw [h.len]; exact hr) (h.dfits he) pause hp _ _ _
      · exact sOpen_full hd h.quiet (by omega) _ h0 rfl o.evs (hJ.evs rfl h.pend) hJ.ok (by rw [h.len]; omega) (h.dfits he) pause hp _ _ _
  have HO := Lib.hid hO
  clear h he hd hp hO
  go_enter Tryz.func111, Tryz.ntmps111
  go_wp2_with (first
    | (go_at_call 57; refine Calls.mono HO.out ?_; rintro e w2 ⟨xb, jb, mb, bl, m, rfl, hxs, hm10, hx, hj, hd, hm, hlen, hsg, hnd, hbl, hf⟩)
    | fail)
  go_ret2
  exact ⟨xb, jb, mb, bl, m, rfl, hxs, hm10, hx, hj, hd, hm, hlen, hsg, hnd, hbl, hf⟩
def RD.failed (o : RD) (k xb jb mb : Nat) (bl : List Nat) : RD := { o with d := o.d.reads k, x := some ⟨xb, jb, mb, bl, true, failFn, askF⟩ }
theorem RDok.failed {m : Nat} {o : RD} {e : EngR} (h : RDok (m + 1) o) (hx : o.x = some e) (k : Nat) (hk : k ≤ 10000) (xb jb mb : Nat) (bl : List Nat) : RDok m (o.failed k xb jb mb bl) := by
  have h' := h.less (k := m) (by omega)
  refine ⟨h'.quiet, h'.pend, h'.len, h'.nl, h.reads k hk, h'.je, h'.ep, h'.core, h'.cap, h'.ok, h'.ord, h'.room, h'.fits, fun e0 => absurd e0 (h.epx hx), h'.fine, h'.tries, h'.clock, fun e' he' => ?_⟩
  simp only [RD.failed, Option.some.injEq] at he'
  subst he'
  exact ⟨(h.eng e hx).1, .inr rfl⟩
/-- An engine whose partner panics, in the place of the one that was opened. -/
theorem TurnedTo.failed {w w3 w' : World} {B m xb jb mb k : Nat} {o : RD} {e : EngR} {bl : List Nat} {pause : Int} (h : RunAt w B o) (hk : RDok (m + 1) o) (hx : o.x = some e) (hj : JustO pause o) (hk2 : k ≤ 10000)
    (hxs : w.heap.size ≤ xb ∧ w.heap.size ≤ jb ∧ w.heap.size ≤ mb) (hxe : w3.heap[xb]? = some (.cells (egCells jb mb pause failFn 0 false) 79 (0, 0))) (hjn : JnAt w3 jb o.db ⟨o.ep, 1 + evLen o.evs, true⟩) (hd : DiskAt w3 o.db o.bb (o.d.reads k))
    (hmp : w3.ownsMap Tryz.prog 3 ptrR mb (o.evs.foldl applyEv []).length (dataOf (ilOf (o.evs.foldl applyEv []) bl))) (hlen : bl.length = (o.evs.foldl applyEv []).length) (hsg : ∀ (i : Nat) (g : SagaM) (b : Nat), (o.evs.foldl applyEv [])[i]? = some g → bl[i]? = some b → SagaAt w3 b g) (hnd : bl.Nodup) (hbl : ∀ b ∈ bl, w.heap.size ≤ b)
    (hf : Fr (· = o.db) w w3) (hf' : Fr (· = o.kb) w3 w')
    (hst : w'.heap[o.kb]? = some (.cells #[.pointer (some ⟨o.db, 0, none⟩), .pointer (some ⟨o.pb, 0, none⟩), .int .i64 o.n, .bool (decide (o.ep = 0)), .bool false, .pointer (some ⟨xb, 0, none⟩), .int .i64 o.pz, .int .i64 o.ck, .bool false, o.lv] 165 (0, 0))) :
    TurnedTo (fun o' => ∀ e', o'.x = some e' → e'.a = askF) w B m o w' := by
  have hBw := h.low
  obtain ⟨_, hjp, hjc, hjs⟩ := hj e hx
  obtain ⟨_, _, _, _, hdk1, _⟩ := h.dk
  have hn1 : o.kb ≠ o.db := ne_of_kind h.st hdk1 (by simp [kindOf])
  have hkb3 := hf.get h.st hn1
  have hK : FrK [166] w3 w' := hf'.toK (by
    rintro i ob rfl ho
    rw [hkb3] at ho; cases ho; simp [kindOf])
  have hff : Fr (fun k => k = o.kb ∨ k = o.db) w w' := (hf.mono (fun _ _ e => .inr e)).trans (hf'.mono (fun _ _ e => .inl e))
  have hpt := (h.ptFr hff (by
    rintro (e | e)
    · exact ne_of_kind h.ps h.st (by simp [kindOf]) e
    · exact ne_of_kind h.ps hdk1 (by simp [kindOf]) e) (by
    rintro i ob (rfl | rfl) hi
    · rw [h.st] at hi; cases hi; simp [kindOf]
    · rw [hdk1] at hi; cases hi; simp [kindOf])).2
  have hd' : DiskAt w' o.db o.bb (o.d.reads k) := hd.keepK hK (by decide) (by decide) (by decide)
  have hown : ∀ j, (o.failed k xb jb mb bl).own j → o.own j ∨ w.heap.size ≤ j := by
    intro j hj2
    refine own_less (o := o) (o' := o.failed k xb jb mb bl) ⟨rfl, rfl, rfl, rfl, rfl, rfl, rfl⟩ (fun i hi => .inl (own_lv hi)) (fun e he2 i hi => ?_) hj2
    simp only [RD.failed, Option.some.injEq] at he2
    subst he2
    rcases hi with rfl | rfl | rfl | hi
    · exact .inr hxs.1
    · exact .inr hxs.2.1
    · exact .inr hxs.2.2
    · exact .inr (hbl i hi)
  refine ⟨o.failed k xb jb mb bl, h.remade hff ⟨rfl, rfl, rfl, rfl, rfl⟩ hst hd' (h.ref.fr hff ?_ ?_) (fun e' he' => ?_) (fun j hj2 => ?_), hk.failed hx k hk2 _ _ _ _, ⟨rfl, rfl, rfl, rfl⟩, hown, hff.mono (by
    rintro i hi (e | e)
    · exact .inl e
    · exact .inr (.inl e)), fun e' he' => ?_⟩
  · rintro j (rfl | rfl)
    · exact ⟨_, h.st, by simp [kindOf]⟩
    · exact ⟨_, hdk1, by simp [kindOf]⟩
  · intro j hj2
    obtain ⟨c, hc⟩ := own_cells h.ref.own hj2
    rintro (rfl | rfl)
    · rw [h.st] at hc; simp at hc
    · rw [hdk1] at hc; simp at hc
  · simp only [RD.failed, Option.some.injEq] at he'
    subst he'
    refine ⟨⟨?_, hjn.keepK hK (by decide), hd', hpt, ?_, ?_, ?_, hnd⟩, asks_f _⟩
    · have h1 := hK.block xb _ hxe (by simp [kindOf])
      show w'.heap[xb]? = some (.cells (egCells jb mb o.pz failFn o.ck false) 79 (0, 0))
      rw [hjp, hjc]; exact h1
    · show w'.ownsMap Tryz.prog 3 ptrR mb (sagasOf o.R).length (dataOf (ilOf (sagasOf o.R) bl))
      rw [hjs]; exact map_keepK hmp hK (by decide)
    · show bl.length = (sagasOf o.R).length
      rw [hjs]; exact hlen
    · intro i g b hg hb
      have hg' : (o.evs.foldl applyEv [])[i]? = some g := by rw [← hjs]; exact hg
      exact sgs_keepK hsg hK (by decide) (by decide) i g b hg' hb
  · rcases hown j hj2 with hh | hh
    · exact h.lo j hh
    · omega
  · simp only [RD.failed, Option.some.injEq] at he'
    subst he'; rfl
end Go.Proofs.YtkafmfdipmhleaaGreatDoor
