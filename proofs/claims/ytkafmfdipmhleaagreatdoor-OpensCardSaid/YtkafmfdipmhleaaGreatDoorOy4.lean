/-
  What is proved: contracts of Open where it tells an error: no journal, a size or a pause that is none. the contract of plain.All, on an engine whose partner and disk are of no account. how the statement Ends begins and ends. (No program in sight.) how the blocks of the two sagas of Taken read, whole or torn. (No program in sight.) a short record, written and read again; torn; a block's first two sectors. (No program in sight.) what stands behind a journal's end; a journal on blocks; one record more. (No program in sight.)
-/
import Derived.Test.YtkafmfdipmhleaaGreatDoorOy3

namespace Go.Proofs.YtkafmfdipmhleaaGreatDoor
open Go.RowKit Go.Maps

def opnStr : ByteArray := ⟨#[111, 112, 101, 110]⟩
def jBadPost (w : World) (db bb : Nat) (d : DiskM) (n : Int) (e : Ending) (w' : World) : Prop :=
  ∃ nb, e = .returned (.tuple #[.pointer none, .iface 121 (.pointer (some ⟨nb, 0, none⟩))]) ∧ w.heap.size ≤ nb ∧ w'.heap[nb]? = some (.cells (faultCells opnStr n) 123 (0, 0)) ∧ DiskAt w' db bb d ∧ Fr (· = db) w w'
set_option maxRecDepth 100000 in
set_option maxHeartbeats 4000000 in
/-- There is no journal on the disk. -/
theorem jOpen_bad {w : World} {db bb : Nat} {d : DiskM} (h : DiskAt w db bb d) (hq : d.quiet) (r0 : RecM) (h0 : parseM (d.look 0) = some (r0, false)) (hl : 0 < d.blocks.length) (tv mv : Value) :
    Calls Tryz.prog 80 #[.iface 27 (.pointer (some ⟨db, 0, none⟩)), tv, mv] w (jBadPost w db bb d.count 6) := by
  have hmf : ∀ (fn : Fn) (first cap : Array Value) (w : World), (Instr.makeFunc fn first cap).run Tryz.prog w = .ok (.func fn first cap) w := fun _ _ _ _ => rfl
  have hlk := DiskM.look_length h.wf hl
  have hdl := disk_lt h
  have Hq := Lib.hid hq
  have H0 := Lib.hid h0
  have Hl := Lib.hid hl
  have Hlk := Lib.hid hlk
  have Hd := Lib.hid h
  have Hdl := Lib.hid hdl
  clear h hq h0 hl hlk hdl
  go_enter_defers Tryz.func80, Tryz.ntmps80
  go_upto_region 1 with fail
  apply wp_scope_straight
  go_upto_region 3 with fail
  have hN1 : New w ((w.alloc (.cells #[.nilIface] 32)).alloc (.cells #[.iface 27 (.pointer (some ⟨db, 0, none⟩)), .int .u32 0, .int .i64 1, .bool true] 132)) := ((Fr.refl _ w).alloc _).alloc _
  have he1 := heap_alloc_keep (.cells #[.iface 27 (.pointer (some ⟨db, 0, none⟩)), .int .u32 0, .int .i64 1, .bool true] 132) (heap_alloc_new w (.cells #[.nilIface] 32))
  have hj1 := heap_alloc_new (w.alloc (.cells #[.nilIface] 32)) (.cells #[.iface 27 (.pointer (some ⟨db, 0, none⟩)), .int .u32 0, .int .i64 1, .bool true] 132)
  rw [sz_alloc] at hj1
  have HN1 := Lib.hid hN1
  have HE1 := Lib.hid he1
  clear hN1 he1
  generalize ((w.alloc (.cells #[.nilIface] 32)).alloc (.cells #[.iface 27 (.pointer (some ⟨db, 0, none⟩)), .int .u32 0, .int .i64 1, .bool true] 132)) = W1 at HN1 HE1 hj1 ⊢
  have Hd1 := Lib.hid (Hd.out.new HN1.out)
  have hcv := cellv W1
  go_upto_region 4 with (first
    | (go_at_call 105; refine Calls.mono (read_quiet Hd1.out Hq.out 0 Hl.out) ?_; rintro e w2 ⟨g, hg, rfl, hgc, hd2, hf2⟩)
    | (go_at_call 104; refine Calls.mono (parse_calls w2 g _ 5 (d.look 0) r0 false Hlk.out hgc (by intro j hj; simp [Hlk.out, hj]) H0.out) ?_; rintro e w3 ⟨sv, rfl, hsv, hf3⟩; obtain ⟨sa, sm, sc, rfl⟩ := own_slice hsv; simp only [rcells])
    | fail)
  have hlt := Hdl.out
  have hf23 : Fr (· = db) W1 w3 := hf2.trans (hf3.mono (fun _ _ f => f.elim))
  have hf24 : Fr (· = db) W1 (w3.alloc (.cells #[.int .u8 r0.kind, .int .u32 r0.epoch, .int .i64 r0.index, .int .i64 r0.saga, .int .i64 r0.reply, .slice sa sm sc] 91)) := hf23.alloc _
  have he4 := hf24.get HE1.out (by omega)
  have hd4 := hd2.new (hf3.alloc (.cells #[.int .u8 r0.kind, .int .u32 r0.epoch, .int .i64 r0.index, .int .i64 r0.saga, .int .i64 r0.reply, .slice sa sm sc] 91))
  have Hf4 := Lib.hid hf24
  have He4 := Lib.hid he4
  have Hd4 := Lib.hid hd4
  clear hf23 hf24 he4 hd4 hcv hj1 hsv hf2 hf3 hd2 hg hgc
  generalize w3.alloc (.cells #[.int .u8 r0.kind, .int .u32 r0.epoch, .int .i64 r0.index, .int .i64 r0.saga, .int .i64 r0.reply, .slice sa sm sc] 91) = W4 at Hf4 He4 Hd4 ⊢
  generalize hB : w3.heap.size = B at *
  have hec := He4.out
  have hn5 := heap_alloc_new W4 (.cells #[.string ⟨#[111, 112, 101, 110]⟩, .iface 55 (.int .i64 6)] 123)
  have hN5 : New W4 (W4.alloc (.cells #[.string ⟨#[111, 112, 101, 110]⟩, .iface 55 (.int .i64 6)] 123)) := (Fr.refl _ W4).alloc _
  have hec5 := hN5.get hec (fun f => f)
  have Hn5 := Lib.hid hn5
  have HN5 := Lib.hid hN5
  clear hN5
  have hcv := cellv (W4.alloc (.cells #[.string ⟨#[111, 112, 101, 110]⟩, .iface 55 (.int .i64 6)] 123))
  have hfv := frozv (W4.alloc (.cells #[.string ⟨#[111, 112, 101, 110]⟩, .iface 55 (.int .i64 6)] 123))
  go_wp2_with fail
  rw [Exit.noGoto_ret]
  refine leaves_cons (f := 103) (args := #[.pointer (some ⟨w.heap.size, 0, none⟩)]) (by simp) (by simp [go_sem]) ?_
  refine (idle103 _ _).mono ?_
  rintro e u' w'' ⟨rfl, rfl, rfl⟩
  have hsome : ((W4.alloc (.cells #[.string ⟨#[111, 112, 101, 110]⟩, .iface 55 (.int .i64 6)] 123)).setCell ⟨w.heap.size, 0, none⟩ (.iface 121 (.pointer (some ⟨W4.heap.size, 0, none⟩)))).cell? ⟨w.heap.size, 0, none⟩ = some (.iface 121 (.pointer (some ⟨W4.heap.size, 0, none⟩))) := by rw [cellv, hp_setCell, if_pos rfl, hec5]; rfl
  have hsz := HN1.out.size
  have hsz4 := Hf4.out.size
  have hw4 : w.heap.size < W4.heap.size := lt_of_hp hec
  refine ⟨.tuple #[.pointer none, .iface 121 (.pointer (some ⟨W4.heap.size, 0, none⟩))], ?_, W4.heap.size, rfl, by omega, ?_, ?_, ?_⟩
  · simp [results, Tryz.results80, go_sem, hsome]
  · rw [hp_setCell, if_neg (by omega)]; exact Hn5.out
  · exact (Hd4.out.new HN5.out).frame (Fr.one w.heap.size _ 0 _) (by rintro k rfl; exact ⟨by omega, by omega, _, hec5, by simp [kindOf]⟩)
  · exact (((HN1.out.mono (fun _ _ f => f.elim)).trans Hf4.out).trans (HN5.out.mono (fun _ _ f => f.elim))).trans' (Fr.one w.heap.size _ 0 _) (by rintro i hi e; omega)
/-- A pause, or a size, that is none. -/
def errOf (d : DiskM) (pause : Int) : Int := if pause < 1 ∨ 64 < pause then 8 else if d.fits = false then 7 else 6
set_option maxRecDepth 100000 in
set_option maxHeartbeats 4000000 in
theorem sOpen_pause {w : World} {db : Nat} {pause : Int} (hp : pause < 1 ∨ 64 < pause) (fv : Value) :
    Calls Tryz.prog 57 #[.iface 27 (.pointer (some ⟨db, 0, none⟩)), .int .i64 pause, fv] w fun e w' => ∃ nb, e = .returned (.tuple #[.pointer none, .iface 121 (.pointer (some ⟨nb, 0, none⟩))]) ∧ w.heap.size ≤ nb ∧ w'.heap[nb]? = some (.cells (faultCells opnStr 8) 123 (0, 0)) ∧ New w w' := by
  by_cases h1 : pause < 1
  · clear hp
    go_enter Tryz.func57, Tryz.ntmps57
    go_wp2_with (first
      | (go_at_call 40; refine Calls.mono (fail_calls w opnStr 8) ?_; rintro e w3 ⟨v, rfl, ⟨fb, hb, rfl, hfb⟩, hf3⟩)
      | fail)
    go_ret2
    exact ⟨fb, rfl, hb, hfb, hf3⟩
  · have h2 : 64 < pause := hp.resolve_left h1
    clear hp
    go_enter Tryz.func57, Tryz.ntmps57
    go_wp2_with (first
      | (go_at_call 40; refine Calls.mono (fail_calls w opnStr 8) ?_; rintro e w3 ⟨v, rfl, ⟨fb, hb, rfl, hfb⟩, hf3⟩)
      | fail)
    go_ret2
    exact ⟨fb, rfl, hb, hfb, hf3⟩
set_option maxRecDepth 100000 in
set_option maxHeartbeats 4000000 in
theorem sOpen_size {w : World} {db bb : Nat} {d : DiskM} {pause : Int} (h : DiskAt w db bb d) (hl : d.fits = false) (hp : 1 ≤ pause ∧ pause ≤ 64) (fv : Value) :
    Calls Tryz.prog 57 #[.iface 27 (.pointer (some ⟨db, 0, none⟩)), .int .i64 pause, fv] w fun e w' => ∃ nb, e = .returned (.tuple #[.pointer none, .iface 121 (.pointer (some ⟨nb, 0, none⟩))]) ∧ w.heap.size ≤ nb ∧ w'.heap[nb]? = some (.cells (faultCells opnStr 7) 123 (0, 0)) ∧ New w w' := by
  have HF := Lib.hid (fits_calls h)
  rw [hl] at HF
  have h1 : ¬ pause < 1 := by omega
  have h2 : ¬ (64 : Int) < pause := by omega
  clear h hl hp
  go_enter Tryz.func57, Tryz.ntmps57
  go_wp2_with (first
    | (go_at_call 79; refine Calls.mono HF.out ?_; rintro e w2 ⟨rfl, rfl⟩)
    | (go_at_call 40; refine Calls.mono (fail_calls w opnStr 7) ?_; rintro e w3 ⟨v, rfl, ⟨fb, hb, rfl, hfb⟩, hf3⟩)
    | fail)
  go_ret2
  exact ⟨fb, rfl, hb, hfb, hf3⟩
set_option maxRecDepth 100000 in
set_option maxHeartbeats 4000000 in
theorem sOpen_bad {w : World} {db bb : Nat} {d : DiskM} {pause : Int} (h : DiskAt w db bb d) (hq : d.quiet) (r0 : RecM) (h0 : parseM (d.look 0) = some (r0, false)) (hl : d.fits = true) (hp : 1 ≤ pause ∧ pause ≤ 64) (fn : Fn) (fs cs : Array Value) :
    Calls Tryz.prog 57 #[.iface 27 (.pointer (some ⟨db, 0, none⟩)), .int .i64 pause, .func fn fs cs] w (jBadPost w db bb d.count 6) := by
  have hmf : ∀ (fn : Fn) (first cap : Array Value) (w : World), (Instr.makeFunc fn first cap).run Tryz.prog w = .ok (.func fn first cap) w := fun _ _ _ _ => rfl
  have hmm := @run_makeMap Tryz.prog
  have HF := Lib.hid (fits_calls h)
  rw [hl] at HF
  have hl0 : 0 < d.blocks.length := by simp [DiskM.fits] at hl; omega
  have HJ := Lib.hid (fun (w' : World) (tv mv : Value) (hf : New w w') => jOpen_bad (h.new hf) hq r0 h0 hl0 tv mv)
  have h1 : ¬ pause < 1 := by omega
  have h2 : ¬ (64 : Int) < pause := by omega
  clear h hq h0 hl hp hl0
  go_enter Tryz.func57, Tryz.ntmps57
  go_upto_region 6 with (first
    | (go_at_call 79; refine Calls.mono HF.out ?_; rintro e w2 ⟨rfl, rfl⟩)
    | fail)
  have hN1 : New w (((w.alloc (.map #[] 0)).alloc (.cells #[.pointer none, .map (some w.heap.size), .int .i64 pause, .func fn fs cs, .int .i64 0, .bool false] 79)).alloc (.cells #[.pointer (some ⟨w.heap.size + 1, 0, none⟩)] 28)) := (((Fr.refl _ w).alloc _).alloc _).alloc _
  generalize (((w.alloc (.map #[] 0)).alloc (.cells #[.pointer none, .map (some w.heap.size), .int .i64 pause, .func fn fs cs, .int .i64 0, .bool false] 79)).alloc (.cells #[.pointer (some ⟨w.heap.size + 1, 0, none⟩)] 28)) = W1 at hN1 ⊢
  have HN1 := Lib.hid hN1
  clear hN1
  go_wp2_with (first
    | (go_at_call 80; refine Calls.mono (HJ.out W1 _ _ HN1.out) ?_; rintro e w2 ⟨nb, rfl, hnb, hfb, hd2, hf2⟩)
    | fail)
  go_ret2
  exact ⟨nb, rfl, Nat.le_trans HN1.out.size hnb, hfb, hd2, (HN1.out.mono (fun _ _ f => f.elim)).trans hf2⟩
def OpErr (w : World) (db bb : Nat) (d : DiskM) (n : Int) (e : Ending) (w' : World) : Prop :=
  ∃ nb m, m ≤ 10000 ∧ e = .returned (.tuple #[.pointer none, .iface 121 (.pointer (some ⟨nb, 0, none⟩))]) ∧ w'.heap[nb]? = some (.cells (faultCells opnStr n) 123 (0, 0)) ∧ DiskAt w' db bb (d.reads m) ∧ Fr (· = db) w w'
set_option maxRecDepth 100000 in
set_option maxHeartbeats 4000000 in
/-- plain.Open that tells an error. -/
theorem pOpen_err {w : World} {db bb pb : Nat} {d : DiskM} {pause : Int} (h : DiskAt w db bb d) (hq : d.quiet) (hc : 0 ≤ d.calls ∧ d.calls < 2 ^ 40) (r0 : RecM) (h0 : parseM (d.look 0) = some (r0, false) ∨ (pause < 1 ∨ 64 < pause) ∨ d.fits = false) :
    Calls Tryz.prog 30 #[.pointer (some ⟨db, 0, none⟩), .int .i64 pause, .pointer (some ⟨pb, 0, none⟩)] w (OpErr w db bb d (errOf d pause)) := by
  have hmf : ∀ (fn : Fn) (first cap : Array Value) (w : World), (Instr.makeFunc fn first cap).run Tryz.prog w = .ok (.func fn first cap) w := fun _ _ _ _ => rfl
  have key : Hid (Calls Tryz.prog 57 #[.iface 27 (.pointer (some ⟨db, 0, none⟩)), .int .i64 pause, .func (.func 58) #[.pointer (some ⟨pb, 0, none⟩)] #[]] w (OpErr w db bb d (errOf d pause))) := by
    show Calls _ _ _ _ _
    have hr0 : d.reads 0 = d := by simp [DiskM.reads]
    by_cases hp : pause < 1 ∨ 64 < pause
    · have he : errOf d pause = 8 := by unfold errOf; rw [if_pos hp]
      rw [he]
      refine Calls.mono (sOpen_pause hp _) ?_
      rintro e w' ⟨nb, rfl, hnb, hfb, hf⟩
      exact ⟨nb, 0, by omega, rfl, hfb, by rw [hr0]; exact h.new hf, hf.mono (fun _ _ f => f.elim)⟩
    · have hp2 : 1 ≤ pause ∧ pause ≤ 64 := by omega
      by_cases hl : d.fits = false
      · have he : errOf d pause = 7 := by unfold errOf; rw [if_neg hp, if_pos hl]
        rw [he]
        refine Calls.mono (sOpen_size h hl hp2 _) ?_
        rintro e w' ⟨nb, rfl, hnb, hfb, hf⟩
        exact ⟨nb, 0, by omega, rfl, hfb, by rw [hr0]; exact h.new hf, hf.mono (fun _ _ f => f.elim)⟩
      · have he : errOf d pause = 6 := by unfold errOf; rw [if_neg hp, if_neg hl]
        rw [he]
        have hl : d.fits = true := by simpa using hl
        have h0' : parseM (d.look 0) = some (r0, false) := by
          rcases h0 with h0 | h0 | h0
          · exact h0
          · exact absurd h0 hp
          · rw [hl] at h0; cases h0
        refine Calls.mono (sOpen_bad h hq r0 h0' hl hp2 _ _ _) ?_
        rintro e w' ⟨nb, rfl, hnb, hfb, hd, hf⟩
        have hr1 := reads_count hq hc 0 (by omega)
        rw [hr0] at hr1
        exact ⟨nb, 1, by omega, rfl, hfb, by rw [← hr1]; exact hd, hf⟩
  generalize errOf d pause = n at key ⊢
  clear h hq hc h0
  go_enter Tryz.func30, Tryz.ntmps30
  go_wp2_with (first
    | (go_at_call 57; refine Calls.mono key.out ?_; rintro e w2 ⟨nb, m, hm, rfl, hfb, hd2, hf2⟩)
    | fail)
  go_ret2
  exact ⟨nb, m, hm, rfl, hfb, hd2, hf2⟩
set_option maxRecDepth 100000 in
set_option maxHeartbeats 4000000 in
/-- plain.Open of a journal, whatever its partner is. -/
theorem pOpen_any {w : World} {db bb pb : Nat} {d : DiskM} (h : DiskAt w db bb d) (hq : d.quiet) (hc : 0 ≤ d.calls ∧ d.calls < 2 ^ 40) (r0 : RecM) (h0 : parseM (d.look 0) = some (r0, true)) (hk : r0.kind = 1) (evs : List Ev)
    (hev : EvsOn d r0.epoch 1 evs) (hst : JStop d r0.epoch (1 + evLen evs)) (hok : EvsOk [] evs) (hel : evLen evs + 1 < d.blocks.length) (hl : d.fits = true) (pause : Int) (hpz : 1 ≤ pause ∧ pause ≤ 64) :
    Calls Tryz.prog 30 #[.pointer (some ⟨db, 0, none⟩), .int .i64 pause, .pointer (some ⟨pb, 0, none⟩)] w (OpnPost w db bb d ⟨r0.epoch, 1 + evLen evs, true⟩ (evs.foldl applyEv []) pause (.func (.func 58) #[.pointer (some ⟨pb, 0, none⟩)] #[])) := by
  have hmf : ∀ (fn : Fn) (first cap : Array Value) (w : World), (Instr.makeFunc fn first cap).run Tryz.prog w = .ok (.func fn first cap) w := fun _ _ _ _ => rfl
  have HO := Lib.hid (sOpen_calls h hq hc r0 h0 hk evs hev hst hok hel hl pause hpz (.func 58) #[.pointer (some ⟨pb, 0, none⟩)] #[])
  clear h hq hc h0 hk hev hst hok hel hl hpz
  go_enter Tryz.func30, Tryz.ntmps30
  go_wp2_with (first
    | (go_at_call 57; refine Calls.mono HO.out ?_; rintro e w2 ⟨xb, jb, mb, bl, m, rfl, hxs, hm10, hx, hj, hd, hm, hlen, hsg, hnd, hbl, hf⟩)
    | fail)
  go_ret2
  exact ⟨xb, jb, mb, bl, m, rfl, hxs, hm10, hx, hj, hd, hm, hlen, hsg, hnd, hbl, hf⟩
end Go.Proofs.YtkafmfdipmhleaaGreatDoor

namespace Go.Proofs.YtkafmfdipmhleaaGreatDoor
open Go.RowKit Go.Maps Go.Shelf

attribute [local go_sem] Oper.semAt_some

/-- Where an engine lies, but for its journal, disk and partner. -/
structure EvAt (w : World) (q : Pl) (bl : List Nat) (s : StM) : Prop where
  eng : w.heap[q.xb]? = some (.cells (egCells q.jb q.mb s.pause (askFn q.pb) s.clock false) 79 (0, 0))
  mp : w.ownsMap Tryz.prog 3 ptrR q.mb s.sagas.length (dataOf (ilOf s.sagas bl))
  len : bl.length = s.sagas.length
  sg : ∀ (i : Nat) (g : SagaM) (b : Nat), s.sagas[i]? = some g → bl[i]? = some b → SagaAt w b g
  nd : bl.Nodup
theorem EvAt.keepK {w w' : World} {K : List Nat} {q : Pl} {bl : List Nat} {s : StM} (h : EvAt w q bl s) (hf : FrK K w w') (hK : ∀ k ∈ [80, 0, 89, 55], k ∉ K) : EvAt w' q bl s :=
  ⟨hf.block _ _ h.eng (by simpa [kindOf] using hK 80 (by simp)), map_keepK h.mp hf (hK 0 (by simp)), h.len, sgs_keepK h.sg hf (hK 89 (by simp)) (hK 55 (by simp)), h.nd⟩
set_option maxRecDepth 100000 in
set_option maxHeartbeats 4000000 in
/-- The iterator: it goes through the sagas in the order of their numbers. -/
theorem all84e (n : Nat) (hn : 1 ≤ n) {w0 : World} {q : Pl} {bl : List Nat} {s : StM} (hs : EvAt w0 q bl s) (ho : s.sagas.Pairwise (fun a b => a.id < b.id)) (hok : ∀ g ∈ s.sagas, 1 ≤ g.id ∧ g.id ≤ 1000) (hl : s.sagas.length ≤ 1000)
    (l Bn : Nat) (J Jx : List SagaM → World → Prop) (W : World) (hJ : AbidesFrom W.heap.size J)
    (hY : ∀ pre x W1, J pre W1 → pre.length < s.sagas.length → YieldAt Fence.wide (n - 1) Tryz.prog l #[.agg x.status] W1 fun e W' =>
      (e = .returned (.bool true) ∧ J (pre ++ [x]) W' ∧ KpA w0.heap.size W1 W') ∨ (e = .returned (.bool false) ∧ Jx (pre ++ [x]) W'))
    (hBn : W.heap[Bn]? = some (.cells #[.pointer (some ⟨q.xb, 0, none⟩)] 28 (0, 0))) (hB : Below w0.heap.size w0 W) (h0 : J [] W) :
    CallsIn Fence.wide n Tryz.prog 84 #[.func (.yield l) #[] #[], .pointer (some ⟨Bn, 0, none⟩)] W fun e W' => (∃ v, e = .returned v) ∧
      ((∃ ys, ys = s.sagas ∧ J ys W') ∨ (∃ pre, pre <+: s.sagas ∧ Jx pre W')) := by
  have Hs := Lib.hid hs
  have Ho := Lib.hid ho
  have Hok := Lib.hid hok
  have hs1 := hs.keepK (below_toK hB (Nat.le_refl _) []) (by simp)
  have hx := hs1.eng
  simp only [egCells] at hx
  have hz : Maps.size (dataOf (ilOf s.sagas bl)) = s.sagas.length := by
    rw [size_dataOf, ilOf, List.length_zip, List.length_map, hs.len]; omega
  have HK := Lib.hid (fun m => (callsIn_wide (n := m)).2 (Keys_calls (some q.mb) W))
  have HS := Lib.hid (fun m => (callsIn_wide (n := m)).2 (Sorted_calls q.mb s.sagas.length (dataOf (ilOf s.sagas bl)) ptrR W hs1.mp (by rw [hz]; unfold maxLen; omega) (by rw [hz]; omega)))
  have Hl := Lib.hid hl
  have HB := Lib.hid hB
  have HY := Lib.hid hY
  have HJ := Lib.hid hJ
  have H0 := Lib.hid h0
  have a1 : W.cell? ⟨Bn, 0, none⟩ = some (.pointer (some ⟨q.xb, 0, none⟩)) := by rw [cellv, hBn]; rfl
  have Hbn : Hid (W.heap[Bn]? = some (.cells #[.pointer (some ⟨q.xb, 0, none⟩)] 28 (0, 0))) := hBn
  clear hs ho hok hl hs1 hz hJ hY hB h0 hBn
  have hcv := cellv W
  refine callsIn_of_wp Tryz.func84 rfl trivial ?_ rfl
  simp only [Tryz.ntmps84, List.size_toArray, List.length_cons, List.length_nil, Nat.reduceAdd, Nat.reduceSub, Array.replicate_succ, Array.replicate_zero, List.push_toArray, List.append_toArray, List.nil_append, List.cons_append]
  gi_wp2_with (first
    | (gi_at_call 48; refine (HK.out _).mono ?_; rintro e w2 ⟨rfl, rfl⟩)
    | (refine ⟨trivial, ?_⟩; gi_at_call 48; refine (HK.out _).mono ?_; rintro e w2 ⟨rfl, rfl⟩)
    | (refine ⟨trivial, ?_⟩; refine (HK.out _).mono ?_; rintro e w2 ⟨rfl, rfl⟩)
    | (refine ⟨trivial, ?_⟩; refine (HS.out _).mono ?_; rintro e w3 ⟨v, ss, rfl, hperm, hown, hnil, hbel⟩; obtain ⟨va, vc, rfl, hva⟩ := ids_shape hown)
    | fail)
  have hb1 : Below W.heap.size W w3 := ((Below.refl _ W).alloc (Nat.le_refl _) (.cells #[.map (some q.mb)] 76)).trans (hbel.mono (by simp))
  have hb3 : Below w0.heap.size w0 w3 := HB.out.trans (hb1.mono HB.out.size)
  have hids := keys_sorted Hs.out.len Ho.out hperm
  rw [hids] at hown
  have hlen : ss.length = s.sagas.length := by
    have := congrArg List.length hids
    simpa using this
  rw [hlen] at hown hva ⊢
  have hbn3 := (hb1.block Bn (lt_of_hp Hbn.out)).trans Hbn.out
  have HJ3 := Lib.hid (abides_below HJ.out H0.out hb1)
  have HB3 := Lib.hid hb3
  have Hbn3 := Lib.hid hbn3
  have Hva := Lib.hid hva
  have Hown := Lib.hid hown
  clear hcv hx a1 hnil hbel hb1 hb3 hids hperm hva hlen hown hbn3 Hbn HJ H0 HK HS
  gi_loopw [12] (fun i wr => ∃ k : Nat, k ≤ s.sagas.length ∧ i = .int .i64 (k : Nat) ∧ J (s.sagas.take k) wr ∧ Below w0.heap.size w0 wr ∧ FrK [0, 66, 39] w3 wr) (fun i _ => s.sagas.length - (intOf i).toNat)
  case atStart => exact ⟨0, Nat.zero_le _, rfl, HJ3.out, HB3.out, FrK.refl _ _⟩
  case round =>
    obtain ⟨k, hk, rfl, hJk, hbl, hfk⟩ := hrel
    have Hbl := Lib.hid hbl
    have Hfk := Lib.hid hfk
    have HJk := Lib.hid hJk
    have hbn := hfk.block _ _ Hbn3.out (by simp [kindOf])
    clear hbl hfk hJk
    by_cases hkn : k < s.sagas.length
    · obtain ⟨g, hg⟩ : ∃ g, s.sagas[k]? = some g := ⟨s.sagas[k], List.getElem?_eq_getElem hkn⟩
      obtain ⟨b, hb, hbo⟩ := blk_of s.sagas bl Hs.out.len Ho.out k g hg
      have hokg := Hok.out g (List.mem_of_getElem? hg)
      have hsr := Hs.out.keepK (below_toK Hbl.out (Nat.le_refl _) []) (by simp)
      have hlk := look_some hsr.mp g.id (by omega) hbo
      have hsg := hsr.sg k g b hg hb
      have hx := hsr.eng
      obtain ⟨sv, hsb, _⟩ := hsg
      simp only [egCells] at hx
      simp only [sgCells] at hsb
      obtain ⟨ib, rfl⟩ : ∃ ib, va = some ⟨ib, 0, none⟩ := by
        rcases Hva.out with h | h
        · omega
        · exact h
      have hgid : (s.sagas.map (·.id))[k]? = some g.id := by rw [List.getElem?_map, hg]; rfl
      have hcell := ints_at (own_keepK Hown.out Hfk.out (by decide)) k g.id hgid
      have htk : s.sagas.take k ++ [g] = s.sagas.take (k + 1) := by
        rw [List.take_succ_eq_append_getElem hkn]
        congr 2
        rw [List.getElem?_eq_getElem hkn] at hg; exact (Option.some.inj hg).symm
      obtain ⟨fn, tmps, assign, body, hy, hR⟩ := HY.out (s.sagas.take k) g wr HJk.out (by rw [List.length_take]; omega)
      rw [htk] at hR
      have HR := Lib.hid hR
      have hkI : (k : Int) < s.sagas.length := by omega
      have Hkn := Lib.hid hkn
      simp only [SagaM.status] at hy
      have hl30 := Hl.out
      clear hb hbo hsr hgid htk hR hg hkn hokg
      have hcv := cellv wr
      have a1 : wr.cell? ⟨Bn, 0, none⟩ = some (.pointer (some ⟨q.xb, 0, none⟩)) := by rw [cellv, hbn]; rfl
      gi_wp2
      refine HR.out.mono ?_
      rintro e W3 (⟨rfl, hJ3, hk3⟩ | ⟨rfl, hJx3⟩)
      · gi_wp2
        go_roundw
        case rel => exact ⟨k + 1, Hkn.out, by go_num, hJ3, Hbl.out.trans hk3.1, Hfk.out.trans hk3.2⟩
        case measure => have := Hkn.out; simp [intOf]; omega
      · gi_wp2
        refine bodyPost_ret (results_none rfl _ _ _) rfl ?_
        exact ⟨⟨_, rfl⟩, .inr ⟨s.sagas.take (k + 1), List.take_prefix _ _, hJx3⟩⟩
    · obtain rfl : k = s.sagas.length := by omega
      have hnk : ¬ ((s.sagas.length : Int) < s.sagas.length) := by omega
      gi_wp2
      go_end0
      exact ⟨⟨_, rfl⟩, .inl (by have := HJk.out; rw [List.take_length] at this; exact this)⟩
theorem all_stopse (n : Nat) (hn : 1 ≤ n) {w0 w : World} {q : Pl} {bl : List Nat} {s : StM} (hs : EvAt w0 q bl s) (ho : s.sagas.Pairwise (fun a b => a.id < b.id)) (hok : ∀ g ∈ s.sagas, 1 ≤ g.id ∧ g.id ≤ 1000) (hl : s.sagas.length ≤ 1000)
    (Bn : Nat) (hBn : w.heap[Bn]? = some (.cells #[.pointer (some ⟨q.xb, 0, none⟩)] 28 (0, 0))) (hB : Below w0.heap.size w0 w) :
    SeqStopsK Fence.wide n Tryz.prog 84 #[.pointer (some ⟨Bn, 0, none⟩)] (fun g : SagaM => #[Value.agg g.status]) (KpA w0.heap.size) (fun ys => ys = s.sagas) (fun pre => pre <+: s.sagas) s.sagas.length w :=
  fun l J Jx W hW hJ _ hY h0 => all84e n hn hs ho hok hl l Bn J Jx W hJ hY ((hW.block Bn (lt_of_hp hBn)).trans hBn) (hB.trans (hW.mono hB.size)) h0
set_option maxRecDepth 100000 in
set_option maxHeartbeats 4000000 in
theorem All_e {w : World} {M : Nat} {q : Pl} {bl : List Nat} {s : StM} (hs : EvAt w q bl s) (ho : s.sagas.Pairwise (fun a b => a.id < b.id)) (hok : ∀ g ∈ s.sagas, 1 ≤ g.id ∧ g.id ≤ 1000) (hl : s.sagas.length ≤ M ∧ s.sagas.length ≤ 100) (hM : 1 ≤ M) :
    Calls Tryz.prog 32 #[.pointer (some ⟨q.xb, 0, none⟩), .int .i64 (M : Nat)] w fun e w' => ∃ v, e = .returned v ∧ w'.ownsRow w.heap.size 38 6 v s.sagas.length (stCells s.sagas) ∧ Below w.heap.size w w' := by
  refine (callsIn_wide (n := 10)).1 ?_
  obtain ⟨i0, hi, hz0, hz1, hz2⟩ := info_parts Tryz.info38z
  refine callsIn_of_wp_marks Tryz.func32 rfl trivial ?_ rfl
  simp only [Tryz.ntmps32, List.size_toArray, List.length_cons, List.length_nil, Nat.reduceAdd, Nat.reduceSub, Array.replicate_succ, Array.replicate_zero, List.push_toArray, List.append_toArray, List.nil_append, List.cons_append]
  have Hs := Lib.hid hs
  have Ho := Lib.hid ho
  have Hok := Lib.hid hok
  have Hl := Lib.hid hl
  have hM1 : ¬ ((M : Int) < 1) := by omega
  clear hs ho hok hl
  gi_wp2_with (first
    | (refine ⟨trivial, ?_⟩; refine (all59 9 q.xb _).mono ?_; rintro e w' ⟨rfl, rfl⟩)
    | fail)
  have bM := ((Boxed.new w 3 (.int .i64 (M : Nat))).alloc (.cells #[.slice none 0 0] 65)).alloc (.cells #[.pointer (some ⟨q.xb, 0, none⟩)] 28)
  have bO := (Boxed.new (w.alloc (.cells #[.int .i64 (M : Nat)] 3)) 65 (.slice none 0 0)).alloc (.cells #[.pointer (some ⟨q.xb, 0, none⟩)] 28)
  have bA := Boxed.new ((w.alloc (.cells #[.int .i64 (M : Nat)] 3)).alloc (.cells #[.slice none 0 0] 65)) 28 (.pointer (some ⟨q.xb, 0, none⟩))
  simp only [World.size_alloc] at bO bA
  have hB0 : Below w.heap.size w (((w.alloc (.cells #[.int .i64 (M : Nat)] 3)).alloc (.cells #[.slice none 0 0] 65)).alloc (.cells #[.pointer (some ⟨q.xb, 0, none⟩)] 28)) := (((Below.refl _ w).alloc (Nat.le_refl _) _).alloc (by simp) _).alloc (by simp; omega) _
  have hsz : (((w.alloc (.cells #[.int .i64 (M : Nat)] 3)).alloc (.cells #[.slice none 0 0] 65)).alloc (.cells #[.pointer (some ⟨q.xb, 0, none⟩)] 28)).heap.size = w.heap.size + 3 := by simp
  obtain ⟨W0, hW0⟩ : ∃ W0, ((w.alloc (.cells #[.int .i64 (M : Nat)] 3)).alloc (.cells #[.slice none 0 0] 65)).alloc (.cells #[.pointer (some ⟨q.xb, 0, none⟩)] 28) = W0 := ⟨_, rfl⟩
  rw [hW0] at bM bO bA hB0 hsz
  simp only [World.size_alloc, hW0]
  refine wpIn_rangeFunc_ownH rfl (by omega) (gf := 84) (lb := #[.pointer (some ⟨w.heap.size + 1 + 1, 0, none⟩)]) rfl trivial (enters_of Tryz.func84 (by kernel_rfl) rfl)
    (all_stopse 9 (by omega) Hs.out Ho.out Hok.out (by have := Hl.out.2; omega) (w.heap.size + 1 + 1) bA hB0) KpA.trans (KpA.put (by omega)) (Below.refl _ _) (fun _ => rfl)
    (fun pre W => ((∃ v, Boxed W (w.heap.size + 1) 65 v ∧ W.ownsRow w.heap.size 38 6 v pre.length (stCells pre) ∧ (v = .slice none 0 0 ↔ pre = [])) ∧ Boxed W w.heap.size 3 (.int .i64 (M : Nat))) ∧ Below w.heap.size w W)
    (fun _ _ _ => False)
    (OwnFrom.and (OwnFrom.and (Own.from (holdsRow_own w.heap.size (w.heap.size + 1) 65 38 6 (fun pre => pre.length) (fun pre => stCells pre) (fun pre v => v = .slice none 0 0 ↔ pre = [])) _) (Own.from (boxed_own _ _ _) _)) (ownFrom_below (Nat.le_refl _) (by omega)))
    (fun _ _ _ _ _ hs _ _ => hs)
    ⟨⟨⟨_, bO, World.ownsRow_nil _ _ _ _, by simp⟩, bM⟩, hB0⟩
    (fun x a' W => ∃ Bx, w.heap.size + 1 < Bx ∧ W.heap[Bx]? = some (.cells x.status 38 (0, 0)) ∧ a' = { tmps := #[.pointer (some ⟨q.xb, 0, none⟩), .int .i64 (M : Nat), undef, .pointer (some ⟨w.heap.size, 0, none⟩), .slice none 0 0, .pointer (some ⟨w.heap.size + 1, 0, none⟩), .pointer (some ⟨Bx, 0, none⟩), .int .i64 (M : Nat), .bool false, .pointer (some ⟨q.xb, 0, none⟩), .func (.func 84) #[] #[.pointer (some ⟨w.heap.size + 1 + 1, 0, none⟩)], .agg x.status, undef, undef, undef, undef, undef, undef, undef, undef, undef], defers := [] })
    (fun x a' _ X Y row hs hg hr => by
      obtain ⟨Bx, h1, h2, h3⟩ := hs
      refine ⟨Bx, h1, (hg.block Bx (lt_of_hp h2) (fun e => ?_)).trans h2, h3⟩
      obtain ⟨_, o, ho, hc⟩ := hr Bx e.symm
      rw [h2] at ho; cases ho; cases hc)
    ?assign ?body ?done ?stop
  case assign =>
    rintro l pre x W K ⟨⟨⟨v, hv, hrow, hnil⟩, bM1⟩, hB1⟩ hK
    have hst : Hid (#[Value.int .i64 x.id, Value.int .i64 x.st, Value.int .i64 x.step, Value.int .i64 x.steps.length, Value.int .i64 x.tries, Value.int .i64 x.due] = x.status) := rfl
    simp only [SagaM.status]
    gi_wp2
    rw [hst.out]
    exact hK _ _ (FrK.keepsFrom (K := []) (((Fr.refl (fun _ => False) W).alloc _).toK (fun _ _ f _ => f.elim)) (by simp) _)
      ⟨(Below.refl _ W).alloc hB1.size _, ((Fr.refl (fun _ => False) W).alloc _).toK (fun _ _ f _ => f.elim)⟩
      ⟨⟨⟨v, hv.alloc _, hrow.alloc _, hnil⟩, bM1.alloc _⟩, hB1.alloc hB1.size _⟩ ⟨W.heap.size, hv.lt, World.alloc_heap_new W _, rfl⟩
  case body =>
    rintro l pre x a' W hl ⟨r, hr⟩ ⟨⟨⟨v, hv, hrow, hnil⟩, bM1⟩, hB1⟩ ⟨Bx, hBx, bX, rfl⟩ hlt
    have hc := hv.cell
    have hm := bM1.cell
    have hne : ¬ ((pre.length : Int) = (M : Int)) := by have := Hl.out.1; omega
    obtain ⟨va, vc, rfl⟩ : ∃ va vc, v = .slice va pre.length vc := by
      rcases hrow.2 with ⟨h1, h2⟩ | ⟨g, cap, cur, h1, _⟩
      · exact ⟨none, 0, by rw [h1, h2]⟩
      · exact ⟨_, _, h1⟩
    have hst : Hid (#[Value.int .i64 x.id, Value.int .i64 x.st, Value.int .i64 x.step, Value.int .i64 x.steps.length, Value.int .i64 x.tries, Value.int .i64 x.due] = x.status) := rfl
    have Hrow := Lib.hid hrow
    have Hv := Lib.hid hv
    have HM1 := Lib.hid bM1
    have HB1 := Lib.hid hB1
    have Hnil := Lib.hid hnil
    simp only [SagaM.status] at bX ⊢
    have hoA := Lib.hid (hrow.alloc (.cells #[Value.int .i64 x.id, Value.int .i64 x.st, Value.int .i64 x.step, Value.int .i64 x.steps.length, Value.int .i64 x.tries, Value.int .i64 x.due] 38))
    have hnews : ∀ (j : Nat) (u : Value), [Value.int .i64 x.id, Value.int .i64 x.st, Value.int .i64 x.step, Value.int .i64 x.steps.length, Value.int .i64 x.tries, Value.int .i64 x.due][j]? = some u → (W.alloc (.cells #[Value.int .i64 x.id, Value.int .i64 x.st, Value.int .i64 x.step, Value.int .i64 x.steps.length, Value.int .i64 x.tries, Value.int .i64 x.due] 38)).cell? ((⟨W.heap.size, 0, none⟩ : Addr).add j) = some u := World.news_of_block (heap_alloc_new W _)
    have Hnews := Lib.hid hnews
    have hlt' := Lib.hid hlt
    clear hrow hv bM1 hB1 hnil hnews hlt hr
    have hcv := cellv W
    gi_wp2_with (first
      | (gi_at_builtin; refine wpListIn_append_own _ rfl _ _ 65 rfl w.heap.size 38 i0 (.agg #[.int .i64 0, .int .i64 0, .int .i64 0, .int .i64 0, .int .i64 0, .int .i64 0]) 6 48 Tryz.underlying65 hi hz0 hz1 hz2 rfl (by decide) _ _ _ rfl hoA.out ⟨W.heap.size, 0, none⟩ 1 1 [Value.int .i64 x.id, Value.int .i64 x.st, Value.int .i64 x.step, Value.int .i64 x.steps.length, Value.int .i64 x.tries, Value.int .i64 x.due] rfl rfl Hnews.out (by intro u hu; simp at hu; rcases hu with rfl | rfl | rfl | rfl | rfl | rfl <;> rfl) (by unfold maxLen; have := hlt'.out; have := Hl.out.2; omega) (by have := hlt'.out; have := Hl.out.2; omega) (by have := HB1.out.size; simp; omega) ?_; intro v' w1 hown' hgrow _; obtain ⟨g', cap', rfl⟩ := ownsRow_succ hown'; obtain ⟨hv1, hv2, hr2, hk2, hb2⟩ := Hv.out.appended (by decide) Hrow.out HB1.out.size (by omega) hown' hgrow; have hc1 := hv1.cell; have hf1 := hv1.frozen)
      | fail)
    have hg1 : (W.alloc (.cells #[Value.int .i64 x.id, Value.int .i64 x.st, Value.int .i64 x.step, Value.int .i64 x.steps.length, Value.int .i64 x.tries, Value.int .i64 x.due] 38)).grownBy w1 (Value.slice va pre.length vc).ownBlock := hgrow
    have hF : FrK [66, 39] W (w1.setCell ⟨w.heap.size + 1, 0, none⟩ (.slice (some ⟨g', 0, none⟩) (pre.length + 1) cap')) := by
      refine FrK.trans (b := W.alloc (.cells #[Value.int .i64 x.id, Value.int .i64 x.st, Value.int .i64 x.step, Value.int .i64 x.steps.length, Value.int .i64 x.tries, Value.int .i64 x.due] 38)) (((Fr.refl (fun _ => False) W).alloc _).toK (fun _ _ f _ => f.elim)) (FrK.trans (b := w1) ((Fr.ofGrown hg1).toK ?_) ((Fr.one (w.heap.size + 1) w1 0 _).toK ?_))
      · intro k o hk ho
        obtain ⟨o', ho', hk'⟩ := own_kind hoA.out hk
        rw [ho] at ho'; cases ho'
        simp [hk']
      · rintro k o rfl ho
        rw [show w1.heap[w.heap.size + 1]? = _ from hv1] at ho; cases ho
        simp [kindOf]
    refine ⟨hF.keepsFrom (by simp) _, KpA.of hF (by simp) hb2, ⟨⟨_, hv2, ?_, by simp⟩, hF.block _ _ HM1.out (by simp [kindOf])⟩, HB1.out.trans hb2⟩
    rw [stCells_snoc, List.length_append, List.length_singleton]
    exact hr2
  case done =>
    rintro D ys W hD rfl ⟨⟨⟨v, hv, hrow, hnil⟩, bM1⟩, hB1⟩ hK
    have hc := hv.cell
    obtain ⟨va, vc, rfl⟩ : ∃ va vc, v = .slice va s.sagas.length vc := by
      rcases hrow.2 with ⟨h1, h2⟩ | ⟨g, cap, cur, h1, _⟩
      · exact ⟨none, 0, by rw [h1, h2]⟩
      · exact ⟨_, _, h1⟩
    gi_wp2
    refine ⟨by simp, .inl ⟨_, _, rfl, run_takeDeferred hK, ?_⟩⟩
    exact ⟨_, results_tmp rfl _ _ _, _, rfl, ownsRow_putObj hrow _ hK rfl, hB1.trans (belowK_b (w := w) (Nat.le_refl _) W D _ _ (by omega) hK rfl rfl)⟩
  case stop =>
    rintro D c pre W _ _ h _
    exact h.elim
end Go.Proofs.YtkafmfdipmhleaaGreatDoor

namespace Go.Proofs.YtkafmfdipmhleaaGreatDoor
open Go.RowKit Go.Maps

theorem StM.fine.mono {s : StM} {m k : Nat} (h : s.fine m) (hk : k ≤ m) : s.fine k := by
  obtain ⟨h1, h2, h3, h4, h5, h6⟩ := h
  exact ⟨by omega, by omega, h3, h4, by omega, h6⟩
def rest200 (r : List Int) : List Int := r ++ List.replicate 200 0
def ends1 (r : List Int) (n : Nat) (pause : Int) (lo : Nat) : StM := (StM.fresh 60 pause ⟨[], [], rest200 r, 0, lo⟩).submit 9 (kSteps 9 n)
theorem ends1_room (r : List Int) (n : Nat) (pause : Int) (lo : Nat) (hn : 1 ≤ n ∧ n ≤ 6) :
    ((StM.fresh 60 pause ⟨[], [], rest200 r, 0, lo⟩).j.en : Int) + (2 + (2 * (kSteps 9 n).length - 1) + leftSum (StM.fresh 60 pause ⟨[], [], rest200 r, 0, lo⟩).sagas) ≤ (StM.fresh 60 pause ⟨[], [], rest200 r, 0, lo⟩).d.blocks.length := by
  have : (StM.fresh 60 pause ⟨[], [], rest200 r, 0, lo⟩).d.blocks.length = 60 := fresh_len 60
  rw [this, kSteps_len]
  simp [StM.fresh, leftSum]
  omega
theorem ends1_inv (r : List Int) (n : Nat) (pause : Int) (lo : Nat) (hr : r.length ≤ 20) (hn : 1 ≤ n ∧ n ≤ 6) (hp : 1 ≤ pause ∧ pause ≤ 8) : (ends1 r n pause lo).inv ∧ (ends1 r n pause lo).fine 100000 := by
  have h0 := fresh_inv 60 pause ⟨[], [], rest200 r, 0, lo⟩ (by omega) (by omega)
  have hf : (StM.fresh 60 pause ⟨[], [], rest200 r, 0, lo⟩).fine 100000 := ⟨by simp [StM.fresh], by simp [StM.fresh], by show (rest200 r).length < 2 ^ 30; rw [rest200, List.length_append, List.length_replicate]; omega, by simp [StM.fresh], by simp [StM.fresh], fun g hg => by simp [StM.fresh] at hg⟩
  exact submit_inv (id := 9) (l := kSteps 9 n) h0 hf (kSteps_whole 9 n (by omega) hn) (fun x hx => by simp [StM.fresh] at hx) (ends1_room r n pause lo hn)
theorem ends1_ei (r : List Int) (n : Nat) (pause : Int) (lo : Nat) (hn : 1 ≤ n ∧ n ≤ 6) (hp : 1 ≤ pause ∧ pause ≤ 8) : EI (rest200 r) n (ends1 r n pause lo) (SagaM.new 9 (kSteps 9 n)) where
  sg := rfl
  st := kSteps_len 9 n
  ag := .inl ⟨rfl, 0, rfl, by omega, .inl rfl⟩
  nv1 := fun _ x hx => by simp [ends1, StM.fresh, StM.submit] at hx
  nv2 := fun h => by simp [SagaM.new] at h
  pl := rfl
  at_ := rfl
  sum := by
    have : (ends1 r n pause lo).p.log = [] := rfl
    rw [this, new_left, kSteps_len]; simp; omega
  due := by show (0 : Int) ≤ 0 + pause; omega
  ok := new_ok (kSteps_whole 9 n (by omega) hn)
  clk := by show (0 : Int) ≤ 0 ∧ (0 : Int) < 2 ^ 40; omega
  tries := by show (0 : Int) < 2 ^ 40; omega
/-- Behind so many ticks. -/
theorem ends1_end (r : List Int) (n : Nat) (pause : Int) (lo t : Nat) (hr : r.length ≤ 20) (hn : 1 ≤ n ∧ n ≤ 6) (hp : 1 ≤ pause ∧ pause ≤ 8) (ht : (t : Int) = (20 + 2 * n + 2) * (pause + 1)) :
    ∃ g, ((ends1 r n pause lo).ticks t).sagas = [g] ∧ g.id = 9 ∧ g.steps.length = n ∧ Agree n g.st g.step (mineOf ((ends1 r n pause lo).ticks t).p.effs 9) ∧
      (g.st = 3 ∧ (((ends1 r n pause lo).ticks t).p.log.any fun x => x.2 == 2) = false ∨ g.st = 4 ∧ (((ends1 r n pause lo).ticks t).p.log.any fun x => x.2 == 2) = true) := by
  have hleft : (SagaM.new 9 (kSteps 9 n)).left ≤ 2 * n := by rw [new_left, kSteps_len]; omega
  have htb : (t : Int) ≤ 34 * 9 := by rw [ht]; exact Int.mul_le_mul (by omega) (by omega) (by omega) (by omega)
  obtain ⟨hi, hf⟩ := ends1_inv r n pause lo hr hn hp
  obtain ⟨g, h1, h2, h3, h4⟩ := ei_ends (r := r) rfl hr (ends1_ei r n pause lo hn hp) hn.2 hi rfl rfl rfl rfl hleft t ht (hf.mono (by omega))
  have hid : g.id = 9 := h3
  refine ⟨g, h1.sg, hid, h1.st, by have := h1.ag; rw [hid] at this; exact this, ?_⟩
  rcases h4 with h4 | h4
  · left
    refine ⟨h4, ?_⟩
    rw [List.any_eq_false]
    intro x hx
    have := h1.nv1 (.inr h4) x hx
    simpa using this
  · right
    refine ⟨h4, ?_⟩
    rw [List.any_eq_true]
    obtain ⟨x, hx, h2⟩ := h1.nv2 (.inr h4)
    exact ⟨x, hx, by simpa using h2⟩
/-- How a partner's log reads. -/
theorem logCells_get (l : List (CallM × Int)) (k : Nat) (h : k < l.length) : (logCells l)[k * 5 + 4]? = some (.int .i64 l[k].2) := by
  induction l generalizing k with
  | nil => simp at h
  | cons a l ih =>
    have ha : (a.1.cells ++ [Value.int .i64 a.2]).length = 5 := rfl
    simp only [logCells, List.flatMap_cons]
    cases k with
    | zero =>
      rw [Nat.zero_mul, Nat.zero_add, List.getElem?_append_left (by omega)]
      rfl
    | succ k =>
      rw [List.getElem?_append_right (by omega), ha, show (k + 1) * 5 + 4 - 5 = k * 5 + 4 by omega]
      have := ih k (by simpa using h)
      simpa [logCells] using this
theorem log_read {w : World} {pb : Nat} {p : PartM} (h : PAt w pb p) : ∃ va vc ev iv, w.heap[pb]? = some (.cells #[.slice va p.log.length vc, ev, iv, .int .i64 p.at_] 44 (0, 0)) ∧
    ∀ k (hk : k < p.log.length), ∃ g, va = some ⟨g, 0, none⟩ ∧ (∃ o, w.heap[g]? = some o) ∧ ∀ w' : World, w'.heap[g]? = w.heap[g]? → cellOf w'.heap[g]? (k * 5 + 4) = some (.int .i64 p.log[k].2) := by
  obtain ⟨⟨lv, ev, iv, B, h1, ho, _, _⟩⟩ := h
  rcases ho with ⟨o1, ⟨rfl, h0⟩ | ⟨g, cap, cur, rfl, hg, hh, _, _, _, htk⟩⟩
  · refine ⟨none, 0, ev, iv, by rw [h1, h0], fun k hk => by omega⟩
  · refine ⟨_, cap, ev, iv, h1, fun k hk => ⟨g, rfl, ⟨_, hh⟩, fun w' hf => ?_⟩⟩
    have := logCells_get p.log k hk
    rw [hf, hh, cellOf_cells]
    rw [← htk, List.getElem?_take_of_lt (by omega)] at this
    simpa using this
end Go.Proofs.YtkafmfdipmhleaaGreatDoor

namespace Go.Proofs.YtkafmfdipmhleaaGreatDoor
open Go.RowKit Go.Maps

def bod (id : Int) (n ix : Nat) : List UInt8 := padB (recBytes (placed (bodyRec id (kSteps id n)) 1 ix))
def tak (id : Int) (ix : Nat) : List UInt8 := padB (recBytes (placed (takenRec id) 1 ix))
theorem parse_bod1_1 : parseM (bod 1 1 1) = some (⟨2, 1, 1, 1, 0, kSteps 1 1⟩, true) := by kernel_rfl
theorem parse_bod1_2 : parseM (bod 1 2 1) = some (⟨2, 1, 1, 1, 0, kSteps 1 2⟩, true) := by kernel_rfl
theorem parse_bod1_3 : parseM (bod 1 3 1) = some (⟨2, 1, 1, 1, 0, kSteps 1 3⟩, true) := by kernel_rfl
theorem parse_bod1_4 : parseM (bod 1 4 1) = some (⟨2, 1, 1, 1, 0, kSteps 1 4⟩, true) := by kernel_rfl
theorem parse_bod1_5 : parseM (bod 1 5 1) = some (⟨2, 1, 1, 1, 0, kSteps 1 5⟩, true) := by kernel_rfl
theorem parse_bod1_6 : parseM (bod 1 6 1) = some (⟨2, 1, 1, 1, 0, kSteps 1 6⟩, true) := by kernel_rfl
theorem parse_bod1 (n : Nat) (hn : 1 ≤ n ∧ n ≤ 6) : parseM (bod 1 n 1) = some (⟨2, 1, 1, 1, 0, kSteps 1 n⟩, true) := by
  have h : n = 1 ∨ n = 2 ∨ n = 3 ∨ n = 4 ∨ n = 5 ∨ n = 6 := by omega
  rcases h with rfl | rfl | rfl | rfl | rfl | rfl
  · exact parse_bod1_1
  · exact parse_bod1_2
  · exact parse_bod1_3
  · exact parse_bod1_4
  · exact parse_bod1_5
  · exact parse_bod1_6
theorem parse_bod2_1 : parseM (bod 2 1 3) = some (⟨2, 1, 3, 2, 0, kSteps 2 1⟩, true) := by kernel_rfl
theorem parse_bod2_2 : parseM (bod 2 2 3) = some (⟨2, 1, 3, 2, 0, kSteps 2 2⟩, true) := by kernel_rfl
theorem parse_bod2_3 : parseM (bod 2 3 3) = some (⟨2, 1, 3, 2, 0, kSteps 2 3⟩, true) := by kernel_rfl
theorem parse_bod2_4 : parseM (bod 2 4 3) = some (⟨2, 1, 3, 2, 0, kSteps 2 4⟩, true) := by kernel_rfl
theorem parse_bod2_5 : parseM (bod 2 5 3) = some (⟨2, 1, 3, 2, 0, kSteps 2 5⟩, true) := by kernel_rfl
theorem parse_bod2_6 : parseM (bod 2 6 3) = some (⟨2, 1, 3, 2, 0, kSteps 2 6⟩, true) := by kernel_rfl
theorem parse_bod2 (n : Nat) (hn : 1 ≤ n ∧ n ≤ 6) : parseM (bod 2 n 3) = some (⟨2, 1, 3, 2, 0, kSteps 2 n⟩, true) := by
  have h : n = 1 ∨ n = 2 ∨ n = 3 ∨ n = 4 ∨ n = 5 ∨ n = 6 := by omega
  rcases h with rfl | rfl | rfl | rfl | rfl | rfl
  · exact parse_bod2_1
  · exact parse_bod2_2
  · exact parse_bod2_3
  · exact parse_bod2_4
  · exact parse_bod2_5
  · exact parse_bod2_6
theorem parse_tak1 : parseM (tak 1 2) = some (⟨3, 1, 2, 1, 0, []⟩, true) := by kernel_rfl
theorem parse_tak2 : parseM (tak 2 4) = some (⟨3, 1, 4, 2, 0, []⟩, true) := by kernel_rfl
def tear4 (old new : List UInt8) (b0 b1 b2 b3 : Bool) : List UInt8 :=
  let o0 := if b0 then secB old new 0 else old
  let o1 := if b1 then secB o0 new 1 else o0
  let o2 := if b2 then secB o1 new 2 else o1
  if b3 then secB o2 new 3 else o2
theorem tear_four (old new : List UInt8) (k : Int) : tearB old new k 4 = tear4 old new (bitK k 0) (bitK k 1) (bitK k 2) (bitK k 3) := rfl
theorem torn_bod_all : ([1, 2, 3, 4, 5, 6].all fun n => [true, false].all fun b0 => [true, false].all fun b1 => [true, false].all fun b2 => [true, false].all fun b3 =>
    match parseM (tear4 zer (bod 2 n 3) b0 b1 b2 b3) with | some (r, _) => decide (r.kind ≠ 4) | none => false) = true := by kernel_rfl
theorem torn_bod (n : Nat) (hn : 1 ≤ n ∧ n ≤ 6) (k : Int) : ∃ r ok, parseM (tearB zer (bod 2 n 3) k 4) = some (r, ok) ∧ r.kind ≠ 4 := by
  have h := torn_bod_all
  simp only [List.all_eq_true] at h
  have hb : ∀ b : Bool, b ∈ [true, false] := by intro b; cases b <;> simp
  have h1 := h n (by simp; omega) _ (hb (bitK k 0)) _ (hb (bitK k 1)) _ (hb (bitK k 2)) _ (hb (bitK k 3))
  rw [tear_four]
  split at h1
  · rename_i r ok hp
    exact ⟨r, ok, hp, by simpa using h1⟩
  · cases h1
theorem torn_tak_all : ([true, false].all fun b0 => [true, false].all fun b1 => [true, false].all fun b2 => [true, false].all fun b3 =>
    decide (tear4 zer (tak 2 4) b0 b1 b2 b3 = if b0 then tak 2 4 else zer)) = true := by kernel_rfl
theorem torn_tak (k : Int) : tearB zer (tak 2 4) k 4 = tak 2 4 ∨ tearB zer (tak 2 4) k 4 = zer := by
  have h := torn_tak_all
  simp only [List.all_eq_true] at h
  have hb : ∀ b : Bool, b ∈ [true, false] := by intro b; cases b <;> simp
  have h1 := h _ (hb (bitK k 0)) _ (hb (bitK k 1)) _ (hb (bitK k 2)) _ (hb (bitK k 3))
  rw [tear_four]
  have h2 := of_decide_eq_true h1
  rw [h2]
  cases bitK k 0 <;> simp
end Go.Proofs.YtkafmfdipmhleaaGreatDoor

namespace Go.Proofs.YtkafmfdipmhleaaGreatDoor
open Go.RowKit Go.Maps

theorem leB_toNat (n k : Nat) : (leB n k).toNat = n / 2 ^ (8 * k) % 256 := by
  unfold leB
  rw [UInt8.toNat_ofNat']
theorem leN1 (n : Nat) : leN 1 n = [leB n 0] := rfl
theorem leN2 (n : Nat) : leN 2 n = [leB n 0, leB n 1] := rfl
theorem leN4 (n : Nat) : leN 4 n = [leB n 0, leB n 1, leB n 2, leB n 3] := rfl
theorem leVal1 (n : Nat) (h : n < 256) : leVal [leB n 0] = n := by
  simp only [leVal, leB_toNat]; omega
theorem leVal2 (n : Nat) (h : n < 65536) : leVal [leB n 0, leB n 1] = n := by
  simp only [leVal, leB_toNat]; omega
theorem leVal4 (n : Nat) (h : n < 4294967296) : leVal [leB n 0, leB n 1, leB n 2, leB n 3] = n := by
  simp only [leVal, leB_toNat]; omega
/-- What a short record's first sector holds behind its sum. -/
def shortB (r : RecM) : List UInt8 := [leB r.kind 0, leB r.epoch 0, leB r.epoch 1, leB r.epoch 2, leB r.epoch 3, leB r.index 0, leB r.index 1, leB r.saga 0, leB r.saga 1, leB r.reply 0] ++ List.replicate 18 0
theorem head_short (r : RecM) : headB r = [leB r.kind 0, leB r.epoch 0, leB r.epoch 1, leB r.epoch 2, leB r.epoch 3, leB r.index 0, leB r.index 1, leB r.saga 0, leB r.saga 1, leB r.reply 0] := rfl
def sumS (r : RecM) : Nat := (crcM (shortB r)).toNat
theorem sumS_lt (r : RecM) : sumS r < 4294967296 := by
  have := crcM_u32 (shortB r)
  unfold sumS; omega
theorem sumS_int (r : RecM) : (sumS r : Int) = crcM (shortB r) := by
  have := crcM_u32 (shortB r)
  unfold sumS; omega
def secS (r : RecM) : List UInt8 := [leB (sumS r) 0, leB (sumS r) 1, leB (sumS r) 2, leB (sumS r) 3] ++ shortB r
theorem secS_len (r : RecM) : (secS r).length = 32 := rfl
theorem base_short (r : RecM) (hk : r.kind ≠ 2) : (baseB r).drop 4 = shortB r ++ List.replicate 96 0 := by
  unfold baseB bodyB
  rw [if_neg hk, head_short]
  rfl
theorem bytes_short (r : RecM) (hk : r.kind ≠ 2) : recBytes r = secS r := by
  have h1 := base_short r hk
  have h2 : sumB r = sumS r := by
    unfold sumB sumS
    rw [h1, show endOf r = 32 from by unfold endOf; rw [if_neg hk]]
    rfl
  unfold recBytes recB wrAt
  rw [h2, show endOf r = 32 from by unfold endOf; rw [if_neg hk], leN4]
  show ((baseB r).take 0 ++ _ ++ (baseB r).drop 4).take 32 = _
  rw [h1]
  rfl
theorem pad_short (r : RecM) (hk : r.kind ≠ 2) : padB (recBytes r) = secS r ++ List.replicate 96 0 := by
  rw [bytes_short r hk]
  unfold padB
  rw [secS_len]
/-- A short record is read whatever stands in the sectors behind its own. -/
theorem parse_short (r : RecM) (C : List UInt8) (h : r.ok) (hk : r.kind ≠ 2) (hk4 : 1 ≤ r.kind ∧ r.kind ≤ 4) : parseM (secS r ++ C) = some (r, true) := by
  obtain ⟨h1, h2, h3, h4, h5, h6, _⟩ := h
  have hkb : kindB (secS r ++ C) = r.kind := by
    show (leB r.kind 0).toNat = r.kind
    rw [leB_toNat]; omega
  have hsum : sumOk (secS r ++ C) := by
    unfold sumOk
    rw [hkb, if_neg hk]
    have e1 : (secS r ++ C).take 4 = [leB (sumS r) 0, leB (sumS r) 1, leB (sumS r) 2, leB (sumS r) 3] := rfl
    have e2 : ((secS r ++ C).drop 4).take (32 - 4) = shortB r := rfl
    rw [e1, e2, leVal4 _ (sumS_lt r), sumS_int]
  have hrec : recOf (secS r ++ C) [] = r := by
    obtain ⟨kind, epoch, index, saga, reply, steps⟩ := r
    have e3 : epochB (secS ⟨kind, epoch, index, saga, reply, steps⟩ ++ C) = epoch := leVal4 epoch h2
    have e4 : indexB (secS ⟨kind, epoch, index, saga, reply, steps⟩ ++ C) = index := leVal2 index h3
    have e5 : sagaB (secS ⟨kind, epoch, index, saga, reply, steps⟩ ++ C) = saga := leVal2 saga h4
    have e6 : replyB (secS ⟨kind, epoch, index, saga, reply, steps⟩ ++ C) = reply := leVal1 reply h5
    simp only [recOf, hkb, e3, e4, e5, e6]
    have h7 := h6 hk
    simp only at h7
    rw [h7]
  unfold parseM
  rw [if_pos hsum, hkb, if_neg hk, hrec]
  simp [hk4.1, hk4.2]
/-- A block of two sectors and noughts. -/
def two (a b : List UInt8) : List UInt8 := a ++ b ++ List.replicate 64 0
def z32 : List UInt8 := List.replicate 32 0
theorem zer_two : zer = two z32 z32 := by kernel_rfl
theorem pad_two (r : RecM) (hk : r.kind ≠ 2) : padB (recBytes r) = two (secS r) z32 := by
  rw [pad_short r hk]; rfl
theorem sec_first (a b a' b' : List UInt8) (h1 : a.length = 32) (h2 : a'.length = 32) : secB (two a b) (two a' b') 0 = two a' b := by
  unfold secB two
  simp only [Nat.zero_mul, List.take_zero, List.nil_append, List.drop_zero, Nat.zero_add, List.append_assoc]
  rw [List.take_append_of_le_length (by omega), List.take_of_length_le (by omega), List.drop_append_of_le_length (by omega), List.drop_of_length_le (by omega), List.nil_append]
theorem sec_second (a b a' b' : List UInt8) (h1 : a.length = 32) (h2 : a'.length = 32) (h3 : b.length = 32) (h4 : b'.length = 32) : secB (two a b) (two a' b') 1 = two a b' := by
  unfold secB two
  simp only [Nat.one_mul, List.append_assoc]
  rw [List.take_append_of_le_length (by omega), List.take_of_length_le (by omega)]
  have e1 : (a' ++ (b' ++ List.replicate 64 0)).drop 32 = b' ++ List.replicate 64 0 := by
    rw [List.drop_append_of_le_length (by omega), List.drop_of_length_le (by omega), List.nil_append]
  have e2 : (a ++ (b ++ List.replicate 64 0)).drop (32 + 32) = List.replicate 64 0 := by
    rw [← List.append_assoc, List.drop_append_of_le_length (by simp; omega), List.drop_of_length_le (by simp; omega), List.nil_append]
  rw [e1, e2, List.take_append_of_le_length (by omega), List.take_of_length_le (by omega)]
theorem sec_rest (a b a' b' : List UInt8) (s : Nat) (h1 : a.length = 32) (h2 : a'.length = 32) (h3 : b.length = 32) (h4 : b'.length = 32) (hs : s = 2 ∨ s = 3) : secB (two a b) (two a' b') s = two a b := by
  have hd : ∀ (x y : List UInt8), x.length = 32 → y.length = 32 → ∀ n, (two x y).drop (64 + n) = List.replicate (64 - n) 0 := by
    intro x y hx hy n
    unfold two
    have hl : (x ++ y).length = 64 := by rw [List.length_append]; omega
    rw [List.drop_append, List.drop_of_length_le (by omega), List.nil_append, List.drop_replicate, hl]
    congr 1
    omega
  have ht : ∀ (x y : List UInt8), x.length = 32 → y.length = 32 → ∀ n, n ≤ 64 → (two x y).take (64 + n) = x ++ y ++ List.replicate n 0 := by
    intro x y hx hy n hn
    unfold two
    have hl : (x ++ y).length = 64 := by rw [List.length_append]; omega
    rw [List.take_append, List.take_of_length_le (by omega), List.take_replicate, hl]
    congr 2
    omega
  rcases hs with rfl | rfl
  · unfold secB
    rw [show 2 * 32 = 64 + 0 by rfl, ht a b h1 h3 0 (by omega), hd a' b' h2 h4 0, show 64 + 0 + 32 = 64 + 32 by rfl, hd a b h1 h3 32]
    unfold two
    simp
  · unfold secB
    rw [show 3 * 32 = 64 + 32 by rfl, ht a b h1 h3 32 (by omega), hd a' b' h2 h4 32, show 64 + 32 + 32 = 64 + 64 by rfl, hd a b h1 h3 64]
    unfold two
    simp
/-- A torn block of two sectors: of each sector the old one or the new one. -/
theorem tear_two (a b a' b' : List UInt8) (k : Int) (h1 : a.length = 32) (h2 : a'.length = 32) (h3 : b.length = 32) (h4 : b'.length = 32) :
    tearB (two a b) (two a' b') k 4 = two (if bitK k 0 then a' else a) (if bitK k 1 then b' else b) := by
  show (if bitK k 3 then secB (tearB (two a b) (two a' b') k 3) (two a' b') 3 else tearB (two a b) (two a' b') k 3) = _
  have e1 : tearB (two a b) (two a' b') k 1 = two (if bitK k 0 then a' else a) b := by
    show (if bitK k 0 then secB (two a b) (two a' b') 0 else two a b) = _
    split
    · rw [sec_first a b a' b' h1 h2]
    · rfl
  have hl : (if bitK k 0 then a' else a).length = 32 := by split <;> assumption
  have e2 : tearB (two a b) (two a' b') k 2 = two (if bitK k 0 then a' else a) (if bitK k 1 then b' else b) := by
    show (if bitK k 1 then secB (tearB (two a b) (two a' b') k 1) (two a' b') 1 else tearB (two a b) (two a' b') k 1) = _
    rw [e1]
    split
    · rw [sec_second _ b a' b' hl h2 h3 h4]
    · rfl
  have hl2 : (if bitK k 1 then b' else b).length = 32 := by split <;> assumption
  have e3 : tearB (two a b) (two a' b') k 3 = two (if bitK k 0 then a' else a) (if bitK k 1 then b' else b) := by
    show (if bitK k 2 then secB (tearB (two a b) (two a' b') k 2) (two a' b') 2 else tearB (two a b) (two a' b') k 2) = _
    rw [e2]
    split
    · exact sec_rest _ _ a' b' 2 hl h2 hl2 h4 (.inl rfl)
    · rfl
  rw [e3]
  split
  · exact sec_rest _ _ a' b' 3 hl h2 hl2 h4 (.inr rfl)
  · rfl
end Go.Proofs.YtkafmfdipmhleaaGreatDoor

namespace Go.Proofs.YtkafmfdipmhleaaGreatDoor
open Go.RowKit Go.Maps

/-- A body's block behind its head. -/
def tailB (id : Int) (n : Nat) : List UInt8 := (leN 1 n ++ stepsB (kSteps id n) ++ zeros).take 114
def bRec (id : Int) (n ix : Nat) : RecM := ⟨2, 1, ix, id.toNat, 0, kSteps id n⟩
theorem bRec_placed (id : Int) (n ix : Nat) : placed (bodyRec id (kSteps id n)) 1 ix = bRec id n ix := rfl
theorem head_len (r : RecM) : (headB r).length = 10 := rfl
theorem bod_eq (id : Int) (n ix : Nat) (hn : n ≤ 6) : ∃ s, s = sumB (bRec id n ix) ∧ bod id n ix = leN 4 s ++ headB (bRec id n ix) ++ tailB id n ∧ (baseB (bRec id n ix)).drop 4 = headB (bRec id n ix) ++ tailB id n := by
  refine ⟨_, rfl, ?_⟩
  have hT : (leN 1 n ++ stepsB (kSteps id n)).length ≤ 109 := by
    have := stepsB_le (kSteps id n) (fun s hs => by
      simp only [kSteps, List.mem_map] at hs
      obtain ⟨i, _, rfl⟩ := hs
      exact ⟨by show 3 ≤ 8; omega, by show 3 ≤ 8; omega⟩)
    rw [kSteps_len] at this
    rw [List.length_append, leN_length]; omega
  have hb : (baseB (bRec id n ix)).drop 4 = headB (bRec id n ix) ++ tailB id n := by
    unfold baseB bodyB tailB
    rw [if_pos (show (bRec id n ix).kind = 2 from rfl)]
    show (wrAt zeros 4 (headB (bRec id n ix) ++ (leN 1 (kSteps id n).length ++ stepsB (kSteps id n)))).drop 4 = _
    rw [kSteps_len]
    generalize leN 1 n ++ stepsB (kSteps id n) = T at hT
    generalize hH : headB (bRec id n ix) = H
    have hH : H.length = 10 := by rw [← hH]; rfl
    unfold wrAt
    have e0 : zeros.take 4 = [0, 0, 0, 0] := rfl
    rw [e0, List.append_assoc, List.append_assoc]
    show (0 :: 0 :: 0 :: 0 :: (H ++ (T ++ zeros.drop (4 + (H ++ T).length)))).drop 4 = _
    show H ++ (T ++ zeros.drop (4 + (H ++ T).length)) = _
    congr 1
    rw [List.length_append, hH]
    unfold zeros
    rw [List.drop_replicate, List.take_append, List.take_of_length_le (by omega), List.take_replicate]
    congr 2
    omega
  have hl : (tailB id n).length = 114 := by unfold tailB; rw [List.length_take, List.length_append, show zeros.length = 128 from zeros_length]; omega
  refine ⟨?_, hb⟩
  unfold bod
  rw [bRec_placed]
  have hr : recB (bRec id n ix) = leN 4 (sumB (bRec id n ix)) ++ headB (bRec id n ix) ++ tailB id n := by
    unfold recB wrAt
    rw [leN_length]
    show [] ++ leN 4 (sumB (bRec id n ix)) ++ (baseB (bRec id n ix)).drop 4 = _
    rw [hb, List.nil_append, List.append_assoc]
  have hrl : (recB (bRec id n ix)).length = 128 := by rw [hr]; simp [leN_length, head_len, hl]
  unfold recBytes padB
  rw [show endOf (bRec id n ix) = 128 from rfl, List.take_of_length_le (by omega), hrl, hr]
  simp
def tA (id : Int) (n : Nat) : List UInt8 := (tailB id n).take 18
def tB (id : Int) (n : Nat) : List UInt8 := ((tailB id n).drop 18).take 32
theorem tail_all : ([1, 2, 3].all fun id => [1, 2, 3, 4, 5, 6].all fun n => decide (tailB id n = tA id n ++ tB id n ++ List.replicate 64 0) && decide ((tB id n).length = 32) && decide ((tA id n).length = 18)) = true := by kernel_rfl
theorem tail_two (id : Int) (n : Nat) (hi : 1 ≤ id ∧ id ≤ 3) (hn : 1 ≤ n ∧ n ≤ 6) : tailB id n = tA id n ++ tB id n ++ List.replicate 64 0 ∧ (tB id n).length = 32 ∧ (tA id n).length = 18 := by
  have h := tail_all
  simp only [List.all_eq_true] at h
  have h1 := h id (by have : id = 1 ∨ id = 2 ∨ id = 3 := by omega
                      rcases this with rfl | rfl | rfl <;> simp) n (by simp; omega)
  simp only [Bool.and_eq_true, decide_eq_true_eq] at h1
  exact ⟨h1.1.1, h1.1.2, h1.2⟩
/-- First sectors that stand behind a journal's end; second ones. -/
def JA (a : List UInt8) : Prop := a.length = 32 ∧ (a = z32 ∨ a[4]? = some 2 ∧ ∃ (id : Int) (n : Nat), (1 ≤ id ∧ id ≤ 3) ∧ (1 ≤ n ∧ n ≤ 6) ∧ a.drop 14 = tA id n)
def JB (b : List UInt8) : Prop := b.length = 32 ∧ (b = z32 ∨ ∃ (id : Int) (n : Nat), (1 ≤ id ∧ id ≤ 3) ∧ (1 ≤ n ∧ n ≤ 6) ∧ b = tB id n)
def Junk (X : List UInt8) : Prop := ∃ a b, X = two a b ∧ JA a ∧ JB b
theorem junk_zer : Junk zer := ⟨z32, z32, zer_two, ⟨rfl, .inl rfl⟩, ⟨rfl, .inl rfl⟩⟩
theorem bod_two (id : Int) (n ix : Nat) (hi : 1 ≤ id ∧ id ≤ 3) (hn : 1 ≤ n ∧ n ≤ 6) : ∃ a, bod id n ix = two a (tB id n) ∧ JA a := by
  obtain ⟨s, _, h, _⟩ := bod_eq id n ix hn.2
  obtain ⟨t1, t2, t3⟩ := tail_two id n hi hn
  refine ⟨leN 4 s ++ headB (bRec id n ix) ++ tA id n, ?_, ?_, .inr ⟨?_, id, n, hi, hn, ?_⟩⟩
  · rw [h, t1]
    unfold two
    simp only [List.append_assoc]
  · simp [leN_length, head_len, t3]
  · rw [leN4, head_short]
    show some (leB 2 0) = some 2
    exact congrArg some (by decide)
  · rw [leN4, head_short]
    rfl
theorem junk_bod (id : Int) (n ix : Nat) (hi : 1 ≤ id ∧ id ≤ 3) (hn : 1 ≤ n ∧ n ≤ 6) : Junk (bod id n ix) := by
  obtain ⟨a, h, ha⟩ := bod_two id n ix hi hn
  exact ⟨a, tB id n, h, ha, (tail_two id n hi hn).2.1, .inr ⟨id, n, hi, hn, rfl⟩⟩
theorem junk_body {X : List UInt8} (h : Junk X) (id : Int) (n ix : Nat) (hi : 1 ≤ id ∧ id ≤ 3) (hn : 1 ≤ n ∧ n ≤ 6) (k : Int) : Junk (tearB X (bod id n ix) k 4) := by
  obtain ⟨a, b, rfl, ha, hb⟩ := h
  obtain ⟨a', h', ha'⟩ := bod_two id n ix hi hn
  have hb' : JB (tB id n) := ⟨(tail_two id n hi hn).2.1, .inr ⟨id, n, hi, hn, rfl⟩⟩
  rw [h', tear_two _ _ _ _ _ ha.1 ha'.1 hb.1 hb'.1]
  refine ⟨_, _, rfl, ?_, ?_⟩
  · split <;> assumption
  · split <;> assumption
theorem junk_short {X : List UInt8} (h : Junk X) (r : RecM) (hr : r.ok) (hk : r.kind = 1 ∨ r.kind = 3 ∨ r.kind = 4) (k : Int) :
    parseM (tearB X (padB (recBytes r)) k 4) = some (r, true) ∨ Junk (tearB X (padB (recBytes r)) k 4) := by
  obtain ⟨a, b, rfl, ha, hb⟩ := h
  rw [pad_two r (by omega), tear_two _ _ _ _ _ ha.1 (secS_len r) hb.1 rfl]
  by_cases h0 : bitK k 0 = true
  · rw [if_pos h0]
    refine .inl ?_
    unfold two
    rw [List.append_assoc]
    exact parse_short r _ hr (by omega) (by omega)
  · rw [if_neg h0]
    refine .inr ⟨_, _, rfl, ha, ?_⟩
    split
    · exact ⟨rfl, .inl rfl⟩
    · exact hb
theorem takes_all : ([1, 2, 3].all fun id => [1, 2, 3, 4, 5, 6].all fun n => (takeSteps ((tA id n ++ z32 ++ List.replicate 64 0)[0]?.getD 0).toNat ((tA id n ++ z32 ++ List.replicate 64 0).drop 1)).isSome &&
    [1, 2, 3].all fun id' => [1, 2, 3, 4, 5, 6].all fun n' => (takeSteps ((tA id n ++ tB id' n' ++ List.replicate 64 0)[0]?.getD 0).toNat ((tA id n ++ tB id' n' ++ List.replicate 64 0).drop 1)).isSome) = true := by kernel_rfl
theorem takes_some (id : Int) (n : Nat) (hi : 1 ≤ id ∧ id ≤ 3) (hn : 1 ≤ n ∧ n ≤ 6) {b : List UInt8} (hb : JB b) : ∃ l, takeSteps ((tA id n ++ b ++ List.replicate 64 0)[0]?.getD 0).toNat ((tA id n ++ b ++ List.replicate 64 0).drop 1) = some l := by
  have hm : ∀ id : Int, 1 ≤ id ∧ id ≤ 3 → id ∈ ([1, 2, 3] : List Int) := by
    intro id hi
    have : id = 1 ∨ id = 2 ∨ id = 3 := by omega
    rcases this with rfl | rfl | rfl <;> simp
  have hm' : ∀ n : Nat, 1 ≤ n ∧ n ≤ 6 → n ∈ [1, 2, 3, 4, 5, 6] := by intro n hn; simp; omega
  have h := takes_all
  simp only [List.all_eq_true, Bool.and_eq_true] at h
  obtain ⟨h1, h2⟩ := h id (hm id hi) n (hm' n hn)
  rcases hb.2 with rfl | ⟨id', n', hi', hn', rfl⟩
  · exact Option.isSome_iff_exists.1 h1
  · exact Option.isSome_iff_exists.1 (h2 id' (hm id' hi') n' (hm' n' hn'))
theorem junk_parse {X : List UInt8} (h : Junk X) : ∃ r ok, parseM X = some (r, ok) ∧ r.kind ≠ 4 := by
  obtain ⟨a, b, rfl, ⟨hal, ha⟩, hb⟩ := h
  rcases ha with rfl | ⟨h4, id, n, hi, hn, hd⟩
  · have hk : kindB (two z32 b) = 0 := rfl
    unfold parseM
    split
    · rw [if_neg (by rw [hk]; decide)]
      exact ⟨_, _, rfl, by show kindB _ ≠ 4; rw [hk]; decide⟩
    · exact ⟨_, _, rfl, by show kindB _ ≠ 4; rw [hk]; decide⟩
  · have hk : kindB (two a b) = 2 := by
      unfold kindB two
      rw [List.append_assoc, List.getElem?_append_left (by omega), h4]; rfl
    have hdr : (two a b).drop 14 = tA id n ++ b ++ List.replicate 64 0 := by
      unfold two
      rw [List.append_assoc, List.drop_append_of_le_length (by omega), hd, List.append_assoc]
    have e14 : (two a b)[14]? = (tA id n ++ b ++ List.replicate 64 0)[0]? := by rw [← hdr, List.getElem?_drop]
    have e15 : (two a b).drop 15 = (tA id n ++ b ++ List.replicate 64 0).drop 1 := by rw [← hdr, List.drop_drop]
    obtain ⟨l, hl⟩ := takes_some id n hi hn hb
    unfold parseM
    split
    · rw [e14, e15, hl]
      exact ⟨_, _, rfl, by show kindB _ ≠ 4; rw [hk]; decide⟩
    · exact ⟨_, _, rfl, by show kindB _ ≠ 4; rw [hk]; decide⟩
theorem takes_bod_all : ([1, 2, 3].all fun id => [1, 2, 3, 4, 5, 6].all fun n => decide (takeSteps ((tailB id n)[0]?.getD 0).toNat ((tailB id n).drop 1) = some (kSteps id n))) = true := by kernel_rfl
/-- A body is read as it was written. -/
theorem parse_bod (id : Int) (n ix : Nat) (hi : 1 ≤ id ∧ id ≤ 3) (hn : 1 ≤ n ∧ n ≤ 6) (hx : ix < 65536) : parseM (bod id n ix) = some (bRec id n ix, true) := by
  have ht : takeSteps ((tailB id n)[0]?.getD 0).toNat ((tailB id n).drop 1) = some (kSteps id n) := by
    have h := takes_bod_all
    simp only [List.all_eq_true] at h
    have h1 := h id (by have : id = 1 ∨ id = 2 ∨ id = 3 := by omega
                        rcases this with rfl | rfl | rfl <;> simp) n (by simp; omega)
    simpa using h1
  obtain ⟨s, hs, h, hb⟩ := bod_eq id n ix hn.2
  have hc := crcM_u32 ((headB (bRec id n ix) ++ tailB id n).take 124)
  have hsv : (s : Int) = crcM ((headB (bRec id n ix) ++ tailB id n).take 124) := by
    rw [hs]; unfold sumB
    rw [hb, show endOf (bRec id n ix) - 4 = 124 from rfl]
    omega
  rw [h, leN4, head_short]
  have hk : kindB ([leB s 0, leB s 1, leB s 2, leB s 3] ++ [leB 2 0, leB 1 0, leB 1 1, leB 1 2, leB 1 3, leB ix 0, leB ix 1, leB id.toNat 0, leB id.toNat 1, leB 0 0] ++ tailB id n) = 2 := rfl
  show parseM ([leB s 0, leB s 1, leB s 2, leB s 3] ++ [leB 2 0, leB 1 0, leB 1 1, leB 1 2, leB 1 3, leB ix 0, leB ix 1, leB id.toNat 0, leB id.toNat 1, leB 0 0] ++ tailB id n) = _
  have hsum : sumOk ([leB s 0, leB s 1, leB s 2, leB s 3] ++ [leB 2 0, leB 1 0, leB 1 1, leB 1 2, leB 1 3, leB ix 0, leB ix 1, leB id.toNat 0, leB id.toNat 1, leB 0 0] ++ tailB id n) := by
    unfold sumOk
    rw [hk, if_pos rfl]
    show (leVal [leB s 0, leB s 1, leB s 2, leB s 3] : Int) = crcM ((headB (bRec id n ix) ++ tailB id n).take 124)
    rw [leVal4 s (by omega), hsv]
  have e4 : indexB ([leB s 0, leB s 1, leB s 2, leB s 3] ++ [leB 2 0, leB 1 0, leB 1 1, leB 1 2, leB 1 3, leB ix 0, leB ix 1, leB id.toNat 0, leB id.toNat 1, leB 0 0] ++ tailB id n) = ix := leVal2 ix hx
  have e5 : sagaB ([leB s 0, leB s 1, leB s 2, leB s 3] ++ [leB 2 0, leB 1 0, leB 1 1, leB 1 2, leB 1 3, leB ix 0, leB ix 1, leB id.toNat 0, leB id.toNat 1, leB 0 0] ++ tailB id n) = id.toNat := leVal2 id.toNat (by omega)
  unfold parseM
  rw [if_pos hsum, if_pos hk]
  show (takeSteps ((tailB id n)[0]?.getD 0).toNat ((tailB id n).drop 1)).map _ = _
  rw [ht]
  simp only [Option.map_some, recOf, hk, e4, e5]
  rfl
end Go.Proofs.YtkafmfdipmhleaaGreatDoor
