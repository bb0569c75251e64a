/-
  What is proved: Open of a journal whose records fill it to its last block, on a disk that tells no errors. a step of a script that only formats and opens. one disk of a script's world has turned. the script's submitted asks whether there is room: the drawn region. what is known of a disk whose engine took a saga. (No program in sight.) a disk whose engine took a saga, in the heap.
-/
import Derived.Test.YtkafmfdipmhleaaGreatDoorRy12

namespace Go.Proofs.YtkafmfdipmhleaaGreatDoor
open Go.RowKit Go.Maps
set_option maxRecDepth 100000 in
set_option maxHeartbeats 4000000 in
/-- at, behind the last block. -/
theorem at_full {w : World} {jb db bb : Nat} {j : JnM} {d : DiskM} (hj : JnAt w jb db j) (h : DiskAt w db bb d) (i : Nat) (hi : d.blocks.length ≤ i) :
    Calls Tryz.prog 106 #[.pointer (some ⟨jb, 0, none⟩), .int .i64 i] w fun e w' => e = .returned (.tuple #[.agg #[.int .u8 0, .int .u32 0, .int .i64 0, .int .i64 0, .int .i64 0, .slice none 0 0], .bool false]) ∧ New w w' := by
  have hd1 := h.new ((Fr.refl _ w).alloc (.cells #[.int .u8 0, .int .u32 0, .int .i64 0, .int .i64 0, .int .i64 0, .slice none 0 0] 91))
  have hj1 := heap_alloc_keep (.cells #[.int .u8 0, .int .u32 0, .int .i64 0, .int .i64 0, .int .i64 0, .slice none 0 0] 91) hj
  have hR1 := heap_alloc_new w (.cells #[.int .u8 0, .int .u32 0, .int .i64 0, .int .i64 0, .int .i64 0, .slice none 0 0] 91)
  have HF1 : Hid (New w (w.alloc (.cells #[.int .u8 0, .int .u32 0, .int .i64 0, .int .i64 0, .int .i64 0, .slice none 0 0] 91))) := (Fr.refl _ w).alloc _
  have HB := Lib.hid (Blocks_calls hd1)
  have hil : (d.blocks.length : Int) ≤ i := by omega
  have HR1 := Lib.hid hR1
  have Hsz : Hid (w.heap.size < w.heap.size + 1) := Nat.lt_succ_self _
  simp only [jnCells] at hj1
  clear hj h hi hd1 hR1
  go_enter Tryz.func106, Tryz.ntmps106
  go_upto_region 1 with fail
  generalize hW : w.alloc (.cells #[.int .u8 0, .int .u32 0, .int .i64 0, .int .i64 0, .int .i64 0, .slice none 0 0] 91) = W1 at *
  generalize hRb : w.heap.size = Rb at *
  have Hrb := Lib.hid hRb
  clear hW hRb
  have hR1 := HR1.out
  have hcv := cellv W1
  have hfv := frozv W1
  go_wp2_with (first
    | (go_at_call 177; refine Calls.mono HB.out ?_; rintro e w2 ⟨rfl, rfl⟩)
    | fail)
  have hF : Fr (· = Rb) W1 ((((((W1.setCell ⟨Rb, 0, none⟩ (.int .u8 0)).setCell ⟨Rb, 1, none⟩ (.int .u32 0)).setCell ⟨Rb, 2, none⟩ (.int .i64 0)).setCell ⟨Rb, 3, none⟩ (.int .i64 0)).setCell ⟨Rb, 4, none⟩ (.int .i64 0)).setCell ⟨Rb, 5, none⟩ (.slice none 0 0)) := (((((Fr.one Rb W1 0 _).trans (Fr.one Rb _ 1 _)).trans (Fr.one Rb _ 2 _)).trans (Fr.one Rb _ 3 _)).trans (Fr.one Rb _ 4 _)).trans (Fr.one Rb _ 5 _)
  have hA : ((((((W1.setCell ⟨Rb, 0, none⟩ (.int .u8 0)).setCell ⟨Rb, 1, none⟩ (.int .u32 0)).setCell ⟨Rb, 2, none⟩ (.int .i64 0)).setCell ⟨Rb, 3, none⟩ (.int .i64 0)).setCell ⟨Rb, 4, none⟩ (.int .i64 0)).setCell ⟨Rb, 5, none⟩ (.slice none 0 0)).heap[Rb]? = some (.cells #[.int .u8 0, .int .u32 0, .int .i64 0, .int .i64 0, .int .i64 0, .slice none 0 0] 91 (0, 0)) := by
    simp only [hp_setCell, if_true, hR1]; rfl
  refine bodyPost_ret (results_row_tmp rfl _ _ Rb 91 #[.int .u8 0, .int .u32 0, .int .i64 0, .int .i64 0, .int .i64 0, .slice none 0 0] (0, 0) _ rfl hA Tryz.underlying91 rfl Tryz.info91s) rfl ?_
  exact ⟨rfl, HF1.out.trans' hF (fun i hi e => by have := Hrb.out; omega)⟩
set_option maxRecDepth 100000 in
set_option maxHeartbeats 4000000 in
theorem jOpen_full {w : World} {db bb C xb mb : Nat} {d : DiskM} (h : DiskAt w db bb d) (hq : d.quiet) (hc : 0 ≤ d.calls ∧ d.calls < 2 ^ 40) (hb : d.blocks.length ≤ 1000) (r0 : RecM) (h0 : parseM (d.look 0) = some (r0, true)) (hk : r0.kind = 1) (evs : List Ev)
    (hev : EvsOn d r0.epoch 1 evs) (hok : EvsOk [] evs) (hel : evLen evs + 1 = d.blocks.length) (h2l : 1 < d.blocks.length) (hR : RdAt w C xb mb [] []) :
    Calls Tryz.prog 80 #[.iface 27 (.pointer (some ⟨db, 0, none⟩)), .func (.func 81) #[] #[.pointer (some ⟨C, 0, none⟩)], .func (.func 82) #[] #[.pointer (some ⟨C, 0, none⟩)]] w (jOpnPost w db bb C xb mb d ⟨r0.epoch, 1 + evLen evs, true⟩ (evs.foldl applyEv [])) := by
  have hmf : ∀ (fn : Fn) (first cap : Array Value) (w : World), (Instr.makeFunc fn first cap).run Tryz.prog w = .ok (.func fn first cap) w := fun _ _ _ _ => rfl
  have hlk := DiskM.look_length h.wf (show 0 < d.blocks.length by omega)
  have hdl := disk_lt h
  have Hq := Lib.hid hq
  have H0 := Lib.hid h0
  have Hk := Lib.hid hk
  have Hc := Lib.hid hc
  have Hb := Lib.hid hb
  have Hev := Lib.hid hev
  have Hok := Lib.hid hok
  have Hel := Lib.hid hel
  have HR := Lib.hid hR
  have Hl : Hid (1 < d.blocks.length) := by show _ < _; omega
  have Hlk := Lib.hid hlk
  have Hd := Lib.hid h
  have Hdl := Lib.hid hdl
  clear h hq h0 hk hc hb hev hok hel h2l hR hlk hdl
  go_enter_defers Tryz.func80, Tryz.ntmps80
  go_upto_region 1 with fail
  apply wp_scope_straight
  go_upto_region 3 with fail
  have hN1 : New w ((w.alloc (.cells #[.nilIface] 32)).alloc (.cells #[.iface 27 (.pointer (some ⟨db, 0, none⟩)), .int .u32 0, .int .i64 1, .bool true] 132)) := ((Fr.refl _ w).alloc _).alloc _
  have he1 := heap_alloc_keep (.cells #[.iface 27 (.pointer (some ⟨db, 0, none⟩)), .int .u32 0, .int .i64 1, .bool true] 132) (heap_alloc_new w (.cells #[.nilIface] 32))
  have hj1 := heap_alloc_new (w.alloc (.cells #[.nilIface] 32)) (.cells #[.iface 27 (.pointer (some ⟨db, 0, none⟩)), .int .u32 0, .int .i64 1, .bool true] 132)
  rw [sz_alloc] at hj1
  have hsz1 : ((w.alloc (.cells #[.nilIface] 32)).alloc (.cells #[.iface 27 (.pointer (some ⟨db, 0, none⟩)), .int .u32 0, .int .i64 1, .bool true] 132)).heap.size = w.heap.size + 1 + 1 := by rw [sz_alloc, sz_alloc]
  have HN1 := Lib.hid hN1
  have HE1 := Lib.hid he1
  have HJ1 := Lib.hid hj1
  have Hsz1 := Lib.hid hsz1
  clear hN1 he1 hsz1
  generalize ((w.alloc (.cells #[.nilIface] 32)).alloc (.cells #[.iface 27 (.pointer (some ⟨db, 0, none⟩)), .int .u32 0, .int .i64 1, .bool true] 132)) = W1 at HN1 HE1 HJ1 Hsz1 hj1 ⊢
  have Hd1 := Lib.hid (Hd.out.new HN1.out)
  have hcv := cellv W1
  go_upto_region 4 with (first
    | (go_at_call 105; refine Calls.mono (read_quiet Hd1.out Hq.out 0 (by have := Hl.out; omega)) ?_; rintro e w2 ⟨g, hg, rfl, hgc, hd2, hf2⟩)
    | (go_at_call 104; refine Calls.mono (parse_calls w2 g _ 5 (d.look 0) r0 true Hlk.out hgc (by intro j hj; simp [Hlk.out, hj]) H0.out) ?_; rintro e w3 ⟨sv, rfl, hsv, hf3⟩; obtain ⟨sa, sm, sc, rfl⟩ := own_slice hsv; simp only [rcells])
    | fail)
  have hlt := Hdl.out
  have hs1 := HN1.out.size
  have hf23 : Fr (· = db) W1 w3 := hf2.trans (hf3.mono (fun _ _ f => f.elim))
  have hf24 : Fr (· = db) W1 (w3.alloc (.cells #[.int .u8 r0.kind, .int .u32 r0.epoch, .int .i64 r0.index, .int .i64 r0.saga, .int .i64 r0.reply, .slice sa sm sc] 91)) := hf23.alloc _
  have hj4 := hf24.get HJ1.out (by omega)
  have he4 := hf24.get HE1.out (by omega)
  have hr4 := heap_alloc_new w3 (.cells #[.int .u8 r0.kind, .int .u32 r0.epoch, .int .i64 r0.index, .int .i64 r0.saga, .int .i64 r0.reply, .slice sa sm sc] 91)
  have hd4 := hd2.new (hf3.alloc (.cells #[.int .u8 r0.kind, .int .u32 r0.epoch, .int .i64 r0.index, .int .i64 r0.saga, .int .i64 r0.reply, .slice sa sm sc] 91))
  have hne4 : w3.heap.size ≠ w.heap.size + 1 ∧ w3.heap.size ≠ w.heap.size := by have := hf23.size; have := Hsz1.out; omega
  have Hne4 := Lib.hid hne4
  have Hf4 := Lib.hid hf24
  have Hj4 := Lib.hid hj4
  have He4 := Lib.hid he4
  have Hd4 := Lib.hid hd4
  clear hlt hs1 hf23 hf24 he4 hd4 hne4 hcv hj1 hsv hf2 hf3 hd2 hg hgc
  generalize w3.alloc (.cells #[.int .u8 r0.kind, .int .u32 r0.epoch, .int .i64 r0.index, .int .i64 r0.saga, .int .i64 r0.reply, .slice sa sm sc] 91) = W4 at Hf4 Hj4 He4 Hd4 hj4 hr4 ⊢
  generalize hB : w3.heap.size = B at Hne4 hr4 ⊢
  clear hB
  have hk1 : r0.kind = 1 := Hk.out
  rw [hk1] at hr4
  have hcv := cellv W4
  have hfv := frozv W4
  go_upto_region 7 with fail
  have hj6 : JnAt (W4.setCell ⟨w.heap.size + 1, 1, none⟩ (.int .u32 r0.epoch)) (w.heap.size + 1) db ⟨r0.epoch, 1, true⟩ := by
    unfold JnAt
    rw [hp_setCell, if_pos rfl, hj4]; rfl
  have he6 : (W4.setCell ⟨w.heap.size + 1, 1, none⟩ (.int .u32 r0.epoch)).heap[w.heap.size]? = some (.cells #[.nilIface] 32 (0, 0)) := by
    rw [hp_setCell, if_neg (by omega), He4.out]
  have hd6 := Hd4.out.frame (Fr.one (w.heap.size + 1) W4 1 (.int .u32 r0.epoch)) (by
    rintro k rfl
    have := Hdl.out
    exact ⟨by omega, by omega, _, Hj4.out, by simp [kindOf]⟩)
  have hF6 : Fr (· = db) w (W4.setCell ⟨w.heap.size + 1, 1, none⟩ (.int .u32 r0.epoch)) :=
    ((HN1.out.mono (fun _ _ f => f.elim)).trans Hf4.out).trans' (Fr.one (w.heap.size + 1) W4 1 _) (by rintro i hi e; omega)
  have Hj6 := Lib.hid hj6
  have He6 := Lib.hid he6
  have Hd6 := Lib.hid hd6
  have HF6 := Lib.hid hF6
  have hjj := hj6
  unfold JnAt jnCells at hjj
  simp only at hjj
  clear hj6 he6 hd6 hF6 hcv hfv hj4 hr4
  generalize W4.setCell ⟨w.heap.size + 1, 1, none⟩ (.int .u32 r0.epoch) = W6 at Hj6 He6 Hd6 HF6 hjj ⊢
  apply wp_label
  go_wp2_with fail
  have hF6' : Hid (Fr (fun k => k = db ∨ k = mb) w W6) := HF6.out.mono (fun _ _ e => .inl e)
  have HR6 : Hid (RdAt W6 C xb mb [] []) := HR.out.keepK (HF6.out.toK (K := [103]) (by
    rintro k o rfl ho
    obtain ⟨_, _, _, _, e1, _⟩ := Hd.out
    rw [e1] at ho; cases ho; simp [kindOf])) (by decide) (by decide) (by decide) (by decide) (by decide)
  have HD6 : Hid (DiskAt W6 db bb (d.reads 1)) := by
    have := reads_count Hq.out Hc.out 0 (by omega)
    rw [show d.reads 0 = d by simp [DiskM.reads]] at this
    show DiskAt _ _ _ _
    rw [← this]; exact Hd6.out
  have HC0 : Hid (∀ m, m ≤ 10000 → (d.reads m).count = d.reads (m + 1)) := fun m hm => reads_count Hq.out Hc.out m hm
  have Hmb : Hid (mb < w.heap.size) := by
    obtain ⟨_, _, h, _⟩ := HR.out.mp
    exact lt_of_hp h
  clear hjj hk1
  generalize ((r0.kind : Nat) : Int) = kk0
  go_loopw [44] (fun _ wr => ∃ k : Nat, k ≤ evs.length ∧ JnAt wr (w.heap.size + 1) db ⟨r0.epoch, 1 + evLen (evs.take k), true⟩ ∧ (∃ m, m ≤ 2 * k + 1 ∧ DiskAt wr db bb (d.reads m)) ∧
    (∃ bl, RdAt wr C xb mb bl ((evs.take k).foldl applyEv []) ∧ ∀ b ∈ bl, w.heap.size + 2 ≤ b) ∧ wr.heap[w.heap.size]? = some (.cells #[.nilIface] 32 (0, 0)) ∧ Fr (fun k => k = db ∨ k = mb) w wr) (fun _ wr => d.blocks.length + 1 - enOf wr (w.heap.size + 1))
  case atStart => exact ⟨0, Nat.zero_le _, Hj6.out, ⟨1, by omega, HD6.out⟩, ⟨[], HR6.out, fun b hb => by simp at hb⟩, He6.out, hF6'.out⟩
  case round =>
    obtain ⟨k, hk, hjk, ⟨m, hm, hdk⟩, ⟨bl, hrk, hbl⟩, hek, hfk⟩ := hrel
    have Hjk := Lib.hid hjk
    have Hdk := Lib.hid hdk
    have Hrk := Lib.hid hrk
    have Hbl := Lib.hid hbl
    have Hek := Lib.hid hek
    have Hfk := Lib.hid hfk
    have Hm := Lib.hid hm
    have hjj := hjk
    unfold JnAt jnCells at hjj
    simp only at hjj
    clear hjk hdk hrk hbl hek hfk hm
    by_cases hkn : k < evs.length
    · obtain ⟨e, he⟩ : ∃ e, evs[k]? = some e := ⟨evs[k], List.getElem?_eq_getElem hkn⟩
      obtain ⟨hl1, hl2⟩ := evLen_take evs k e he
      obtain ⟨ho1, ho2⟩ := evsOk_at Hok.out k e he
      have hon := evsOn_at Hev.out k e he
      have hsg := sgsOk_take Hok.out k
      have hel1 : Hid (evs.length ≤ 1000) := by have := evLen_len evs; have := Hel.out; have := Hb.out; show _ ≤ _; omega
      cases e with
      | moved id rp =>
        obtain ⟨hrp, g, hg, rfl, hgst⟩ := ho1
        obtain ⟨r, hp, hre, hri, hrk, hrs, hrr⟩ := hon
        obtain ⟨i, hi⟩ := List.getElem?_of_mem hg
        have hid1 := hsg.ok g hg
        have hil : 1 + evLen (evs.take k) < d.blocks.length := by have := Hel.out; simp only [Ev.len] at hl2; omega
        have HA := Lib.hid (at_calls Hjk.out Hdk.out Hq.out (1 + evLen (evs.take k)) r true hp hil)
        have hat : atOk ⟨r0.epoch, 1 + evLen (evs.take k), true⟩ (1 + evLen (evs.take k)) r true = true := by simp [atOk, hre, hri]
        rw [hat] at HA
        have HC1 := Lib.hid (HC0.out m (by have := Hm.out; have := hel1.out; omega))
        have hsid : ((r.saga : Nat) : Int) = g.id := by rw [hrs]; have := hid1.1; omega
        have hrpl : ((r.reply : Nat) : Int) = rp := by rw [hrr]; omega
        have HAP : Hid (applyEv ((evs.take k).foldl applyEv []) (.moved g.id rp) = ((evs.take k).foldl applyEv []).set i (g.moved rp)) := map_if_set hsg.ord hi rp
        have Hi := Lib.hid hi
        have Hg := Lib.hid hid1
        have Hsg := Lib.hid hsg
        have Ho2 := Lib.hid ho2
        have Hl1 := Lib.hid hl1
        have Hl2 := Lib.hid hl2
        have Hil := Lib.hid hil
        have Hst2 := Lib.hid hgst
        have Hrk2 := Lib.hid hrk
        have Hsid := Lib.hid hsid
        have Hrpl := Lib.hid hrpl
        have Hkn := Lib.hid hkn
        clear he hl1 hl2 ho2 hsg hrp hg hgst hp hre hri hrk hrs hrr hi hid1 hil hat hsid hrpl hkn
        have hcv := cellv wr
        go_upto_region 8 with (first
          | (go_at_call 106; refine Calls.mono HA.out ?_; rintro e w7 ⟨sv, rfl, hsv, hd7, hf7⟩; obtain ⟨ta, tm, tc, rfl⟩ := own_slice hsv; simp only [rcells])
          | fail)
        rw [HC1.out] at hd7
        have hN8 := (Fr.refl (fun _ => False) w7).alloc (.cells #[.int .u8 r.kind, .int .u32 r.epoch, .int .i64 r.index, .int .i64 r.saga, .int .i64 r.reply, .slice ta tm tc] 91)
        have hr8 := heap_alloc_new w7 (.cells #[.int .u8 r.kind, .int .u32 r.epoch, .int .i64 r.index, .int .i64 r.saga, .int .i64 r.reply, .slice ta tm tc] 91)
        have hf8 : Fr (· = db) wr (w7.alloc (.cells #[.int .u8 r.kind, .int .u32 r.epoch, .int .i64 r.index, .int .i64 r.saga, .int .i64 r.reply, .slice ta tm tc] 91)) := hf7.alloc _
        have hd8 := hd7.new hN8
        rw [Hrk2.out, Hsid.out, Hrpl.out] at hr8 hf8 hd8 ⊢
        generalize w7.alloc _ = W8 at hr8 hf8 hd8 ⊢
        generalize w7.heap.size = B8 at hr8 ⊢
        have hj8 := hf8.get Hjk.out (by have := Hdl.out; omega)
        have he8 := hf8.get Hek.out (by have := Hdl.out; omega)
        have hk8 : FrK [103] wr W8 := hf8.toK (by
          rintro k o rfl ho
          obtain ⟨_, _, _, _, e1, _⟩ := Hdk.out
          rw [e1] at ho; cases ho; simp [kindOf])
        have hR8 := Hrk.out.keepK hk8 (by decide) (by decide) (by decide) (by decide) (by decide)
        have HM := Lib.hid (moved_calls (rp := rp) hR8 Hsg.out.ord Hi.out Hg.out Hst2.out)
        have Hr8 := Lib.hid hr8
        have Hf8 := Lib.hid hf8
        have Hd8 := Lib.hid hd8
        have Hj8 := Lib.hid hj8
        have He8 := Lib.hid he8
        have HR8 := Lib.hid hR8
        have b0 : W8.cell? ⟨B8, 0, none⟩ = some (.int .u8 4) := by rw [cellv, hr8]; rfl
        have b3 : W8.cell? ⟨B8, 3, none⟩ = some (.int .i64 g.id) := by rw [cellv, hr8]; rfl
        have b4 : W8.cell? ⟨B8, 4, none⟩ = some (.int .i64 rp) := by rw [cellv, hr8]; rfl
        clear hcv hjj hf7 hd7 hsv hN8 hr8 hf8 hd8 hj8 he8 hk8 hR8
        go_upto_region 10 with (first
          | (go_at_call 82; refine Calls.mono HM.out ?_; rintro e w9 ⟨rfl, hR9, hf9⟩)
          | fail)
        have hblk : ∀ k, k ∈ bl → w.heap.size + 2 ≤ k := Hbl.out
        have hj9 : JnAt w9 (w.heap.size + 1) db ⟨r0.epoch, 1 + evLen (evs.take k), true⟩ := hf9.get Hj8.out (fun e => by have := hblk _ e; omega)
        have he9 := hf9.get He8.out (fun e => by have := hblk _ e; omega)
        have hd9 : DiskAt w9 db bb (d.reads (m + 1)) := Hd8.out.frame hf9 (fun k hk => by
          have h1 := hblk k hk
          have h2 := Hdl.out
          obtain ⟨i, hi⟩ := List.getElem?_of_mem hk
          obtain ⟨_, e1, _⟩ := HR8.out.sg i _ k (List.getElem?_eq_getElem (by rw [← HR8.out.len]; exact (List.getElem?_eq_some_iff.1 hi).1)) hi
          exact ⟨by omega, by omega, _, e1, by simp [kindOf]⟩)
        have hF9 : Fr (fun k => k = db ∨ k = mb) w w9 := (Hfk.out.trans (Hf8.out.mono (fun _ _ e => .inl e))).trans' hf9 (fun i hi e => by have := hblk i e; omega)
        rw [← HAP.out, ← Ho2.out] at hR9
        have hjj9 := hj9
        unfold JnAt jnCells at hjj9
        simp only at hjj9
        have Hj9 := Lib.hid hj9
        have He9 := Lib.hid he9
        have Hd9 := Lib.hid hd9
        have HF9 := Lib.hid hF9
        have HR9 := Lib.hid hR9
        clear hblk hj9 he9 hd9 hF9 hR9 hf9 b0 b3 b4
        have hcv := cellv w9
        have hfv := frozv w9
        have hw1 : wrap64 (((1 + evLen (evs.take k) : Nat) : Int) + 1) = ((1 + evLen (evs.take (k + 1)) : Nat) : Int) := by
          have h1 := Hl1.out; have h2 := Hl2.out; have h3 := Hel.out; have h4 := Hb.out
          simp only [Ev.len] at h1 h2
          rw [wrap_in _ (by omega)]; omega
        have HEN : Hid (1 + evLen (evs.take (k + 1)) = 1 + evLen (evs.take k) + 1 ∧ 1 + evLen (evs.take k) ≤ d.blocks.length) := by
          have h1 := Hl1.out; have h2 := Hl2.out; have h3 := Hel.out
          simp only [Ev.len] at h1 h2
          exact ⟨by omega, by omega⟩
        generalize hE0 : 1 + evLen (evs.take k) = E0 at hjj9 hw1 Hj9 HEN Hjk
        generalize hE1 : 1 + evLen (evs.take (k + 1)) = E1 at hw1 HEN ⊢
        have HE1 := Lib.hid hE1
        have HE0 := Lib.hid hE0
        clear hE0 hE1
        go_wp2_with fail
        have hj10 : JnAt (w9.setCell ⟨w.heap.size + 1, 2, none⟩ (.int .i64 (E1 : Nat))) (w.heap.size + 1) db ⟨r0.epoch, E1, true⟩ := by
          have h9 := Hj9.out
          unfold JnAt jnCells at h9 ⊢
          rw [hp_setCell, if_pos rfl, h9]; rfl
        have hk10 : FrK [133] w9 (w9.setCell ⟨w.heap.size + 1, 2, none⟩ (.int .i64 (E1 : Nat))) := (Fr.one (w.heap.size + 1) w9 2 _).toK (by
          rintro k o rfl ho
          have h9 := Hj9.out
          unfold JnAt at h9
          rw [h9] at ho; cases ho; simp [kindOf])
        go_roundw
        case rel =>
          refine ⟨k + 1, Hkn.out, by rw [HE1.out]; exact hj10, ⟨m + 1, by have := Hm.out; omega, ?_⟩, ⟨bl, HR9.out.keepK hk10 (by decide) (by decide) (by decide) (by decide) (by decide), Hbl.out⟩, ?_, ?_⟩
          · exact Hd9.out.frame (Fr.one (w.heap.size + 1) w9 2 _) (by rintro k rfl; have := Hdl.out; exact ⟨by omega, by omega, _, Hj9.out, by simp [kindOf]⟩)
          · rw [hp_setCell, if_neg (by omega)]; exact He9.out
          · exact HF9.out.trans' (Fr.one (w.heap.size + 1) w9 2 _) (fun i hi e => by omega)
        case measure =>
          rw [enOf_jn hj10, enOf_jn Hjk.out]
          have := HEN.out
          simp only; omega
      | taken id st =>
        obtain ⟨hnew, hid1, hid2, hsm⟩ := ho1
        obtain ⟨r, t, hp, hre, hri, hrk, hrs, hrst, hp2, hte, hti, htk, hts⟩ := hon
        simp only [Ev.len] at hl1 hl2
        have hil : 1 + evLen (evs.take k) + 1 < d.blocks.length := by have := Hel.out; omega
        have HA := Lib.hid (at_calls Hjk.out Hdk.out Hq.out (1 + evLen (evs.take k)) r true hp (show 1 + evLen (evs.take k) < d.blocks.length by omega))
        have hat : atOk ⟨r0.epoch, 1 + evLen (evs.take k), true⟩ (1 + evLen (evs.take k)) r true = true := by simp [atOk, hre, hri]
        have hat2 : atOk ⟨r0.epoch, 1 + evLen (evs.take k), true⟩ (1 + evLen (evs.take k) + 1) t true = true := by simp [atOk, hte, hti]
        have HA2 := Lib.hid (fun (w' : World) (hj : JnAt w' (w.heap.size + 1) db ⟨r0.epoch, 1 + evLen (evs.take k), true⟩) (hd : DiskAt w' db bb (d.reads (m + 1))) => at_calls hj hd Hq.out (1 + evLen (evs.take k) + 1) t true hp2 hil)
        rw [hat2] at HA2
        rw [hat] at HA
        have HC1 := Lib.hid (HC0.out m (by have := Hm.out; have := hel1.out; omega))
        have HC2 := Lib.hid (HC0.out (m + 1) (by have := Hm.out; have := hel1.out; omega))
        have hsid : ((r.saga : Nat) : Int) = id := by rw [hrs]; omega
        have hsid2 : ((t.saga : Nat) : Int) = id := by rw [hts]; omega
        have HAP : Hid (applyEv ((evs.take k).foldl applyEv []) (.taken id st) = insSaga (SagaM.new id st) ((evs.take k).foldl applyEv [])) := rfl
        have e2 : 1 + evLen (evs.take (k + 1)) = 1 + evLen (evs.take k) + 2 := by omega
        have e3 : 1 + evLen (evs.take k) ≤ 2000 := by have h4 := Hb.out; omega
        have HW1 := Lib.hid (wrap_one (1 + evLen (evs.take k)) e3)
        have HW2 := Lib.hid (wrap_two' (1 + evLen (evs.take k)) (1 + evLen (evs.take (k + 1))) e2 e3)
        have HEN : Hid (1 + evLen (evs.take (k + 1)) = 1 + evLen (evs.take k) + 2 ∧ 1 + evLen (evs.take k) ≤ d.blocks.length) := ⟨by omega, by omega⟩
        have Hsm := Lib.hid hsm
        have Hnew := Lib.hid hnew
        have Hidb := Lib.hid (And.intro hid1 hid2)
        have Hsg := Lib.hid hsg
        have Ho2 := Lib.hid ho2
        have Hrk2 := Lib.hid hrk
        have Htk2 := Lib.hid htk
        have Hsid := Lib.hid hsid
        have Hsid2 := Lib.hid hsid2
        have Hrst := Lib.hid hrst
        have Hkn := Lib.hid hkn
        clear e2 he hl1 hl2 ho2 hsg hnew hid1 hid2 hsm hp hre hri hrk hrs hrst hp2 hte hti htk hts hil hat hat2 hsid hsid2 hkn e3
        have hcv := cellv wr
        go_upto_region 8 with (first
          | (go_at_call 106; refine Calls.mono HA.out ?_; rintro e w7 ⟨sv, rfl, hsv, hd7, hf7⟩; obtain ⟨ta, tm, tc, rfl⟩ := own_slice hsv; simp only [rcells])
          | fail)
        rw [HC1.out] at hd7
        have hN8 := (Fr.refl (fun _ => False) w7).alloc (.cells #[.int .u8 r.kind, .int .u32 r.epoch, .int .i64 r.index, .int .i64 r.saga, .int .i64 r.reply, .slice ta tm tc] 91)
        have hr8 := heap_alloc_new w7 (.cells #[.int .u8 r.kind, .int .u32 r.epoch, .int .i64 r.index, .int .i64 r.saga, .int .i64 r.reply, .slice ta tm tc] 91)
        have hf8 : Fr (· = db) wr (w7.alloc (.cells #[.int .u8 r.kind, .int .u32 r.epoch, .int .i64 r.index, .int .i64 r.saga, .int .i64 r.reply, .slice ta tm tc] 91)) := hf7.alloc _
        have hd8 := hd7.new hN8
        have hst8 : StepsAt (w7.alloc (.cells #[.int .u8 r.kind, .int .u32 r.epoch, .int .i64 r.index, .int .i64 r.saga, .int .i64 r.reply, .slice ta tm tc] 91)) (.slice ta tm tc) st := by
          rw [Hrst.out] at hsv
          exact (hsv.at (by have := Hsm.out.1; have := Hsm.out.2.1; omega)).frame hN8 (fun _ f => f.elim)
        rw [Hrk2.out, Hsid.out] at hr8 hf8 hd8 hst8 ⊢
        generalize w7.alloc _ = W8 at hr8 hf8 hd8 hst8 ⊢
        generalize w7.heap.size = B8 at hr8 ⊢
        have hne8 : ¬ (w.heap.size + 1 = db) := by have := Hdl.out; omega
        have hj80 := Fr.get (k := w.heap.size + 1) hf8 Hjk.out hne8
        clear hne8
        have hj8 : JnAt W8 (w.heap.size + 1) db ⟨r0.epoch, 1 + evLen (evs.take k), true⟩ := hj80
        clear hj80
        have hne8 : ¬ (w.heap.size = db) := by have := Hdl.out; omega
        have he8 := Fr.get (k := w.heap.size) hf8 Hek.out hne8
        clear hne8
        have Hr8 := Lib.hid hr8
        have Hf8 := Lib.hid hf8
        have Hd8 := Lib.hid hd8
        have Hj8 := Lib.hid hj8
        have He8 := Lib.hid he8
        have Hst8 := Lib.hid hst8
        have HA3 := Lib.hid (HA2.out W8 hj8 hd8)
        have b0 : W8.cell? ⟨B8, 0, none⟩ = some (.int .u8 2) := by rw [cellv, hr8]; rfl
        have hjj8 := hj8
        unfold JnAt jnCells at hjj8
        simp only at hjj8
        have j2 : W8.cell? ⟨w.heap.size + 1, 2, none⟩ = some (.int .i64 ((1 + evLen (evs.take k) : Nat) : Int)) := by rw [cellv, hjj8]; rfl
        clear hcv hjj hf7 hd7 hsv hN8 hr8 hf8 hd8 hj8 he8 hst8 hjj8
        have hw1 := HW1.out
        generalize hE2 : 1 + evLen (evs.take k) + 1 = E2 at hw1 HA3 HW1
        generalize hE0 : 1 + evLen (evs.take k) = E0 at j2 hw1 HA3 Hj8 HEN HW2 Hjk HW1 hE2
        have HE2 := Lib.hid hE2
        have HE0 := Lib.hid hE0
        clear hE2 hE0
        go_upto_region 13 with (first
          | (go_at_call 106; refine Calls.mono HA3.out ?_; rintro e w10 ⟨sv2, rfl, hsv2, hd10, hf10⟩; obtain ⟨tb, tn, td, rfl⟩ := own_slice hsv2; simp only [rcells])
          | fail)
        rw [HC2.out] at hd10
        have hN11 := (Fr.refl (fun _ => False) w10).alloc (.cells #[.int .u8 t.kind, .int .u32 t.epoch, .int .i64 t.index, .int .i64 t.saga, .int .i64 t.reply, .slice tb tn td] 91)
        have hr11 := heap_alloc_new w10 (.cells #[.int .u8 t.kind, .int .u32 t.epoch, .int .i64 t.index, .int .i64 t.saga, .int .i64 t.reply, .slice tb tn td] 91)
        have hf11 : Fr (· = db) W8 (w10.alloc (.cells #[.int .u8 t.kind, .int .u32 t.epoch, .int .i64 t.index, .int .i64 t.saga, .int .i64 t.reply, .slice tb tn td] 91)) := hf10.alloc _
        have hd11 := hd10.new hN11
        rw [Htk2.out, Hsid2.out] at hr11 hf11 hd11 ⊢
        generalize w10.alloc _ = W11 at hr11 hf11 hd11 ⊢
        generalize w10.heap.size = B12 at hr11 ⊢
        have hneD : ∀ k o, W8.heap[k]? = some o → kindOf o ≠ 103 → ¬ k = db := by
          rintro k o ho hk rfl
          obtain ⟨_, _, _, _, e1, _⟩ := Hd8.out
          rw [e1] at ho; cases ho; simp [kindOf] at hk
        have hr8' := Fr.get (k := B8) hf11 Hr8.out (hneD _ _ Hr8.out (by simp [kindOf]))
        have hj11 := Fr.get (k := w.heap.size + 1) hf11 Hj8.out (hneD _ _ Hj8.out (by simp [kindOf]))
        have he11 := Fr.get (k := w.heap.size) hf11 He8.out (hneD _ _ He8.out (by simp [kindOf]))
        have hk11 : FrK [103] wr W11 := (Hf8.out.trans hf11).toK (by
          rintro k o rfl ho
          obtain ⟨_, _, _, _, e1, _⟩ := Hdk.out
          rw [e1] at ho; cases ho; simp [kindOf])
        have hR11 := Hrk.out.keepK hk11 (by decide) (by decide) (by decide) (by decide) (by decide)
        have hst11 : StepsAt W11 (.slice ta tm tc) st := Hst8.out.frame hf11 (by
          rintro k rfl
          obtain ⟨_, _, _, _, e1, _⟩ := Hd8.out
          exact ⟨_, e1, by simp [kindOf]⟩)
        have HT := Lib.hid (taken_calls (id := id) hR11 hst11 ⟨Hsm.out.1, by have := Hsm.out.2.1; omega⟩ Hidb.out Hnew.out Hsg.out.len)
        have b0 : W11.cell? ⟨B8, 0, none⟩ = some (.int .u8 2) := by rw [cellv, hr8']; rfl
        have b3 : W11.cell? ⟨B8, 3, none⟩ = some (.int .i64 id) := by rw [cellv, hr8']; rfl
        have b5 : W11.cell? ⟨B8, 5, none⟩ = some (.slice ta tm tc) := by rw [cellv, hr8']; rfl
        have t0 : W11.cell? ⟨B12, 0, none⟩ = some (.int .u8 3) := by rw [cellv, hr11]; rfl
        have t3 : W11.cell? ⟨B12, 3, none⟩ = some (.int .i64 id) := by rw [cellv, hr11]; rfl
        have Hf11 := Lib.hid hf11
        have Hd11 := Lib.hid hd11
        have Hj11 := Lib.hid hj11
        have He11 := Lib.hid he11
        have HR11 := Lib.hid hR11
        clear j2 hw1 hd10 hf10 hsv2 hN11 hr11 hf11 hd11 hneD hr8' hj11 he11 hk11 hR11 hst11
        go_upto_region 15 with (first
          | (go_at_call 81; refine Calls.mono HT.out ?_; rintro e w9 ⟨rfl, ⟨BL, hR9, hBL⟩, hf9⟩)
          | fail)
        have hj9 : JnAt w9 (w.heap.size + 1) db ⟨r0.epoch, E0, true⟩ := Fr.get (k := w.heap.size + 1) hf9 Hj11.out (by have := Hmb.out; omega)
        have he9 := Fr.get (k := w.heap.size) hf9 He11.out (by have := Hmb.out; omega)
        have hd9 : DiskAt w9 db bb (d.reads (m + 2)) := Hd11.out.frame hf9 (by
          rintro k rfl
          obtain ⟨es, clock, hmb, _⟩ := HR11.out.mp
          obtain ⟨_, _, _, _, e1, e2, _⟩ := Hd11.out
          exact ⟨fun e => (by rw [e, e1] at hmb; cases hmb), fun e => (by rw [e, e2] at hmb; cases hmb), _, hmb, by simp [kindOf]⟩)
        have hF9 : Fr (fun k => k = db ∨ k = mb) w w9 := ((Hfk.out.trans (Hf8.out.mono (fun _ _ e => .inl e))).trans (Hf11.out.mono (fun _ _ e => .inl e))).trans (hf9.mono (fun _ _ e => .inr e))
        have hBL' : ∀ b ∈ BL, w.heap.size + 2 ≤ b := fun b hb => by
          rcases hBL b hb with h | h
          · exact Hbl.out b h
          · have := lt_of_hp Hj11.out; omega
        rw [← HAP.out, ← Ho2.out] at hR9
        have HBL := Lib.hid hBL'
        have hjj9 := hj9
        unfold JnAt jnCells at hjj9
        simp only at hjj9
        have Hj9 := Lib.hid hj9
        have He9 := Lib.hid he9
        have Hd9 := Lib.hid hd9
        have HF9 := Lib.hid hF9
        have HR9 := Lib.hid hR9
        clear hj9 he9 hd9 hF9 hR9 hf9 b0 b3 b5 t0 t3 hBL hBL'
        have hcv := cellv w9
        have hfv := frozv w9
        have hw2 := HW2.out
        generalize hE1 : 1 + evLen (evs.take (k + 1)) = E1 at hw2 HEN HW2 ⊢
        have HE1 := Lib.hid hE1
        clear hE1
        go_wp2_with fail
        have hj10 : JnAt (w9.setCell ⟨w.heap.size + 1, 2, none⟩ (.int .i64 (E1 : Nat))) (w.heap.size + 1) db ⟨r0.epoch, E1, true⟩ := by
          have h9 := Hj9.out
          unfold JnAt jnCells at h9 ⊢
          rw [hp_setCell, if_pos rfl, h9]; rfl
        have hk10 : FrK [133] w9 (w9.setCell ⟨w.heap.size + 1, 2, none⟩ (.int .i64 (E1 : Nat))) := (Fr.one (w.heap.size + 1) w9 2 _).toK (by
          rintro k o rfl ho
          have h9 := Hj9.out
          unfold JnAt at h9
          rw [h9] at ho; cases ho; simp [kindOf])
        go_roundw
        case rel =>
          refine ⟨k + 1, Hkn.out, by rw [HE1.out]; exact hj10, ⟨m + 2, by have := Hm.out; omega, ?_⟩, ⟨BL, HR9.out.keepK hk10 (by decide) (by decide) (by decide) (by decide) (by decide), HBL.out⟩, ?_, ?_⟩
          · exact Hd9.out.frame (Fr.one (w.heap.size + 1) w9 2 _) (by rintro k rfl; have := Hdl.out; exact ⟨by omega, by omega, _, Hj9.out, by simp [kindOf]⟩)
          · rw [hp_setCell, if_neg (by omega)]; exact He9.out
          · exact HF9.out.trans' (Fr.one (w.heap.size + 1) w9 2 _) (fun i hi e => by omega)
        case measure =>
          rw [enOf_jn hj10, enOf_jn Hjk.out]
          have := HEN.out
          simp only; omega
    · obtain rfl : k = evs.length := by omega
      rw [List.take_length] at Hjk Hrk hjj
      have HA := Lib.hid (at_full Hjk.out Hdk.out (1 + evLen evs) (by show d.blocks.length ≤ _; have := Hel.out; omega))
      have hcv := cellv wr
      go_upto_region 8 with (first
        | (go_at_call 106; refine Calls.mono HA.out ?_; rintro e w7 ⟨rfl, hf7⟩)
        | fail)
      have hN8 := hf7.alloc (.cells #[.int .u8 0, .int .u32 0, .int .i64 0, .int .i64 0, .int .i64 0, .slice none 0 0] 91)
      have hr8 := heap_alloc_new w7 (.cells #[.int .u8 0, .int .u32 0, .int .i64 0, .int .i64 0, .int .i64 0, .slice none 0 0] 91)
      generalize w7.alloc _ = W8 at hr8 hN8 ⊢
      generalize w7.heap.size = B8 at hr8 ⊢
      have hj8 : JnAt W8 (w.heap.size + 1) db ⟨r0.epoch, 1 + evLen evs, true⟩ := Fr.get (k := w.heap.size + 1) hN8 Hjk.out (fun f => f)
      have he8 := Fr.get (k := w.heap.size) hN8 Hek.out (fun f => f)
      have hd8 := Hdk.out.new hN8
      have hR8 := Hrk.out.keepK (hN8.toK (K := []) (fun _ _ f _ => f.elim)) (by decide) (by decide) (by decide) (by decide) (by decide)
      have hF8 : Fr (fun k => k = db ∨ k = mb) w W8 := Hfk.out.trans (hN8.mono (fun _ _ f => f.elim))
      have hk9 : FrK [33] W8 (W8.setCell ⟨w.heap.size, 0, none⟩ .nilIface) := (Fr.one w.heap.size W8 0 .nilIface).toK (by
        rintro k o rfl ho
        rw [he8] at ho; cases ho; simp [kindOf])
      have hpost : jOpnPost w db bb C xb mb d ⟨r0.epoch, 1 + evLen evs, true⟩ (evs.foldl applyEv []) (.returned (.tuple #[.pointer (some ⟨w.heap.size + 1, 0, none⟩), .nilIface])) (W8.setCell ⟨w.heap.size, 0, none⟩ .nilIface) := by
        refine ⟨w.heap.size + 1, rfl, by omega, ?_, ⟨m, ?_, ?_⟩, ⟨bl, hR8.keepK hk9 (by decide) (by decide) (by decide) (by decide) (by decide), fun b hb => by have := Hbl.out b hb; omega⟩, ?_⟩
        · unfold JnAt
          rw [hp_setCell, if_neg (by omega)]; exact hj8
        · have h1 := Hm.out
          have h2 := evLen_len evs
          have h3 := Hel.out
          have h4 := Hb.out
          omega
        · refine hd8.frame (Fr.one w.heap.size W8 0 .nilIface) ?_
          rintro k rfl
          have := Hdl.out
          exact ⟨by omega, by omega, _, he8, by simp [kindOf]⟩
        · exact hF8.trans' (Fr.one w.heap.size W8 0 .nilIface) (by rintro i hi e; omega)
      have Hpost := Lib.hid hpost
      clear hcv hjj hf7 hN8 hr8 hj8 hd8 hR8 hF8 hk9 hpost
      have hcv := cellv W8
      have hfv := frozv W8
      go_wp2_with fail
      rw [Exit.noGoto_ret]
      refine leaves_cons (f := 103) (args := #[.pointer (some ⟨w.heap.size, 0, none⟩)]) (by simp) (by simp [go_sem]) ?_
      refine (idle103 _ _).mono ?_
      rintro e u' w'' ⟨rfl, rfl, rfl⟩
      have hsome : (W8.setCell ⟨w.heap.size, 0, none⟩ Value.nilIface).cell? ⟨w.heap.size, 0, none⟩ = some .nilIface := by rw [cellv, hp_setCell, if_pos rfl, he8]; rfl
      refine ⟨.tuple #[.pointer (some ⟨w.heap.size + 1, 0, none⟩), .nilIface], ?_, Hpost.out⟩
      simp [results, Tryz.results80, go_sem, hsome]
set_option maxRecDepth 100000 in
set_option maxHeartbeats 4000000 in
theorem sOpen_full {w : World} {db bb : Nat} {d : DiskM} (h : DiskAt w db bb d) (hq : d.quiet) (hc : 0 ≤ d.calls ∧ d.calls < 2 ^ 40) (r0 : RecM) (h0 : parseM (d.look 0) = some (r0, true)) (hk : r0.kind = 1) (evs : List Ev)
    (hev : EvsOn d r0.epoch 1 evs) (hok : EvsOk [] evs) (hel : evLen evs + 1 = d.blocks.length) (hl : d.fits = true) (pause : Int) (hp : 1 ≤ pause ∧ pause ≤ 64) (fn : Fn) (fs cs : Array Value) :
    Calls Tryz.prog 57 #[.iface 27 (.pointer (some ⟨db, 0, none⟩)), .int .i64 pause, .func fn fs cs] w (OpnPost w db bb d ⟨r0.epoch, 1 + evLen evs, true⟩ (evs.foldl applyEv []) pause (.func fn fs cs)) := by
  have hmf : ∀ (fn : Fn) (first cap : Array Value) (w : World), (Instr.makeFunc fn first cap).run Tryz.prog w = .ok (.func fn first cap) w := fun _ _ _ _ => rfl
  have hmm := @run_makeMap Tryz.prog
  have HF := Lib.hid (fits_calls h)
  rw [hl] at HF
  have h2l : 1 < d.blocks.length := by simp [DiskM.fits] at hl; omega
  have hlen : d.blocks.length ≤ 1000 := by simp [DiskM.fits] at hl; omega
  have HJ := Lib.hid (fun (w' : World) (C xb mb : Nat) (h' : DiskAt w' db bb d) (hR : RdAt w' C xb mb [] []) => jOpen_full h' hq hc hlen r0 h0 hk evs hev hok hel h2l hR)
  have Hd := Lib.hid h
  have hdl := disk_lt h
  have Hdl := Lib.hid hdl
  have hp1 : ¬ pause < 1 := by omega
  have hp2 : ¬ (64 : Int) < pause := by omega
  clear h hq hc h0 hk hev hok hel h2l hl hp hlen hdl
  go_enter Tryz.func57, Tryz.ntmps57
  go_upto_region 6 with (first
    | (go_at_call 79; refine Calls.mono HF.out ?_; rintro e w2 ⟨rfl, rfl⟩)
    | fail)
  have hN1 : New w (((w.alloc (.map #[] 0)).alloc (.cells #[.pointer none, .map (some w.heap.size), .int .i64 pause, .func fn fs cs, .int .i64 0, .bool false] 79)).alloc (.cells #[.pointer (some ⟨w.heap.size + 1, 0, none⟩)] 28)) := (((Fr.refl _ w).alloc _).alloc _).alloc _
  have hm0 : (w.alloc (.map #[] 0)).ownsMap Tryz.prog 3 ptrR w.heap.size 0 (dataOf []) := World.ownsMap_made w Tryz.prog 3 ptrR
  have hx0 := heap_alloc_new (w.alloc (.map #[] 0)) (.cells #[.pointer none, .map (some w.heap.size), .int .i64 pause, .func fn fs cs, .int .i64 0, .bool false] 79)
  have hx1 := heap_alloc_keep (.cells #[.pointer (some ⟨w.heap.size + 1, 0, none⟩)] 28) hx0
  have hc1 := heap_alloc_new ((w.alloc (.map #[] 0)).alloc (.cells #[.pointer none, .map (some w.heap.size), .int .i64 pause, .func fn fs cs, .int .i64 0, .bool false] 79)) (.cells #[.pointer (some ⟨w.heap.size + 1, 0, none⟩)] 28)
  have hm1 : (((w.alloc (.map #[] 0)).alloc (.cells #[.pointer none, .map (some w.heap.size), .int .i64 pause, .func fn fs cs, .int .i64 0, .bool false] 79)).alloc (.cells #[.pointer (some ⟨w.heap.size + 1, 0, none⟩)] 28)).ownsMap Tryz.prog 3 ptrR w.heap.size 0 (dataOf []) := map_keepK hm0 ((((Fr.refl (fun _ => False) _).alloc _).alloc _).toK (K := []) (fun _ _ f _ => f.elim)) (by simp)
  rw [sz_alloc] at hx1
  rw [sz_alloc, sz_alloc] at hc1
  have hR1 : RdAt (((w.alloc (.map #[] 0)).alloc (.cells #[.pointer none, .map (some w.heap.size), .int .i64 pause, .func fn fs cs, .int .i64 0, .bool false] 79)).alloc (.cells #[.pointer (some ⟨w.heap.size + 1, 0, none⟩)] 28)) (w.heap.size + 1 + 1) (w.heap.size + 1) w.heap.size [] [] := ⟨hc1, ⟨_, _, _, _, _, hx1⟩, hm1, rfl, fun i g b hg => by simp at hg, by simp⟩
  have HJ1 := Lib.hid (HJ.out _ _ _ _ (Hd.out.new hN1) hR1)
  have HN1 := Lib.hid hN1
  have HM1 := Lib.hid hm1
  have HX1 := Lib.hid hx1
  have HC1 := Lib.hid hc1
  clear hN1 hm0 hx0 hx1 hc1 hm1 hR1
  generalize (((w.alloc (.map #[] 0)).alloc (.cells #[.pointer none, .map (some w.heap.size), .int .i64 pause, .func fn fs cs, .int .i64 0, .bool false] 79)).alloc (.cells #[.pointer (some ⟨w.heap.size + 1, 0, none⟩)] 28)) = W1 at HJ1 HN1 HM1 HX1 HC1 ⊢
  go_upto_region 9 with (first
    | (go_at_call 80; refine Calls.mono HJ1.out ?_; rintro e w2 ⟨jb, rfl, hjs, hj2, ⟨m, hm, hd2⟩, ⟨bl, hR2, hbl⟩, hf2⟩)
    | fail)
  have hlt := Hdl.out
  have hx2 := hf2.get HX1.out (by omega)
  have hc2 := hf2.get HC1.out (by omega)
  have HJs := Lib.hid hjs
  have Hj2 := Lib.hid hj2
  have Hd2 := Lib.hid hd2
  have HR2 := Lib.hid hR2
  have Hbl := Lib.hid hbl
  have Hx2 := Lib.hid hx2
  have HF2 : Hid (Fr (· = db) w w2) := (HN1.out.mono (fun _ _ f => f.elim)).trans' hf2 (fun i hi e => e.elim id (fun e => by omega))
  have hne : w.heap.size + 1 ≠ w.heap.size + 1 + 1 := by omega
  clear hlt hj2 hd2 hf2 hjs hR2 hbl
  have hcv := cellv w2
  have hfv := frozv w2
  go_wp2_with fail
  go_ret2
  have hsz := HN1.out.size
  refine ⟨w.heap.size + 1, jb, w.heap.size, bl, m, rfl, ⟨by omega, Nat.le_trans hsz HJs.out, Nat.le_refl _⟩, hm, ?_, ?_, ?_, ?_, HR2.out.len, ?_, HR2.out.nd, fun b hb => Nat.le_trans hsz (Hbl.out b hb), ?_⟩
  · rw [hp_setCell, if_pos rfl, Hx2.out]; rfl
  · refine JnAt.keepK Hj2.out (K := [80]) ((Fr.one (w.heap.size + 1) w2 0 _).toK ?_) (by decide)
    rintro k o rfl ho
    rw [Hx2.out] at ho; cases ho; simp [kindOf]
  · have := Hdl.out
    exact Hd2.out.frame (Fr.one (w.heap.size + 1) w2 0 _) (by rintro k rfl; exact ⟨by omega, by omega, _, Hx2.out, by simp [kindOf]⟩)
  · refine map_keepK HR2.out.mp (K := [80]) ((Fr.one (w.heap.size + 1) w2 0 _).toK ?_) (by decide)
    rintro k o rfl ho
    rw [Hx2.out] at ho; cases ho; simp [kindOf]
  · refine sgs_keepK HR2.out.sg (K := [80]) ((Fr.one (w.heap.size + 1) w2 0 _).toK ?_) (by decide) (by decide)
    rintro k o rfl ho
    rw [Hx2.out] at ho; cases ho; simp [kindOf]
  · exact HF2.out.trans' (Fr.one (w.heap.size + 1) w2 0 _) (by rintro i hi e; omega)
set_option maxRecDepth 100000 in
set_option maxHeartbeats 4000000 in
/-- plain.Open of a journal, whatever its partner is. -/
theorem pOpen_full {w : World} {db bb pb : Nat} {d : DiskM} (h : DiskAt w db bb d) (hq : d.quiet) (hc : 0 ≤ d.calls ∧ d.calls < 2 ^ 40) (r0 : RecM) (h0 : parseM (d.look 0) = some (r0, true)) (hk : r0.kind = 1) (evs : List Ev)
    (hev : EvsOn d r0.epoch 1 evs) (hok : EvsOk [] evs) (hel : evLen evs + 1 = d.blocks.length) (hl : d.fits = true) (pause : Int) (hpz : 1 ≤ pause ∧ pause ≤ 64) :
    Calls Tryz.prog 30 #[.pointer (some ⟨db, 0, none⟩), .int .i64 pause, .pointer (some ⟨pb, 0, none⟩)] w (OpnPost w db bb d ⟨r0.epoch, 1 + evLen evs, true⟩ (evs.foldl applyEv []) pause (.func (.func 58) #[.pointer (some ⟨pb, 0, none⟩)] #[])) := by
  have hmf : ∀ (fn : Fn) (first cap : Array Value) (w : World), (Instr.makeFunc fn first cap).run Tryz.prog w = .ok (.func fn first cap) w := fun _ _ _ _ => rfl
  have HO := Lib.hid (sOpen_full h hq hc r0 h0 hk evs hev hok hel hl pause hpz (.func 58) #[.pointer (some ⟨pb, 0, none⟩)] #[])
  clear h hq hc h0 hk hev hok hel hl hpz
  go_enter Tryz.func30, Tryz.ntmps30
  go_wp2_with (first
    | (go_at_call 57; refine Calls.mono HO.out ?_; rintro e w2 ⟨xb, jb, mb, bl, m, rfl, hxs, hm10, hx, hj, hd, hm, hlen, hsg, hnd, hbl, hf⟩)
    | fail)
  go_ret2
  exact ⟨xb, jb, mb, bl, m, rfl, hxs, hm10, hx, hj, hd, hm, hlen, hsg, hnd, hbl, hf⟩
end Go.Proofs.YtkafmfdipmhleaaGreatDoor

namespace Go.Proofs.YtkafmfdipmhleaaGreatDoor
open Go.RowKit Go.Maps
/-- A cell of a row. -/
theorem own_cell {w : World} {B e n i : Nat} {v u : Value} {xs : List Value} (h : w.ownsRow B e 1 v n xs) (hi : i < n) (hx : xs[i]? = some u) : ∃ g cap cur, v = .slice (some ⟨g, 0, none⟩) n cap ∧ w.heap[g]? = some (.cells cur e (0, 0)) ∧ cur[i]? = some u := by
  rcases h.2 with ⟨_, h0⟩ | ⟨g, cap, cur, hv, hg, hh, hn, hq1, hq2, htk⟩
  · omega
  · refine ⟨g, cap, cur, hv, hh, ?_⟩
    rw [← htk, List.getElem?_take_of_lt (by omega)] at hx
    simpa using hx
end Go.Proofs.YtkafmfdipmhleaaGreatDoor

namespace Go.Proofs.YtkafmfdipmhleaaGreatDoor
open Go.RowKit Go.Maps
theorem RDok.opn {m : Nat} {o : RD} (h : RDok (m + 1) o) (he : o.ep ≠ 0) : OpnHyp o := by
  have h1 := h.room he
  have h2 := leftSum_nonneg _ h.ok
  by_cases hr : evLen o.evs + 1 < o.n
  · exact h.opnHyp hr he
  · intro w pause hd hp
    have hc := h.cal
    have hep := h.ep
    have hfi := h.fits he
    have hJ := h.je (by omega)
    rcases hJ.parse0 rfl h.pend (by omega) with ⟨h0, _⟩ | ⟨_, h0⟩
    · exact absurd h0 he
    · exact pOpen_full (pb := o.pb) hd h.quiet (by omega) _ h0 rfl o.evs (hJ.evs rfl h.pend) hJ.ok (by rw [h.len]; omega) (h.dfits he) pause hp
/-- A script's world, whatever the engines ask. -/
structure RW0 (w : World) (B wb m : Nat) (l : List RD) (fs : List Bool) : Prop where
  wd : ∃ kv rv sv dv fv ks rs ss, WdR w B wb m kv rv sv dv fv ks rs ss l fs
  ds : ∀ o ∈ l, RunAt w B o
  ok : ∀ o ∈ l, RDok m o
  nd : l.Pairwise ApartR
  lo : B ≤ wb ∧ B ≤ w.heap.size
  len : l.length + m ≤ 60000
theorem RW.r0 {w : World} {B wb m : Nat} {l : List RD} {fs : List Bool} (h : RW w B wb m l fs) : RW0 w B wb m l fs := ⟨h.wd, h.ds, h.ok, h.nd, h.lo, h.len⟩
theorem RW0.rw {w : World} {B wb m : Nat} {l : List RD} {fs : List Bool} (h : RW0 w B wb m l fs) (fa : ∀ (i : Nat) (o : RD) (f : Bool), l[i]? = some o → fs[i]? = some f → ∀ e : EngR, o.x = some e → e.a = if f then askF else askP) : RW w B wb m l fs := ⟨h.wd, h.ds, h.ok, h.nd, h.lo, h.len, fa⟩
theorem apart_at {l : List RD} (h : l.Pairwise ApartR) {i j : Nat} {a b : RD} (hi : l[i]? = some a) (hj : l[j]? = some b) (hne : i ≠ j) : ApartR a b := by
  obtain ⟨p1, q1⟩ := List.getElem?_eq_some_iff.1 hi
  obtain ⟨p2, q2⟩ := List.getElem?_eq_some_iff.1 hj
  have hpw := List.pairwise_iff_getElem.1 h
  rcases Nat.lt_or_ge i j with h3 | h3
  · have := hpw i j p1 p2 h3
    rw [q1, q2] at this; exact this
  · have := hpw j i p2 p1 (by omega)
    rw [q1, q2] at this
    exact fun k h1 h2 => this k h2 h1
theorem ptrsR_set {l : List RD} {k : Nat} {o o' : RD} (hk : l[k]? = some o) (h : o'.kb = o.kb) : ptrsR (l.set k o') = ptrsR l := by
  have hlen : k < l.length := (List.getElem?_eq_some_iff.1 hk).1
  unfold ptrsR
  apply List.ext_getElem?
  intro i
  rw [List.getElem?_map, List.getElem?_map]
  by_cases e : i = k
  · subst e
    rw [List.getElem?_set_self hlen, hk]; simp [h]
  · rw [List.getElem?_set_ne (fun h => e h.symm)]
theorem RW0.disk {Q : RD → Prop} {w w' : World} {B wb m k : Nat} {l : List RD} {fs : List Bool} {o : RD} (h : RW0 w B wb m l fs) (hk : l[k]? = some o) (hT : TurnedTo Q w B m o w') : ∃ o', Q o' ∧ RW0 w' B wb m (l.set k o') fs := by
  obtain ⟨o', hR, hO, ⟨he1, he2, he3, he4⟩, hown, hF, hQ⟩ := hT
  have hmem := List.mem_of_getElem? hk
  have hlen : k < l.length := (List.getElem?_eq_some_iff.1 hk).1
  have hko := h.ds o hmem
  obtain ⟨kv, rv, sv, dv, fv, ks, rs, ss, hw⟩ := h.wd
  have hset : ∀ {x : RD}, x ∈ l.set k o' → x = o' ∨ ∃ i, i ≠ k ∧ l[i]? = some x := by
    intro x hx
    obtain ⟨i, hi⟩ := List.getElem?_of_mem hx
    by_cases e : i = k
    · subst e
      rw [List.getElem?_set_self hlen] at hi
      exact .inl (Option.some.inj hi).symm
    · rw [List.getElem?_set_ne (fun h => e h.symm)] at hi
      exact .inr ⟨i, e, hi⟩
  have hnk : ∀ {e size n : Nat} {v : Value} {xs : List Value}, e + 1 ∈ [119, 160, 5, 193] → w.ownsRow B e size v n xs → ∀ j, o.own j → v.ownBlock ≠ some j := by
    intro e size n v xs he hv j hj hvj
    obtain ⟨c, hc⟩ := own_cells hv hvj
    exact hko.notK hc he hj
  have hw' := hw.fr hF (fun j hj => ⟨fun e => hko.notK hw.cells (by simp [kindOf]) (e ▸ hj), fun e => hw.off o hmem j (.inl e) hj, fun e => hw.off o hmem j (.inr e) hj, hnk (by simp) hw.stps j hj, hnk (by simp) hw.dsks j hj, hnk (by simp) hw.fls j hj⟩)
  refine ⟨o', hQ, ⟨kv, rv, sv, dv, fv, ks, rs, ss, ?_⟩, ?_, ?_, ?_, ⟨h.lo.1, Nat.le_trans h.lo.2 hF.size⟩, by rw [List.length_set]; exact h.len⟩
  · refine ⟨hw'.cells, hw'.keep, hw'.reps, hw'.apart, hw'.stps, by rw [List.length_set, ptrsR_set hk he1]; exact hw'.dsks, hw'.fls, by rw [List.length_set]; exact hw'.num, hw'.lk, hw'.lr, hw'.ls, fun x hx j hj => ?_⟩
    rcases hset hx with rfl | ⟨i, _, hi⟩
    · intro h2
      rcases hown j h2 with h3 | h3
      · exact hw.off o hmem j hj h3
      · rcases hj with hj | hj
        · have := (hw.keep.lt j hj).2; omega
        · have := (hw.reps.lt j hj).2; omega
    · exact hw.off x (List.mem_of_getElem? hi) j hj
  · intro x hx
    rcases hset hx with rfl | ⟨i, hne, hi⟩
    · exact hR
    · have hxm := List.mem_of_getElem? hi
      exact (h.ds x hxm).fr (h.ok x hxm).pend hF (fun j hj => apart_at h.nd hk hi (fun e => hne e.symm) j hj) (fun j hj => hko.kRO hj)
  · intro x hx
    rcases hset hx with rfl | ⟨i, _, hi⟩
    · exact hO
    · exact h.ok x (List.mem_of_getElem? hi)
  · have hap : ∀ (i : Nat) (x : RD), i ≠ k → l[i]? = some x → ∀ j, x.own j → ¬ o'.own j := by
      intro i x hne hi j h1 h2
      rcases hown j h2 with h3 | h3
      · exact apart_at h.nd hk hi (fun e => hne e.symm) j h3 h1
      · have := (h.ds x (List.mem_of_getElem? hi)).lt h1; omega
    rw [List.pairwise_iff_getElem]
    intro i j hi hj hij z h1 h2
    simp only [List.length_set] at hi hj
    rw [List.getElem_set] at h1 h2
    split at h1
    · rename_i e1
      rw [if_neg (by omega)] at h2
      exact hap j _ (by omega) (List.getElem?_eq_getElem hj) z h2 h1
    · rename_i e1
      split at h2
      · exact hap i _ (fun e => e1 e.symm) (List.getElem?_eq_getElem hi) z h1 h2
      · exact apart_at h.nd (List.getElem?_eq_getElem hi) (List.getElem?_eq_getElem hj) (by omega) z h1 h2
/-- What a disk's turn leaves of what its engine asks. -/
theorem fa_keep {l : List RD} {fs : List Bool} {k : Nat} {o o' : RD} (hk : l[k]? = some o) (h : ∀ (i : Nat) (o : RD) (f : Bool), l[i]? = some o → fs[i]? = some f → ∀ e : EngR, o.x = some e → e.a = if f then askF else askP) (hQ : KeepA o o') :
    ∀ (i : Nat) (x : RD) (f : Bool), (l.set k o')[i]? = some x → fs[i]? = some f → ∀ e : EngR, x.x = some e → e.a = if f then askF else askP := by
  intro i x f hi hf e he
  have hlen : k < l.length := (List.getElem?_eq_some_iff.1 hk).1
  by_cases e1 : i = k
  · subst e1
    rw [List.getElem?_set_self hlen] at hi
    cases hi
    obtain ⟨e0, h1, h2⟩ := hQ e he
    rw [h2]; exact h i o f hk hf e0 h1
  · rw [List.getElem?_set_ne (fun h => e1 h.symm)] at hi
    exact h i x f hi hf e he
theorem fa_noX {l : List RD} {fs : List Bool} {k : Nat} {o o' : RD} (hk : l[k]? = some o) (h : ∀ (i : Nat) (o : RD) (f : Bool), l[i]? = some o → fs[i]? = some f → ∀ e : EngR, o.x = some e → e.a = if f then askF else askP) (hQ : NoX o') :
    ∀ (i : Nat) (x : RD) (f : Bool), (l.set k o')[i]? = some x → fs[i]? = some f → ∀ e : EngR, x.x = some e → e.a = if f then askF else askP :=
  fa_keep hk h (fun e he => by
    have h' : o'.x = none := hQ
    rw [h'] at he; cases he)
theorem fa_set {l : List RD} {fs : List Bool} {k : Nat} {o o' : RD} {b : Bool} (hk : l[k]? = some o) (hn : fs.length = l.length) (h : ∀ (i : Nat) (o : RD) (f : Bool), l[i]? = some o → fs[i]? = some f → ∀ e : EngR, o.x = some e → e.a = if f then askF else askP) (hQ : ∀ e : EngR, o'.x = some e → e.a = if b then askF else askP) :
    ∀ (i : Nat) (x : RD) (f : Bool), (l.set k o')[i]? = some x → (fs.set k b)[i]? = some f → ∀ e : EngR, x.x = some e → e.a = if f then askF else askP := by
  intro i x f hi hf e he
  have hlen : k < l.length := (List.getElem?_eq_some_iff.1 hk).1
  by_cases e1 : i = k
  · subst e1
    rw [List.getElem?_set_self hlen] at hi
    rw [List.getElem?_set_self (by omega)] at hf
    cases hi; cases hf
    exact hQ e he
  · rw [List.getElem?_set_ne (fun h => e1 h.symm)] at hi hf
    exact h i x f hi hf e he
theorem own_set {w : World} {B e n i g cap : Nat} {u : Value} {xs : List Value} (h : w.ownsRow B e 1 (.slice (some ⟨g, 0, none⟩) n cap) n xs) : (w.setCell ⟨g, i, none⟩ u).ownsRow B e 1 (.slice (some ⟨g, 0, none⟩) n cap) n (xs.set i u) := by
  obtain ⟨h1, h2⟩ := h
  refine ⟨by rw [List.length_set]; exact h1, ?_⟩
  rcases h2 with ⟨h2, _⟩ | ⟨g', cap', cur, hv, hg, hh, hn, hq1, hq2, htk⟩
  · cases h2
  · simp only [Value.slice.injEq, Option.some.injEq] at hv
    obtain ⟨hv1, _, hv3⟩ := hv
    obtain rfl : g' = g := by
      have := congrArg Addr.block hv1
      exact this.symm
    subst hv3
    refine .inr ⟨g', cap, cur.setIfInBounds i u, rfl, hg, ?_, hn, hq1, by simpa using hq2, ?_⟩
    · rw [hp_setCell, if_pos rfl, hh]; rfl
    · rw [← htk, Array.toList_setIfInBounds, List.take_set]
/-- The list of who panics has turned. -/
theorem RW0.setF {w : World} {B wb m k fg fcap fn : Nat} {l : List RD} {fs : List Bool} {kv rv sv dv : Value} {ks rs : List Int} {ss : List (ByteArray × ByteArray)} (h : RW0 w B wb m l fs) (hw : WdR w B wb m kv rv sv dv (.slice (some ⟨fg, 0, none⟩) fn fcap) ks rs ss l fs) (b : Bool) : RW0 (w.setCell ⟨fg, k, none⟩ (.bool b)) B wb m l (fs.set k b) := by
  have hfn : fn = fs.length := by
    rcases hw.fls.2 with ⟨h2, _⟩ | ⟨_, _, _, hv, _⟩
    · cases h2
    · simp only [Value.slice.injEq] at hv; exact hv.2.1
  subst hfn
  obtain ⟨cf, hcf⟩ := own_cells hw.fls (k := fg) rfl
  have hF : Fr (· = fg) w (w.setCell ⟨fg, k, none⟩ (.bool b)) := Fr.one fg w k _
  have hne : ∀ j, j ≠ 5 → ∀ z, z = fg → ∃ ob, w.heap[z]? = some ob ∧ kindOf ob ≠ j := by
    rintro j hj z rfl
    exact ⟨_, hcf, by simp [kindOf]; omega⟩
  have hn : ∀ o ∈ l, ∀ z, z = fg → ¬ o.own z := by
    rintro o ho z rfl
    exact (h.ds o ho).notK hcf (by simp [kindOf])
  refine ⟨⟨kv, rv, sv, dv, .slice (some ⟨fg, 0, none⟩) fs.length fcap, ks, rs, ss, ⟨hF.get hw.cells (fun e => ne_of_kind hw.cells hcf (by simp [kindOf]) e), ownsRow_fr hw.keep hF (hne 4 (by omega)), ownsRow_fr hw.reps hF (hne 4 (by omega)), hw.apart, ownsRow_fr hw.stps hF (hne 193 (by omega)), ownsRow_fr hw.dsks hF (hne 160 (by omega)), ?_, by rw [List.length_set]; exact hw.num, hw.lk, hw.lr, hw.ls, hw.off⟩⟩, ?_, h.ok, h.nd, ⟨h.lo.1, Nat.le_trans h.lo.2 hF.size⟩, h.len⟩
  · rw [List.length_set, List.map_set]
    exact own_set hw.fls
  · refine rds_keep h.ds h.ok hF ?_ hn
    rintro z rfl
    exact ⟨_, hcf, by simp [kindOf, KO]⟩
end Go.Proofs.YtkafmfdipmhleaaGreatDoor

namespace Go.Proofs.YtkafmfdipmhleaaGreatDoor
open Go.RowKit Go.Maps
noncomputable def subR33 : Code := ((Tryz.f112.body).bind (regionAt 33)).getD .skip
set_option maxRecDepth 100000 in
set_option maxHeartbeats 8000000 in
/-- room := d.r.Room(d.n, len(l)) -/
theorem sub_r33 (kb B : Nat) (pz ck nn : Int) (ln sc : Nat) (sa : Option Addr) (c0 c1 c3 c4 c5 lv x1 : Value) (R : List RefM) (W : World)
    (hk : W.heap[kb]? = some (.cells #[c0, c1, .int .i64 nn, c3, c4, c5, .int .i64 pz, .int .i64 ck, .bool false, lv] 165 (0, 0)))
    (hR : RefAt W B lv R) (hl : R.length ≤ 1000) (h6 : ∀ r ∈ R, r.1.steps.length ≤ 6) (hs : ln ≤ 1000)
    {ds : List Deferred} {x3 x4 x5 x6 x7 x8 x9 x10 x11 x12 x13 x14 x15 x16 x17 x18 x19 x20 x21 x22 x23 x24 x25 x26 x27 x28 x29 x30 x31 x32 x33 x34 x35 x36 x37 x38 x39 x40 x41 x42 x43 x44 x45 x46 x47 x48 x49 x50 x51 x52 x53 x54 x55 x56 x57 x58 x59 x60 x61 x62 x63 x64 x65 x66 x67 x68 x69 x70 x71 x72 x73 x74 x75 x76 x77 x78 x79 x80 x81 x82 x83 x84 x85 x86 x87 x88 x89 x90 x91 x92 x93 x94 x95 x96 x97 x98 x99 x100 x101 x102 x103 x104 x105 x106 x107 x108 x109 x110 x111 x112 x113 x114 x115 x116 x117 x118 x119 x120 x121 x122 x123 x124 x125 x126 x127 x128 x129 x130 x131 x132 x133 x134 x135 x136 x137 x138 x139 x140 x141 x142 x143 x144 x145 x146 x147 x148 x149 x150 x151 x152 x153 x154 x155 x156 x157 x158 x159 x160 x161 x162 x163 x164 x165 x166 x167 x168 x169 x170 x171 x172 x173 x174 x175 x176 x177 x178 x179 x180 x181 x182 x183 x184 x185 x186 x187 x188 x189 x190 x191 x192 x193 x194 x195 x196 x197 x198 x199 x200 x201 x202 x203 x204 x205 x206 x207 x208 x209 x210 x211 x212 x213 x214 x215 x216 x217 x218 x219 x220 x221 x222 x223 : Value} {Q : Exit → Act → World → Prop}
    (hQ : ∀ (y179 y180 y181 y182 y183 y184 y185 y186 y187 y188 y189 : Value) (w3 : World), New W w3 → Q .normal ⟨#[.pointer (some ⟨kb, 0, none⟩), x1, .slice sa ln sc, x3,x4,x5,x6,x7,x8,x9,x10,x11,x12,x13,x14,x15,x16,x17,x18,x19, .bool (decide (6 + 2 * (ln : Int) + needM R ≤ nn)), x21,x22,x23,x24,x25,x26,x27,x28,x29,x30,x31,x32,x33,x34,x35,x36,x37,x38,x39,x40,x41,x42,x43,x44,x45,x46,x47,x48,x49,x50,x51,x52,x53,x54,x55,x56,x57,x58,x59,x60,x61,x62,x63,x64,x65,x66,x67,x68,x69,x70,x71,x72,x73,x74,x75,x76,x77,x78,x79,x80,x81,x82,x83,x84,x85,x86,x87,x88,x89,x90,x91,x92,x93,x94,x95,x96,x97,x98,x99,x100,x101,x102,x103,x104,x105,x106,x107,x108,x109,x110,x111,x112,x113,x114,x115,x116,x117,x118,x119,x120,x121,x122,x123,x124,x125,x126,x127,x128,x129,x130,x131,x132,x133,x134,x135,x136,x137,x138,x139,x140,x141,x142,x143,x144,x145,x146,x147,x148,x149,x150,x151,x152,x153,x154,x155,x156,x157,x158,x159,x160,x161,x162,x163,x164,x165,x166,x167,x168,x169,x170,x171,x172,x173,x174,x175,x176,x177,x178,y179,y180,y181,y182,y183,y184,y185,y186,y187,y188,y189,x190,x191,x192,x193,x194,x195,x196,x197,x198,x199,x200,x201,x202,x203,x204,x205,x206,x207,x208,x209,x210,x211,x212,x213,x214,x215,x216,x217,x218,x219,x220,x221,x222,x223], ds⟩ w3) :
    Code.wp Tryz.prog subR33 Q ⟨#[.pointer (some ⟨kb, 0, none⟩), x1, .slice sa ln sc, x3,x4,x5,x6,x7,x8,x9,x10,x11,x12,x13,x14,x15,x16,x17,x18,x19,x20,x21,x22,x23,x24,x25,x26,x27,x28,x29,x30,x31,x32,x33,x34,x35,x36,x37,x38,x39,x40,x41,x42,x43,x44,x45,x46,x47,x48,x49,x50,x51,x52,x53,x54,x55,x56,x57,x58,x59,x60,x61,x62,x63,x64,x65,x66,x67,x68,x69,x70,x71,x72,x73,x74,x75,x76,x77,x78,x79,x80,x81,x82,x83,x84,x85,x86,x87,x88,x89,x90,x91,x92,x93,x94,x95,x96,x97,x98,x99,x100,x101,x102,x103,x104,x105,x106,x107,x108,x109,x110,x111,x112,x113,x114,x115,x116,x117,x118,x119,x120,x121,x122,x123,x124,x125,x126,x127,x128,x129,x130,x131,x132,x133,x134,x135,x136,x137,x138,x139,x140,x141,x142,x143,x144,x145,x146,x147,x148,x149,x150,x151,x152,x153,x154,x155,x156,x157,x158,x159,x160,x161,x162,x163,x164,x165,x166,x167,x168,x169,x170,x171,x172,x173,x174,x175,x176,x177,x178,x179,x180,x181,x182,x183,x184,x185,x186,x187,x188,x189,x190,x191,x192,x193,x194,x195,x196,x197,x198,x199,x200,x201,x202,x203,x204,x205,x206,x207,x208,x209,x210,x211,x212,x213,x214,x215,x216,x217,x218,x219,x220,x221,x222,x223], ds⟩ W := by
  obtain ⟨la, lc, rfl⟩ := hR.shape
  have HS : Hid (∀ w', New W w' → w'.cell? ⟨kb, 6, none⟩ = some (.int .i64 pz) ∧ w'.cell? ⟨kb, 7, none⟩ = some (.int .i64 ck) ∧ w'.cell? ⟨kb, 8, none⟩ = some (.bool false) ∧ w'.cell? ⟨kb, 9, none⟩ = some (.slice la R.length lc) ∧ w'.cell? ⟨kb, 2, none⟩ = some (.int .i64 nn)) := by
    intro w' hf
    simp only [cellv, hf.get hk (fun f => f)]
    exact ⟨rfl, rfl, rfl, rfl, rfl⟩
  have HR : Hid (Calls Tryz.prog 142 #[.agg #[.int .i64 pz, .int .i64 ck, .bool false, .slice la R.length lc], .int .i64 nn, .int .i64 ln] W.drew fun e w' => e = .returned (.bool (decide (6 + 2 * (ln : Int) + needM R ≤ nn))) ∧ New W.drew w') :=
    RoomR_calls (hR.new ((Fr.refl _ W).drew)) hl h6 pz ck nn ln (by omega)
  have HQ := Lib.hid hQ
  obtain ⟨a6, a7, a8, a9, a2⟩ := HS.out W (Fr.refl _ _)
  clear hk hR hl h6 hs hQ
  conv => arg 2; whnf
  go_region_held3 (fun w' => w'.cell? ⟨kb, 6, none⟩ = some (.int .i64 pz) ∧ w'.cell? ⟨kb, 7, none⟩ = some (.int .i64 ck) ∧ w'.cell? ⟨kb, 8, none⟩ = some (.bool false) ∧ w'.cell? ⟨kb, 9, none⟩ = some (.slice la R.length lc) ∧ w'.cell? ⟨kb, 2, none⟩ = some (.int .i64 nn))
    (first | exact HS.out _ ((Fr.refl _ _).drew) | exact HS.out _ ((Fr.refl _ _).drew.trans hf2))
    ((first
      | (go_at_call 142; refine Calls.mono HR.out ?_; rintro e w2 ⟨rfl, hf2⟩)
      | fail))
  exact HQ.out _ _ _ _ _ _ _ _ _ _ _ _ ((Fr.refl _ W).drew.trans hf2)
end Go.Proofs.YtkafmfdipmhleaaGreatDoor

namespace Go.Proofs.YtkafmfdipmhleaaGreatDoor
open Go.RowKit Go.Maps
theorem ins_find (g : SagaM) (l : List SagaM) (hn : ∀ x ∈ l, x.id ≠ g.id) : l.take (findI l g.id) ++ g :: l.drop (findI l g.id) = insSaga g l := by
  induction l with
  | nil => rfl
  | cons a l ih =>
    have ha := hn a (by simp)
    have ih := ih (fun x hx => hn x (by simp [hx]))
    unfold findI at ih ⊢
    rw [List.takeWhile_cons]
    by_cases h : a.id < g.id
    · rw [if_pos (by simpa using h)]
      have h2 : ¬ g.id < a.id := by omega
      simp only [List.length_cons, List.take_succ_cons, List.drop_succ_cons, List.cons_append, insSaga, if_neg h2, ih]
    · rw [if_neg (by simpa using h)]
      have h2 : g.id < a.id := by omega
      simp only [List.length_nil, List.take_zero, List.drop_zero, List.nil_append, insSaga, if_pos h2]
theorem insR_sagas {R : List RefM} {r : RefM} (hn : ∀ x ∈ sagasOf R, x.id ≠ r.1.id) : sagasOf (insR R r) = insSaga r.1 (sagasOf R) := by
  rw [← ins_find r.1 (sagasOf R) hn]
  simp [insR, sagasOf, List.map_take, List.map_drop]
theorem insR_mem {R : List RefM} {r x : RefM} (h : x ∈ insR R r) : x = r ∨ x ∈ R := by
  unfold insR at h
  rw [List.mem_append, List.mem_cons] at h
  rcases h with h | h | h
  · exact .inr (List.mem_of_mem_take h)
  · exact .inl h
  · exact .inr (List.mem_of_mem_drop h)
theorem cap_need (R : List RefM) : capSum (sagasOf R) ≤ needM R := by
  induction R with
  | nil => simp [capSum, needM, sagasOf]
  | cons a R ih =>
    simp [capSum, needM, sagasOf] at ih ⊢
    omega
theorem RDok.room' {m : Nat} {o : RD} (h : RDok m o) {k : Nat} (hr : 6 + 2 * (k : Int) + needM o.R ≤ o.n) : ((1 + evLen o.evs : Nat) : Int) + (2 + (2 * k - 1) + leftSum (sagasOf o.R)) ≤ o.n := by
  have h1 := h.cap
  have h2 := cap_need o.R
  omega
def RD.submit (o : RD) (e : EngR) (id : Int) (l : List (ByteArray × ByteArray)) (bl' : List Nat) (R' : List RefM) (lv' : Value) : RD :=
  { o with d := ((o.st e).submit id l).d, evs := o.evs ++ [.taken id l], R := R', lv := lv', x := some { e with bl := bl', fresh := false } }
theorem RDok.submit {m : Nat} {o : RD} {e : EngR} (hk : RDok (m + 1) o) (hx : o.x = some e) {id : Int} {l : List (ByteArray × ByteArray)} (hw : wholeB id l = true) (hn : ∀ x ∈ sagasOf o.R, x.id ≠ id)
    (hr : ((1 + evLen o.evs : Nat) : Int) + (2 + (2 * l.length - 1) + leftSum (sagasOf o.R)) ≤ o.n) (bl' : List Nat) (R' : List RefM) (lv' : Value) (hR : sagasOf R' = insSaga (SagaM.new id l) (sagasOf o.R)) : RDok m (o.submit e id l bl' R' lv') := by
  have hi := hk.inv hx
  have hJ := submit_J (hk.engJ hx) hi hw hn (by show _ ≤ (o.d.blocks.length : Int); rw [hk.len]; exact hr)
  have hev : evLen (o.evs ++ [.taken id l]) = evLen o.evs + 2 := evLen_snoc _ _
  have hq : (o.d.appendA ⟨o.ep, 1 + evLen o.evs, e.fresh⟩ [bodyRec id l, takenRec id]).1 = ((o.st e).submit id l).d := by
    rw [appendA_quiet hk.quiet]; rfl
  have hg := Grew.appendA o.d ⟨o.ep, 1 + evLen o.evs, e.fresh⟩ [bodyRec id l, takenRec id]
  rw [hq] at hg
  obtain ⟨c1, c2⟩ := hk.cal
  obtain ⟨g1, g2⟩ := hg.1 c1 (by simp; omega)
  simp only [List.length_cons, List.length_nil] at g2
  have hsg : sagasOf (o.submit e id l bl' R' lv').R = ((o.st e).submit id l).sagas := hR
  refine ⟨(settle_quiet _ _ hk.quiet).append _ _ _, append_pend _ _ _ _ (settle_pend _ _ hk.pend), ?_, hk.nl, ⟨g1, by show ((o.st e).submit id l).d.calls + _ ≤ _; omega⟩, fun _ => hJ.je, by show o.ep + m ≤ _; have := hk.ep; omega, ?_, ?_, ?_, ?_, fun _ => ?_, hk.fits, fun h => absurd h (hk.epx hx), hk.fine.less (by omega), ?_, ⟨hk.clock.1, by show o.ck + m ≤ _; have := hk.clock.2; omega⟩, fun e' he' => ?_⟩
  · show ((o.st e).submit id l).d.blocks.length = o.n
    show ((settleD _ o.d).append _ _ _).blocks.length = _
    rw [append_len, settle_len _ _ hk.pend]; exact hk.len
  · rw [hsg]; exact hJ.sg
  · rw [hsg]; exact hJ.cap
  · rw [hsg]
    intro g hg
    rcases insSaga_mem.1 hg with rfl | hg
    · exact new_ok hw
    · exact hk.ok g hg
  · rw [hsg]; exact insSaga_ord _ _ hk.ord hn
  · rw [hsg]
    show ((1 + evLen (o.evs ++ [.taken id l]) : Nat) : Int) + leftSum (insSaga (SagaM.new id l) (sagasOf o.R)) ≤ o.n
    rw [insSaga_sum, new_left, hev]
    omega
  · rw [hsg]
    intro g hg
    rcases insSaga_mem.1 hg with rfl | hg
    · show (0 : Int) + 2000 * m < _
      have := hk.fine.1
      omega
    · have := hk.tries g hg; omega
  · simp only [RD.submit, Option.some.injEq] at he'
    subst he'
    exact hk.eng e hx
end Go.Proofs.YtkafmfdipmhleaaGreatDoor

namespace Go.Proofs.YtkafmfdipmhleaaGreatDoor
open Go.RowKit Go.Maps
theorem engB_kind {w : World} {B : Nat} {o : RD} {e : EngR} (h : RunAt w B o) (hx : o.x = some e) {k : Nat} (hk : EngB (o.pl_ e) k) : o.own k ∧ ∃ ob, w.heap[k]? = some ob ∧ kindOf ob ∈ [80, 133, 0, 103, 104] := by
  obtain ⟨hs, _⟩ := h.eng e hx
  obtain ⟨_, _, _, _, e1, e2, _⟩ := h.dk
  rcases hk with rfl | rfl | rfl | rfl | rfl
  · exact ⟨.inr (.inr (.inr (.inr (.inr (.inr (.inr (.inr ⟨e, hx, .inl rfl⟩))))))), _, hs.eng, by simp [kindOf]⟩
  · exact ⟨.inr (.inr (.inr (.inr (.inr (.inr (.inr (.inr ⟨e, hx, .inr (.inl rfl)⟩))))))), _, hs.jn, by simp [kindOf]⟩
  · obtain ⟨es, clock, hb, _⟩ := hs.mp
    exact ⟨.inr (.inr (.inr (.inr (.inr (.inr (.inr (.inr ⟨e, hx, .inr (.inr (.inl rfl))⟩))))))), _, hb, by simp [kindOf]⟩
  · exact ⟨.inr (.inl rfl), _, e1, by simp [kindOf]⟩
  · exact ⟨.inr (.inr (.inl rfl)), _, e2, by simp [kindOf]⟩
theorem StpH.fr {w w' : World} {S : Nat → Prop} {g : Nat} {l : List (ByteArray × ByteArray)} (h : StpH w g l) (hf : Fr S w w') (hS : ¬ S g) : StpH w' g l := by
  obtain ⟨c, h1, r⟩ := h
  exact ⟨c, hf.get h1 hS, r⟩
theorem StpH.kind {w : World} {g k : Nat} {ob : Obj} {l : List (ByteArray × ByteArray)} (h : StpH w g l) (hk : w.heap[k]? = some ob) (hn : kindOf ob ≠ 55) : ¬ k = g := by
  obtain ⟨c, h1, r⟩ := h
  rintro rfl
  rw [h1] at hk; cases hk
  exact hn (by simp [kindOf])
/-- The four cells of what is known of the sagas. -/
def setR (w : World) (kb : Nat) (pz ck : Int) (lv : Value) : World := (((w.setCell ⟨kb, 6, none⟩ (.int .i64 pz)).setCell ⟨kb, 7, none⟩ (.int .i64 ck)).setCell ⟨kb, 8, none⟩ (.bool false)).setCell ⟨kb, 9, none⟩ lv
theorem setR_fr (w : World) (kb : Nat) (pz ck : Int) (lv : Value) : Fr (· = kb) w (setR w kb pz ck lv) := (((Fr.one kb w 6 _).trans (Fr.one kb _ 7 _)).trans (Fr.one kb _ 8 _)).trans (Fr.one kb _ 9 _)
theorem setR_get {w : World} {kb : Nat} {pz ck : Int} {lv c0 c1 c2 c3 c4 c5 c6 c7 c8 c9 : Value} (h : w.heap[kb]? = some (.cells #[c0, c1, c2, c3, c4, c5, c6, c7, c8, c9] 165 (0, 0))) : (setR w kb pz ck lv).heap[kb]? = some (.cells #[c0, c1, c2, c3, c4, c5, .int .i64 pz, .int .i64 ck, .bool false, lv] 165 (0, 0)) := by
  unfold setR
  simp only [hp_setCell, if_true, h]; rfl
theorem TurnedTo.submit {w w3 w4 w5 w8 w9 : World} {B m : Nat} {o : RD} {e : EngR} (h : RunAt w B o) (hk : RDok (m + 1) o) (hx : o.x = some e) {id : Int} {sv : Value} {l : List (ByteArray × ByteArray)} {ev lv2 : Value} {g mb Wb : Nat} (hBw : B ≤ w.heap.size)
    (hf3 : New w w3) (hS : SubP w3 o e id l 0 true ev w4) (hgw : w.heap.size ≤ g) (hg3 : g < w3.heap.size) (hsh : StpH w4 g l) (hf5 : Fr (· = g) w4 w5) (hf8 : New w5 w8) (hf9 : New w8 w9) (hmb : w9.heap[mb]? = some (.cells #[.int .i64 1, .int .i64 1] 220 (0, 0)))
    (hown : w9.ownsRow Wb 223 7 lv2 (insR o.R (SagaM.new id l, sv, .slice (some ⟨mb, 0, none⟩) 1 1)).length (allR (insR o.R (SagaM.new id l, sv, .slice (some ⟨mb, 0, none⟩) 1 1)))) (hWb : w8.heap.size ≤ Wb) (hstp : StpR w5 sv l) (href : RefAt w5 B o.lv o.R)
    (hw : wholeB id l = true) (hn : ∀ x ∈ sagasOf o.R, x.id ≠ id) (hr : ((1 + evLen o.evs : Nat) : Int) + (2 + (2 * l.length - 1) + leftSum (sagasOf o.R)) ≤ o.n) : TurnedTo (KeepA o) w B m o (setR w9 o.kb o.pz o.ck lv2) := by
  have h3 := h.new hk.pend hf3
  have hEB : ∀ k, EngB (o.pl_ e) k → o.own k ∧ ∃ ob, w3.heap[k]? = some ob ∧ kindOf ob ∈ [80, 133, 0, 103, 104] := fun k hk => engB_kind h3 hx hk
  have hnk : ∀ {k : Nat} {ob : Obj}, w3.heap[k]? = some ob → kindOf ob ∉ [80, 133, 0, 103, 104] → ¬ EngB (o.pl_ e) k := by
    intro k ob h1 h2 h3
    obtain ⟨_, ob', h4, h5⟩ := hEB k h3
    rw [h1] at h4; cases h4
    exact h2 h5
  obtain ⟨bl', hV, hbl, hnew⟩ := hS.yes rfl
  have hpd : ((o.st e).submit id l).d.pend = none := append_pend _ _ _ _ (settle_pend _ _ hk.pend)
  have hV5 := StV.still (h.eng e hx).1 hV hf3 hS.fr hgw hg3 (by obtain ⟨c, h1, _⟩ := hsh; exact ⟨c, h1⟩) hbl hnew hpd hf5
  have hf59 := hf8.trans hf9
  have hFE := setR_fr w9 o.kb o.pz o.ck lv2
  have keep : ∀ {k : Nat} {ob : Obj}, w3.heap[k]? = some ob → kindOf ob ∉ [80, 133, 0, 103, 104] → kindOf ob ≠ 55 → w9.heap[k]? = some ob := by
    intro k ob h1 h2 h3
    have h4 := hS.fr.get h1 (hnk h1 h2)
    exact hf59.get (hf5.get h4 (hsh.kind h4 h3)) (fun f => f)
  have hkb9 := keep h3.st (by simp [kindOf]) (by simp [kindOf])
  have hps9 := keep h3.ps (by simp [kindOf]) (by simp [kindOf])
  have hkE := setR_get (pz := o.pz) (ck := o.ck) (lv := lv2) hkb9
  have hpE := hFE.get hps9 (ne_of_kind hps9 hkb9 (by simp [kindOf]))
  have hVE : StV e.cv (setR w9 o.kb o.pz o.ck lv2) (o.pl_ e) bl' ((o.st e).submit id l) := (hV5.new hf59).keepK (K := [166]) (hFE.toK (by
    rintro k ob rfl ho
    rw [hkb9] at ho; cases ho; simp [kindOf])) (by decide)
  have hsE : ∀ k, k = o.kb → ∃ ob, w9.heap[k]? = some ob ∧ kindOf ob = 166 := by
    rintro k rfl
    exact ⟨_, hkb9, by simp [kindOf]⟩
  have hsz3 := hf3.size
  have hsz4 := hS.fr.size
  have hsz5 := hf5.size
  have hsz8 := hf8.size
  have hsg := insR_sagas (r := (SagaM.new id l, sv, .slice (some ⟨mb, 0, none⟩) 1 1)) hn
  refine ⟨o.submit e id l bl' (insR o.R (SagaM.new id l, sv, .slice (some ⟨mb, 0, none⟩) 1 1)) lv2, ⟨?_, hVE.dk, hpE, hVE.pt, h.pi, ⟨?_, ?_⟩, ?_, ?_⟩, hk.submit hx hw hn hr _ _ _ hsg, ⟨rfl, rfl, rfl, rfl⟩, ?_, ?_, ?_⟩
  · rw [show o.submit e id l bl' (insR o.R (SagaM.new id l, sv, .slice (some ⟨mb, 0, none⟩) 1 1)) lv2 = { o with d := ((o.st e).submit id l).d, evs := o.evs ++ [.taken id l], R := insR o.R (SagaM.new id l, sv, .slice (some ⟨mb, 0, none⟩) 1 1), lv := lv2, x := some { e with bl := bl', fresh := false } } from rfl]
    rw [hkE]
    simp only [rdCells, xvOf, hx]
  · exact own_baseW (own_frS hown hFE (fun k hk e => by
      obtain ⟨c, hc⟩ := own_cells hown hk
      exact ne_of_kind hc hkb9 (by simp [kindOf]) e)) (by omega)
  · intro r hr'
    rcases insR_mem hr' with rfl | hr'
    · refine ⟨(hstp.new hf59).fr hFE (fun k hk => ?_), ⟨mb, 1, _, rfl, hFE.get hmb (fun e => ne_of_kind hmb hkb9 (by simp [kindOf]) e), rfl, rfl⟩⟩
      obtain ⟨ob, h1, h2⟩ := hsE k hk
      exact ⟨ob, h1, by omega⟩
    · refine ((href.new hf59).ok r hr').fr hFE (fun k hk => ?_)
      obtain ⟨ob, h1, h2⟩ := hsE k hk
      exact ⟨ob, h1, by simp; omega⟩
  · intro e' he'
    simp only [RD.submit, Option.some.injEq] at he'
    subst he'
    refine ⟨?_, (h.eng e hx).2⟩
    have hst : (o.submit e id l bl' (insR o.R (SagaM.new id l, sv, .slice (some ⟨mb, 0, none⟩) 1 1)) lv2).st { e with bl := bl', fresh := false } = (o.st e).submit id l := by
      have hev : evLen (o.evs ++ [.taken id l]) = evLen o.evs + 2 := evLen_snoc _ _
      show (⟨o.pz, o.ck, sagasOf (insR o.R (SagaM.new id l, sv, .slice (some ⟨mb, 0, none⟩) 1 1)), ⟨o.ep, 1 + evLen (o.evs ++ [.taken id l]), false⟩, ((o.st e).submit id l).d, o.p⟩ : StM) = _
      rw [hsg, hev]; rfl
    rw [hst]
    exact hVE
  · intro k hk'
    rcases hk' with e1 | e1 | e1 | e1 | e1 | e1 | e1 | e1 | ⟨e', he', e1⟩
    · exact h.lo k (.inl e1)
    · exact h.lo k (.inr (.inl e1))
    · exact h.lo k (.inr (.inr (.inl e1)))
    · exact h.lo k (.inr (.inr (.inr (.inl e1))))
    · have := (hown.lt k e1).1; omega
    · exact h.lo k (.inr (.inr (.inr (.inr (.inr (.inl e1))))))
    · exact h.lo k (.inr (.inr (.inr (.inr (.inr (.inr (.inl e1)))))))
    · exact h.lo k (.inr (.inr (.inr (.inr (.inr (.inr (.inr (.inl e1))))))))
    · simp only [RD.submit, Option.some.injEq] at he'
      subst he'
      rcases e1 with e1 | e1 | e1 | e1
      · exact h.lo k (.inr (.inr (.inr (.inr (.inr (.inr (.inr (.inr ⟨e, hx, .inl e1⟩))))))))
      · exact h.lo k (.inr (.inr (.inr (.inr (.inr (.inr (.inr (.inr ⟨e, hx, .inr (.inl e1)⟩))))))))
      · exact h.lo k (.inr (.inr (.inr (.inr (.inr (.inr (.inr (.inr ⟨e, hx, .inr (.inr (.inl e1))⟩))))))))
      · rcases hbl k e1 with e2 | e2
        · exact h.lo k (.inr (.inr (.inr (.inr (.inr (.inr (.inr (.inr ⟨e, hx, .inr (.inr (.inr e2))⟩))))))))
        · omega
  · intro k hk'
    rcases hk' with e1 | e1 | e1 | e1 | e1 | e1 | e1 | e1 | ⟨e', he', e1⟩
    · exact .inl (.inl e1)
    · exact .inl (.inr (.inl e1))
    · exact .inl (.inr (.inr (.inl e1)))
    · exact .inl (.inr (.inr (.inr (.inl e1))))
    · exact .inr (by have := (hown.lt k e1).1; omega)
    · exact .inl (.inr (.inr (.inr (.inr (.inr (.inl e1))))))
    · exact .inl (.inr (.inr (.inr (.inr (.inr (.inr (.inl e1)))))))
    · exact .inl (.inr (.inr (.inr (.inr (.inr (.inr (.inr (.inl e1))))))))
    · simp only [RD.submit, Option.some.injEq] at he'
      subst he'
      rcases e1 with e1 | e1 | e1 | e1
      · exact .inl (.inr (.inr (.inr (.inr (.inr (.inr (.inr (.inr ⟨e, hx, .inl e1⟩))))))))
      · exact .inl (.inr (.inr (.inr (.inr (.inr (.inr (.inr (.inr ⟨e, hx, .inr (.inl e1)⟩))))))))
      · exact .inl (.inr (.inr (.inr (.inr (.inr (.inr (.inr (.inr ⟨e, hx, .inr (.inr (.inl e1))⟩))))))))
      · rcases hbl k e1 with e2 | e2
        · exact .inl (.inr (.inr (.inr (.inr (.inr (.inr (.inr (.inr ⟨e, hx, .inr (.inr (.inr e2))⟩))))))))
        · exact .inr (by omega)
  · refine (((hf3.mono (fun _ _ f => f.elim)).trans (hS.fr.mono (fun k _ hk => (hEB k hk).1))).trans' hf5 (fun i hi e => by omega)).trans ((hf59.mono (fun _ _ f => f.elim)).trans (hFE.mono (fun _ _ e => .inl e)))
  · intro e' he'
    simp only [RD.submit, Option.some.injEq] at he'
    subst he'
    exact ⟨e, hx, rfl⟩
end Go.Proofs.YtkafmfdipmhleaaGreatDoor
