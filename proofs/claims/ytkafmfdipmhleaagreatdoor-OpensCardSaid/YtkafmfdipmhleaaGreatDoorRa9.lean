/-
  What is proved: the contract of journal.Open, of an empty journal, on a disk that tells no errors. append of a made slice of noughts to a slice of ints of the call's own. contracts of sagas.Open and plain.Open, of an empty journal, on a disk that tells no errors; of plain.Format and NewPartner. contracts of the statements' small helpers: pick, many, few, steps; NewPartner. the contract of the statements' helper steps. the disk behind a Format; the first engine of 'begun'. (No program in sight.) the contract of Status. the contract of the statements' helper reached.
-/
import Derived.Test.YtkafmfdipmhleaaGreatDoorRa8
import Derived.WalkMore
import Derived.Lib.AppendZeros
import Derived.Laws.AppendOwn
import Derived.Carry

namespace Go.Proofs.YtkafmfdipmhleaaGreatDoor
open Go.RowKit Go.Maps

def jOpenPost (w : World) (db bb : Nat) (d : DiskM) (j : JnM) (e : Ending) (w' : World) : Prop :=
  ∃ jb, e = .returned (.tuple #[.pointer (some ⟨jb, 0, none⟩), .nilIface]) ∧ w.heap.size ≤ jb ∧ JnAt w' jb db j ∧ DiskAt w' db bb d ∧ Fr (· = db) w w'
set_option maxRecDepth 100000 in
set_option maxHeartbeats 4000000 in
theorem jOpen0_calls {w : World} {db bb : Nat} {d : DiskM} (h : DiskAt w db bb d) (hq : d.quiet) (r0 r1 : RecM) (ok1 : Bool) (h0 : parseM (d.look 0) = some (r0, true)) (hk : r0.kind = 1) (h1 : parseM (d.look 1) = some (r1, ok1))
    (hat : atOk ⟨r0.epoch, 1, true⟩ 1 r1 ok1 = false) (hl : 1 < d.blocks.length) (tv mv : Value) :
    Calls Tryz.prog 80 #[.iface 27 (.pointer (some ⟨db, 0, none⟩)), tv, mv] w (jOpenPost w db bb d.count.count ⟨r0.epoch, 1, true⟩) := by
  have hmf : ∀ (fn : Fn) (first cap : Array Value) (w : World), (Instr.makeFunc fn first cap).run Tryz.prog w = .ok (.func fn first cap) w := fun _ _ _ _ => rfl
  have hlk := DiskM.look_length h.wf (show 0 < d.blocks.length by omega)
  have hdl := disk_lt h
  have Hq := Lib.hid hq
  have H0 := Lib.hid h0
  have Hk := Lib.hid hk
  have H1 := Lib.hid h1
  have Hat := Lib.hid hat
  have Hl := Lib.hid hl
  have Hlk := Lib.hid hlk
  have Hd := Lib.hid h
  have Hdl := Lib.hid hdl
  clear h hq h0 hk h1 hat hl hlk hdl
  go_enter_defers Tryz.func80, Tryz.ntmps80
  go_upto_region 1 with fail
  apply wp_scope_straight
  go_upto_region 3 with fail
  have hN1 : New w ((w.alloc (.cells #[.nilIface] 32)).alloc (.cells #[.iface 27 (.pointer (some ⟨db, 0, none⟩)), .int .u32 0, .int .i64 1, .bool true] 132)) := ((Fr.refl _ w).alloc _).alloc _
  have he1 := heap_alloc_keep (.cells #[.iface 27 (.pointer (some ⟨db, 0, none⟩)), .int .u32 0, .int .i64 1, .bool true] 132) (heap_alloc_new w (.cells #[.nilIface] 32))
  have hj1 := heap_alloc_new (w.alloc (.cells #[.nilIface] 32)) (.cells #[.iface 27 (.pointer (some ⟨db, 0, none⟩)), .int .u32 0, .int .i64 1, .bool true] 132)
  rw [sz_alloc] at hj1
  have hsz1 : ((w.alloc (.cells #[.nilIface] 32)).alloc (.cells #[.iface 27 (.pointer (some ⟨db, 0, none⟩)), .int .u32 0, .int .i64 1, .bool true] 132)).heap.size = w.heap.size + 1 + 1 := by rw [sz_alloc, sz_alloc]
  have HN1 := Lib.hid hN1
  have HE1 := Lib.hid he1
  have HJ1 := Lib.hid hj1
  have Hsz1 := Lib.hid hsz1
  clear hN1 he1 hsz1
  generalize ((w.alloc (.cells #[.nilIface] 32)).alloc (.cells #[.iface 27 (.pointer (some ⟨db, 0, none⟩)), .int .u32 0, .int .i64 1, .bool true] 132)) = W1 at HN1 HE1 HJ1 Hsz1 hj1 ⊢
  have Hd1 := Lib.hid (Hd.out.new HN1.out)
  have hcv := cellv W1
  go_upto_region 4 with (first
    | (go_at_call 105; refine Calls.mono (read_quiet Hd1.out Hq.out 0 (by have := Hl.out; omega)) ?_; rintro e w2 ⟨g, hg, rfl, hgc, hd2, hf2⟩)
    | (go_at_call 104; refine Calls.mono (parse_calls w2 g _ 5 (d.look 0) r0 true Hlk.out hgc (by intro j hj; simp [Hlk.out, hj]) H0.out) ?_; rintro e w3 ⟨sv, rfl, hsv, hf3⟩; obtain ⟨sa, sm, sc, rfl⟩ := own_slice hsv; simp only [rcells])
    | fail)
  have hlt := Hdl.out
  have hs1 := HN1.out.size
  have hf23 : Fr (· = db) W1 w3 := hf2.trans (hf3.mono (fun _ _ f => f.elim))
  have hf24 : Fr (· = db) W1 (w3.alloc (.cells #[.int .u8 r0.kind, .int .u32 r0.epoch, .int .i64 r0.index, .int .i64 r0.saga, .int .i64 r0.reply, .slice sa sm sc] 91)) := hf23.alloc _
  have hj4 := hf24.get HJ1.out (by omega)
  have he4 := hf24.get HE1.out (by omega)
  have hr4 := heap_alloc_new w3 (.cells #[.int .u8 r0.kind, .int .u32 r0.epoch, .int .i64 r0.index, .int .i64 r0.saga, .int .i64 r0.reply, .slice sa sm sc] 91)
  have hd4 := hd2.new (hf3.alloc (.cells #[.int .u8 r0.kind, .int .u32 r0.epoch, .int .i64 r0.index, .int .i64 r0.saga, .int .i64 r0.reply, .slice sa sm sc] 91))
  have hne4 : w3.heap.size ≠ w.heap.size + 1 ∧ w3.heap.size ≠ w.heap.size := by have := hf23.size; have := Hsz1.out; omega
  have Hne4 := Lib.hid hne4
  have Hf4 := Lib.hid hf24
  have Hj4 := Lib.hid hj4
  have He4 := Lib.hid he4
  have Hd4 := Lib.hid hd4
  clear hlt hs1 hf23 hf24 he4 hd4 hne4 hcv hj1 hsv hf2 hf3 hd2 hg hgc
  generalize w3.alloc (.cells #[.int .u8 r0.kind, .int .u32 r0.epoch, .int .i64 r0.index, .int .i64 r0.saga, .int .i64 r0.reply, .slice sa sm sc] 91) = W4 at Hf4 Hj4 He4 Hd4 hj4 hr4 ⊢
  generalize hB : w3.heap.size = B at Hne4 hr4 ⊢
  clear hB
  have hk1 : r0.kind = 1 := Hk.out
  rw [hk1] at hr4
  have hcv := cellv W4
  have hfv := frozv W4
  go_upto_region 7 with fail
  have hj6 : JnAt (W4.setCell ⟨w.heap.size + 1, 1, none⟩ (.int .u32 r0.epoch)) (w.heap.size + 1) db ⟨r0.epoch, 1, true⟩ := by
    unfold JnAt
    rw [hp_setCell, if_pos rfl, hj4]; rfl
  have he6 : (W4.setCell ⟨w.heap.size + 1, 1, none⟩ (.int .u32 r0.epoch)).heap[w.heap.size]? = some (.cells #[.nilIface] 32 (0, 0)) := by
    rw [hp_setCell, if_neg (by omega), He4.out]
  have hd6 := Hd4.out.frame (Fr.one (w.heap.size + 1) W4 1 (.int .u32 r0.epoch)) (by
    rintro k rfl
    have := Hdl.out
    exact ⟨by omega, by omega, _, Hj4.out, by simp [kindOf]⟩)
  have hF6 : Fr (· = db) w (W4.setCell ⟨w.heap.size + 1, 1, none⟩ (.int .u32 r0.epoch)) :=
    ((HN1.out.mono (fun _ _ f => f.elim)).trans Hf4.out).trans' (Fr.one (w.heap.size + 1) W4 1 _) (by rintro i hi e; omega)
  have Hj6 := Lib.hid hj6
  have He6 := Lib.hid he6
  have Hd6 := Lib.hid hd6
  have HF6 := Lib.hid hF6
  have hjj := hj6
  unfold JnAt jnCells at hjj
  simp only at hjj
  clear hj6 he6 hd6 hF6 hcv hfv hj4 hr4
  generalize W4.setCell ⟨w.heap.size + 1, 1, none⟩ (.int .u32 r0.epoch) = W6 at Hj6 He6 Hd6 HF6 hjj ⊢
  apply wp_label
  go_wp2_with fail
  refine wp_loop_rounds 1 ?_
  rw [rounds_succ]
  have HA := Lib.hid (at_calls Hj6.out Hd6.out Hq.out.count 1 r1 ok1 H1.out Hl.out)
  rw [Hat.out] at HA
  have hcv := cellv W6
  go_upto_region 8 with (first
    | (go_at_call 106; refine Calls.mono HA.out ?_; rintro e w7 ⟨sv, rfl, hsv, hd7, hf7⟩; obtain ⟨ta, tm, tc, rfl⟩ := own_slice hsv; simp only [rcells])
    | fail)
  have hlt := Hdl.out
  have hj8 : JnAt (w7.alloc (.cells #[.int .u8 r1.kind, .int .u32 r1.epoch, .int .i64 r1.index, .int .i64 r1.saga, .int .i64 r1.reply, .slice ta tm tc] 91)) (w.heap.size + 1) db ⟨r0.epoch, 1, true⟩ := (hf7.alloc (.cells #[.int .u8 r1.kind, .int .u32 r1.epoch, .int .i64 r1.index, .int .i64 r1.saga, .int .i64 r1.reply, .slice ta tm tc] 91)).get Hj6.out (by omega)
  have he8 := (hf7.alloc (.cells #[.int .u8 r1.kind, .int .u32 r1.epoch, .int .i64 r1.index, .int .i64 r1.saga, .int .i64 r1.reply, .slice ta tm tc] 91)).get He6.out (by omega)
  have hd8 := hd7.new ((Fr.refl _ w7).alloc (.cells #[.int .u8 r1.kind, .int .u32 r1.epoch, .int .i64 r1.index, .int .i64 r1.saga, .int .i64 r1.reply, .slice ta tm tc] 91))
  have hF8 := HF6.out.trans (hf7.alloc (.cells #[.int .u8 r1.kind, .int .u32 r1.epoch, .int .i64 r1.index, .int .i64 r1.saga, .int .i64 r1.reply, .slice ta tm tc] 91))
  have Hj8 := Lib.hid hj8
  have He8 := Lib.hid he8
  have Hd8 := Lib.hid hd8
  have HF8 := Lib.hid hF8
  clear hlt hj8 he8 hd8 hF8 hsv hd7 hf7 hcv hjj
  generalize w7.alloc (.cells #[.int .u8 r1.kind, .int .u32 r1.epoch, .int .i64 r1.index, .int .i64 r1.saga, .int .i64 r1.reply, .slice ta tm tc] 91) = W8 at Hj8 He8 Hd8 HF8 ⊢
  have hec := He8.out
  have hcv := cellv W8
  have hfv := frozv W8
  go_wp2_with fail
  rw [Exit.noGoto_ret]
  refine leaves_cons (f := 103) (args := #[.pointer (some ⟨w.heap.size, 0, none⟩)]) (by simp) (by simp [go_sem]) ?_
  refine (idle103 _ _).mono ?_
  rintro e u' w'' ⟨rfl, rfl, rfl⟩
  have hsome : (W8.setCell ⟨w.heap.size, 0, none⟩ Value.nilIface).cell? ⟨w.heap.size, 0, none⟩ = some .nilIface := by rw [cellv, hp_setCell, if_pos rfl, hec]; rfl
  refine ⟨.tuple #[.pointer (some ⟨w.heap.size + 1, 0, none⟩), .nilIface], ?_, w.heap.size + 1, rfl, by omega, ?_, ?_, ?_⟩
  · simp [results, Tryz.results80, go_sem, hsome]
  · unfold JnAt
    rw [hp_setCell, if_neg (by omega)]; exact Hj8.out
  · have := Hdl.out
    exact Hd8.out.frame (Fr.one w.heap.size W8 0 .nilIface) (by rintro k rfl; exact ⟨by omega, by omega, _, hec, by simp [kindOf]⟩)
  · exact HF8.out.trans' (Fr.one w.heap.size W8 0 .nilIface) (by rintro i hi e; omega)
end Go.Proofs.YtkafmfdipmhleaaGreatDoor

namespace Go.Proofs.YtkafmfdipmhleaaGreatDoor
open Go.RowKit

theorem Tryz.info3z : (Tryz.prog.info? 3).map (fun i => (i.zero, i.size, i.bytes)) = some (some (.int .i64 0), 1, 8) := by kernel_rfl
theorem zeros_cells (m : Nat) : Builtin.zeroCells (Value.int .i64 0).cells m = (List.replicate m (Value.int .i64 0)).toArray := by
  apply Array.ext'
  simp only [Builtin.zeroCells, Value.cells, Array.toList_map, Array.toList_range]
  apply List.ext_getElem?
  intro i
  by_cases h : i < m
  · simp [h, Nat.mod_one]
  · simp [h]
theorem run_append_zeros (w : World) (base ty : Nat) (v : Value) (n m : Nat) (xs : List Value) (hown : w.ownsRow base 3 1 v n xs) (hm : 0 < m) (h63 : n + m ≤ 1000000) (hbase : base ≤ w.heap.size) :
    ∃ v' w', (Builtin.append_ #[22, 3] ty #[v, .int .i64 (m : Int)]).run Tryz.prog w = .ok v' w' ∧ w'.ownsRow base 3 1 v' (n + m) (xs ++ List.replicate m (.int .i64 0)) ∧ w.grownBy w' v.ownBlock := by
  obtain ⟨i, hi, hz, hs, hb⟩ := info_parts Tryz.info3z
  have ht := Tryz.underlying22
  have hti := Tryz.underlying3
  have hmn : m ≠ 0 := by omega
  have hw : IntKind.i64.wrap (m : Int) = m := by rw [IntKind.wrap_i64]; omega
  have h48i : ¬ (281474976710656 < (m : Int) * 8) := by omega
  have hneg : ¬ ((m : Int) < 0) := by omega
  have hlx := hown.1
  have hlen : (xs ++ List.replicate m (Value.int .i64 0)).length = (n + m) * 1 := by rw [List.length_append, hlx]; simp
  have h63' : ¬ (9223372036854775807 < ((n : Int) + (m : Int))) := by omega
  have grown : ∀ (old : Nat), old < n + m → ∀ (row : Option Nat),
      (w.drew.alloc (.cells (xs.toArray ++ (List.replicate m (Value.int .i64 0)).toArray ++ Builtin.zeroCells (Value.int .i64 0).cells (grownCap w (n + m) old 3 - (n + m))) 3)).ownsRow base 3 1
        (.slice (some ⟨w.heap.size, 0, none⟩) (n + m) (grownCap w (n + m) old 3)) (n + m) (xs ++ List.replicate m (.int .i64 0)) ∧
      w.grownBy (w.drew.alloc (.cells (xs.toArray ++ (List.replicate m (Value.int .i64 0)).toArray ++ Builtin.zeroCells (Value.int .i64 0).cells (grownCap w (n + m) old 3 - (n + m))) 3)) row := by
    intro old ho row
    have hge := grownCap_ge w (n + m) old 3
    have hcm : grownCap w (n + m) old 3 ≤ maxLen := grownCap_le_maxLen w (n + m) old 3 (by unfold maxLen; omega)
    refine ⟨⟨hlen, .inr ⟨w.heap.size, _, _, rfl, hbase, heap_alloc_new w.drew _, hge, hcm, ?_, ?_⟩⟩, ⟨rfl, rfl, rfl, by simp, fun k hk _ => heap_alloc_old w.drew _ hk⟩⟩
    · simp only [Array.size_append, List.size_toArray, size_zeroCells, hlx, List.length_replicate, show (Value.int .i64 0).cells.size = 1 from rfl]
      omega
    · simp only [Array.toList_append, List.append_assoc]
      rw [← List.append_assoc, ← hlen]
      exact List.take_left
  rcases hown.2 with ⟨rfl, rfl⟩ | ⟨g, cap, cur, rfl, hbg, hg, hnc, hcm, hcs, htake⟩
  · have hx : xs = [] := List.eq_nil_of_length_eq_zero (by simpa using hown.1)
    subst hx
    have hr := Lib.run_append_nil_zeros (P := Tryz.prog) w 22 3 ty 3 i (.int .i64 0) .i64 .i64 ht hti hi hz m hm (by omega) (by omega) (by rw [hb]; omega)
    have hgr := grown 0 (by omega) (Value.ownBlock (.slice none 0 0))
    simp only [Nat.zero_add, List.nil_append, Array.empty_append] at hgr ⊢
    refine ⟨_, _, hr, ?_, ?_⟩
    · rw [zeros_cells m]; exact hgr.1
    · rw [zeros_cells m]; exact hgr.2
  · by_cases hroom : n + m ≤ cap
    · have hfit : n * 1 + 0 + (List.replicate m (Value.int .i64 0)).length ≤ cur.size := by rw [List.length_replicate, hcs]; omega
      have hst := run_storeCells_at Tryz.prog g (n * 1) 3 (List.replicate m (Value.int .i64 0)) 0 cur w hg hfit (by intro v hv; rw [List.eq_of_mem_replicate hv]; rfl)
      simp only [Nat.add_zero] at hst
      refine ⟨.slice (some ⟨g, 0, none⟩) (n + m) cap, w.setRow g (cur.toList.take (n * 1) ++ List.replicate m (Value.int .i64 0) ++ cur.toList.drop (n * 1 + (List.replicate m (Value.int .i64 0)).length)).toArray, ?_, ⟨hlen, .inr ⟨g, cap, _, rfl, hbg, setRow_heap w g cur _ 3 _ hg, hroom, hcm, ?_, ?_⟩⟩, ⟨rfl, rfl, rfl, by simp, fun k _ hk => setRow_other w g k _ (fun e => hk (by simp [Value.ownBlock, e]))⟩⟩
      · simp [Builtin.append_, run_underlying ht, run_underlying hti, sizeOf, typeInfo, zeroValue, hi, hz, hs, hb, asInt, asIntOf, hw, hmn, hneg, h48i, hroom, zeros_cells, Addr.add_lit]
        have hst' := hst
        simp at hst'
        rw [hst']
        simp
      · simp only [List.size_toArray, List.length_append, List.length_take, List.length_drop, Array.length_toList, List.length_replicate]
        omega
      · rw [htake, ← hlen]
        exact List.take_left
    · have holds : ∀ j u, xs[j]? = some u → w.cell? ((⟨g, 0, none⟩ : Addr).add j) = some u := hown.cells (g := g) rfl
      have hfo := run_firstCells_some (P := Tryz.prog) w.drew 1 n ⟨g, 0, none⟩ n cap xs (by rw [hlx]) (by simpa using holds)
      have h48' : ¬ (281474976710656 < Builtin.nextslicecap (n + m) cap * 8) := by have := growslice_fits (need := n + m) (old := cap) (bytes := 8) (by omega) (by omega); omega
      have hgr := grown cap (by omega) (Value.ownBlock (.slice (some ⟨g, 0, none⟩) n cap))
      refine ⟨.slice (some ⟨w.heap.size, 0, none⟩) (n + m) (grownCap w (n + m) cap 3), _, ?_, hgr.1, hgr.2⟩
      simp [Builtin.append_, run_underlying ht, run_underlying hti, sizeOf, typeInfo, zeroValue, hi, hz, hs, hb, asInt, asIntOf, hw, hmn, hneg, h48i, hroom, h63', h48', Question.forced, hfo, newRow, grownCap, zeros_cells]
theorem wpl_append_zeros {ops : Array Oper} {rest : List Oper} {o : Oper} {a : Act} {w : World} {Q : Exit → Act → World → Prop} (hgd : o.guard = none) (s x : Operand)
    (ho : o.op = .call { callee := .builtin .append, args := #[s, x], argTypes := #[22, 3] })
    (base : Nat) (v : Value) (n m : Nat) (xs : List Value) (hs : a.eval s = v) (hown : w.ownsRow base 3 1 v n xs) (hx : a.eval x = .int .i64 (m : Int)) (hm : 0 < m) (h63 : n + m ≤ 1000000) (hbase : base ≤ w.heap.size)
    (h : ∀ v' w', w'.ownsRow base 3 1 v' (n + m) (xs ++ List.replicate m (.int .i64 0)) → w.grownBy w' v.ownBlock → wpList Tryz.prog ops Q rest (a.put o.dst v') w') : wpList Tryz.prog ops Q (o :: rest) a w := by
  obtain ⟨v', w', hr, h2, h3⟩ := run_append_zeros w base o.type v n m xs hown hm h63 hbase
  exact Lib.wpList_append_run w hgd s x 22 3 ho _ _ hs hx v' w' hr (h v' w' h2 h3)
end Go.Proofs.YtkafmfdipmhleaaGreatDoor

namespace Go.Proofs.YtkafmfdipmhleaaGreatDoor
open Go.RowKit Go.Maps

/-- An engine was opened, and it has no saga. -/
def Open0Post (w : World) (db bb : Nat) (d : DiskM) (j : JnM) (pause : Int) (cv : Value) (e : Ending) (w' : World) : Prop :=
  ∃ xb jb mb, e = .returned (.tuple #[.pointer (some ⟨xb, 0, none⟩), .nilIface]) ∧ (w.heap.size ≤ xb ∧ w.heap.size ≤ jb ∧ w.heap.size ≤ mb) ∧ w'.heap[xb]? = some (.cells (egCells jb mb pause cv 0 false) 79 (0, 0)) ∧ JnAt w' jb db j ∧ DiskAt w' db bb d ∧
    w'.ownsMap Tryz.prog 3 ptrR mb 0 (dataOf []) ∧ Fr (· = db) w w'
set_option maxRecDepth 100000 in
set_option maxHeartbeats 4000000 in
theorem sOpen0_calls {w : World} {db bb : Nat} {d : DiskM} (h : DiskAt w db bb d) (hq : d.quiet) (r0 r1 : RecM) (ok1 : Bool) (h0 : parseM (d.look 0) = some (r0, true)) (hk : r0.kind = 1) (h1 : parseM (d.look 1) = some (r1, ok1))
    (hat : atOk ⟨r0.epoch, 1, true⟩ 1 r1 ok1 = false) (hl : d.fits = true) (pause : Int) (hp : 1 ≤ pause ∧ pause ≤ 64) (fn : Fn) (fs cs : Array Value) :
    Calls Tryz.prog 57 #[.iface 27 (.pointer (some ⟨db, 0, none⟩)), .int .i64 pause, .func fn fs cs] w (Open0Post w db bb d.count.count ⟨r0.epoch, 1, true⟩ pause (.func fn fs cs)) := by
  have hmf : ∀ (fn : Fn) (first cap : Array Value) (w : World), (Instr.makeFunc fn first cap).run Tryz.prog w = .ok (.func fn first cap) w := fun _ _ _ _ => rfl
  have hmm := @run_makeMap Tryz.prog
  have HF := Lib.hid (fits_calls h)
  rw [hl] at HF
  have hlen : 1 < d.blocks.length := by simp [DiskM.fits] at hl; omega
  have HJ := Lib.hid (fun (w' : World) (h' : DiskAt w' db bb d) (tv mv : Value) => jOpen0_calls h' hq r0 r1 ok1 h0 hk h1 hat hlen tv mv)
  have Hd := Lib.hid h
  have hdl := disk_lt h
  have Hdl := Lib.hid hdl
  have hp1 : ¬ pause < 1 := by omega
  have hp2 : ¬ (64 : Int) < pause := by omega
  clear h hq h0 hk h1 hat hl hp hlen hdl
  go_enter Tryz.func57, Tryz.ntmps57
  go_upto_region 6 with (first
    | (go_at_call 79; refine Calls.mono HF.out ?_; rintro e w2 ⟨rfl, rfl⟩)
    | fail)
  have hN1 : New w (((w.alloc (.map #[] 0)).alloc (.cells #[.pointer none, .map (some w.heap.size), .int .i64 pause, .func fn fs cs, .int .i64 0, .bool false] 79)).alloc (.cells #[.pointer (some ⟨w.heap.size + 1, 0, none⟩)] 28)) := (((Fr.refl _ w).alloc _).alloc _).alloc _
  have hm0 : (w.alloc (.map #[] 0)).ownsMap Tryz.prog 3 ptrR w.heap.size 0 (dataOf []) := World.ownsMap_made w Tryz.prog 3 ptrR
  have hx0 := heap_alloc_new (w.alloc (.map #[] 0)) (.cells #[.pointer none, .map (some w.heap.size), .int .i64 pause, .func fn fs cs, .int .i64 0, .bool false] 79)
  have hx1 := heap_alloc_keep (.cells #[.pointer (some ⟨w.heap.size + 1, 0, none⟩)] 28) hx0
  have hc1 := heap_alloc_new ((w.alloc (.map #[] 0)).alloc (.cells #[.pointer none, .map (some w.heap.size), .int .i64 pause, .func fn fs cs, .int .i64 0, .bool false] 79)) (.cells #[.pointer (some ⟨w.heap.size + 1, 0, none⟩)] 28)
  have hm1 : (((w.alloc (.map #[] 0)).alloc (.cells #[.pointer none, .map (some w.heap.size), .int .i64 pause, .func fn fs cs, .int .i64 0, .bool false] 79)).alloc (.cells #[.pointer (some ⟨w.heap.size + 1, 0, none⟩)] 28)).ownsMap Tryz.prog 3 ptrR w.heap.size 0 (dataOf []) := map_keepK hm0 ((((Fr.refl (fun _ => False) _).alloc _).alloc _).toK (K := []) (fun _ _ f _ => f.elim)) (by simp)
  rw [sz_alloc] at hx1
  rw [sz_alloc, sz_alloc] at hc1
  have HJ1 := Lib.hid (HJ.out _ (Hd.out.new hN1))
  have HN1 := Lib.hid hN1
  have HM1 := Lib.hid hm1
  have HX1 := Lib.hid hx1
  have HC1 := Lib.hid hc1
  clear hN1 hm0 hx0 hx1 hc1 hm1
  generalize (((w.alloc (.map #[] 0)).alloc (.cells #[.pointer none, .map (some w.heap.size), .int .i64 pause, .func fn fs cs, .int .i64 0, .bool false] 79)).alloc (.cells #[.pointer (some ⟨w.heap.size + 1, 0, none⟩)] 28)) = W1 at HJ1 HN1 HM1 HX1 HC1 ⊢
  go_upto_region 9 with (first
    | (go_at_call 80; refine Calls.mono (HJ1.out _ _) ?_; rintro e w2 ⟨jb, rfl, hjs, hj2, hd2, hf2⟩)
    | fail)
  have hlt := Hdl.out
  have hx2 := hf2.get HX1.out (by omega)
  have hc2 := hf2.get HC1.out (by omega)
  have HJs := Lib.hid hjs
  have Hj2 := Lib.hid hj2
  have Hd2 := Lib.hid hd2
  have Hm2 := Lib.hid (map_keepK HM1.out (hf2.toK (K := [103]) (by
    rintro k o rfl ho
    obtain ⟨_, _, _, _, e1, _⟩ := Hd.out
    have := HN1.out.get e1 (fun f => f)
    rw [this] at ho; cases ho; simp [kindOf])) (by decide))
  have Hx2 := Lib.hid hx2
  have HF2 := Lib.hid ((HN1.out.mono (fun _ _ f => f.elim)).trans hf2)
  have hne : w.heap.size + 1 ≠ w.heap.size + 1 + 1 := by omega
  clear hlt hj2 hd2 hf2 hjs
  have hcv := cellv w2
  have hfv := frozv w2
  go_wp2_with fail
  go_ret2
  refine ⟨w.heap.size + 1, jb, w.heap.size, rfl, ⟨by omega, Nat.le_trans HN1.out.size HJs.out, Nat.le_refl _⟩, ?_, ?_, ?_, ?_, ?_⟩
  · rw [hp_setCell, if_pos rfl, Hx2.out]; rfl
  · refine JnAt.keepK Hj2.out (K := [80]) ((Fr.one (w.heap.size + 1) w2 0 _).toK ?_) (by decide)
    rintro k o rfl ho
    rw [Hx2.out] at ho; cases ho; simp [kindOf]
  · have := Hdl.out
    exact Hd2.out.frame (Fr.one (w.heap.size + 1) w2 0 _) (by rintro k rfl; exact ⟨by omega, by omega, _, Hx2.out, by simp [kindOf]⟩)
  · refine map_keepK Hm2.out (K := [80]) ((Fr.one (w.heap.size + 1) w2 0 _).toK ?_) (by decide)
    rintro k o rfl ho
    rw [Hx2.out] at ho; cases ho; simp [kindOf]
  · exact HF2.out.trans' (Fr.one (w.heap.size + 1) w2 0 _) (by rintro i hi e; omega)

set_option maxRecDepth 100000 in
set_option maxHeartbeats 4000000 in
/-- plain.Open, of an empty journal. -/
theorem pOpen0_calls {w : World} {db bb pb : Nat} {d : DiskM} {p : PartM} (h : DiskAt w db bb d) (hp : PAt w pb p) (hlo : p.lo ≤ db ∧ p.lo ≤ bb) (hq : d.quiet) (r0 r1 : RecM) (ok1 : Bool) (h0 : parseM (d.look 0) = some (r0, true)) (hk : r0.kind = 1) (h1 : parseM (d.look 1) = some (r1, ok1))
    (hat : atOk ⟨r0.epoch, 1, true⟩ 1 r1 ok1 = false) (hl : d.fits = true) (pause : Int) (hpz : 1 ≤ pause ∧ pause ≤ 64) :
    Calls Tryz.prog 30 #[.pointer (some ⟨db, 0, none⟩), .int .i64 pause, .pointer (some ⟨pb, 0, none⟩)] w fun e w' => ∃ xb jb mb, e = .returned (.tuple #[.pointer (some ⟨xb, 0, none⟩), .nilIface]) ∧ w.heap.size ≤ xb ∧
      StAt w' ⟨xb, jb, mb, db, bb, pb⟩ [] ⟨pause, 0, [], ⟨r0.epoch, 1, true⟩, d.count.count, p⟩ ∧ Fr (· = db) w w' := by
  have hmf : ∀ (fn : Fn) (first cap : Array Value) (w : World), (Instr.makeFunc fn first cap).run Tryz.prog w = .ok (.func fn first cap) w := fun _ _ _ _ => rfl
  have HO := Lib.hid (sOpen0_calls h hq r0 r1 ok1 h0 hk h1 hat hl pause hpz (.func 58) #[.pointer (some ⟨pb, 0, none⟩)] #[])
  have Hd := Lib.hid h
  have Hp := Lib.hid hp
  have Hlo := Lib.hid hlo
  clear h hp hq h0 hk h1 hat hl hpz hlo
  go_enter Tryz.func30, Tryz.ntmps30
  go_wp2_with (first
    | (go_at_call 57; refine Calls.mono HO.out ?_; rintro e w2 ⟨xb, jb, mb, rfl, hxs, hx, hj, hd, hm, hf⟩)
    | fail)
  go_ret2
  refine ⟨xb, jb, mb, rfl, hxs.1, ⟨hx, hj, hd, ?_, hm, rfl, fun i g b hg => by simp at hg, by simp, ?_⟩, hf⟩
  · refine Hp.out.keepK (hf.toK (K := [103]) ?_) (by decide) (by decide) (by decide) (by decide)
    rintro k o rfl ho
    obtain ⟨_, _, _, _, e1, _⟩ := Hd.out
    rw [e1] at ho; cases ho; simp [kindOf]
  · have hb : p.lo ≤ w.heap.size := by
      obtain ⟨⟨_, _, _, _, h1, _, _, _, hb, _⟩⟩ := Hp.out
      have := lt_of_hp h1; omega
    have := Hlo.out
    exact ⟨Nat.le_trans hb hxs.1, Nat.le_trans hb hxs.2.1, Nat.le_trans hb hxs.2.2, Hlo.out.1, Hlo.out.2, fun b hb => by simp at hb⟩
theorem sfmt_ret {w w2 : World} {db bb ep : Nat} {d : DiskM} {e : Ending} (he : sFmtPost w db bb d ep e w2) : ∃ v, e = .returned v := by
  unfold sFmtPost at he
  split at he
  · exact ⟨_, he.1⟩
  · obtain ⟨v, h, _⟩ := he; exact ⟨v, h⟩
set_option maxHeartbeats 1000000 in
theorem pFormat_calls {w : World} {db bb : Nat} {d : DiskM} (h : DiskAt w db bb d) (hq : d.quiet) (hp : d.pend = none) (r : RecM) (ok : Bool) (hpm : parseM (d.look 0) = some (r, ok)) :
    Calls Tryz.prog 39 #[.pointer (some ⟨db, 0, none⟩)] w (sFmtPost w db bb d (nextEpoch r ok)) := by
  have HF := Lib.hid (sFormat_calls h hq hp r ok hpm)
  clear h hq hp hpm
  go_enter Tryz.func39, Tryz.ntmps39
  go_wp2_with (first
    | (go_at_call 61; refine Calls.mono HF.out ?_; rintro e w2 he; obtain ⟨v, rfl⟩ := sfmt_ret he)
    | fail)
  go_ret
  exact he
end Go.Proofs.YtkafmfdipmhleaaGreatDoor

namespace Go.Proofs.YtkafmfdipmhleaaGreatDoor
open Go.RowKit Go.Maps

def i64 (c : Int) : Prop := -9223372036854775808 ≤ c ∧ c ≤ 9223372036854775807
def pickM (c n : Int) : Int := (if c < 0 then -(c + 1) else c) % n
theorem pickM_range (c n : Int) (hn : 0 < n) : 0 ≤ pickM c n ∧ pickM c n < n := ⟨Int.emod_nonneg _ (by omega), Int.emod_lt_of_pos _ hn⟩
theorem pick_calls (w : World) (c n : Int) (hc : i64 c) (hn : 0 < n ∧ n ≤ 9223372036854775807) :
    Calls Tryz.prog 16 #[.int .i64 c, .int .i64 n] w fun e w' => e = .returned (.int .i64 (pickM c n)) ∧ w' = w := by
  unfold i64 at hc
  have hn0 : (n == 0) = false := by simp; omega
  by_cases h : c < 0
  · have h1 : wrap64 (c + 1) = c + 1 := wrap_in _ (by omega)
    have h2 : wrap64 (-(c + 1)) = -(c + 1) := wrap_in _ (by omega)
    have h3 : (-(c + 1)).tmod n = -(c + 1) % n := Int.tmod_eq_emod_of_nonneg (by omega)
    have h4 : wrap64 (-(c + 1) % n) = -(c + 1) % n := wrap_in _ (by have := Int.emod_nonneg (-(c + 1)) (show n ≠ 0 by omega); have := Int.emod_lt_of_pos (-(c + 1)) hn.1; omega)
    have hp : Hid (pickM c n = -(c + 1) % n) := by show _ = _; simp [pickM, h]
    go_enter Tryz.func16, Tryz.ntmps16
    go_wp2
    go_ret
    exact ⟨by rw [hp.out]; rfl, rfl⟩
  · have h3 : c.tmod n = c % n := Int.tmod_eq_emod_of_nonneg (by omega)
    have h4 : wrap64 (c % n) = c % n := wrap_in _ (by have := Int.emod_nonneg c (show n ≠ 0 by omega); have := Int.emod_lt_of_pos c hn.1; omega)
    have hp : Hid (pickM c n = c % n) := by show _ = _; simp [pickM, h]
    go_enter Tryz.func16, Tryz.ntmps16
    go_wp2
    go_ret
    exact ⟨by rw [hp.out]; rfl, rfl⟩

def manyM (c id : Int) : Int := 1 + pickM c 1048576 / (1 + 5 * id) % 6
theorem manyM_range (c id : Int) : 1 ≤ manyM c id ∧ manyM c id ≤ 6 := by
  unfold manyM
  have := Int.emod_nonneg (pickM c 1048576 / (1 + 5 * id)) (show (6 : Int) ≠ 0 by decide)
  have := Int.emod_lt_of_pos (pickM c 1048576 / (1 + 5 * id)) (show (0 : Int) < 6 by decide)
  omega
set_option maxHeartbeats 1000000 in
theorem many_calls (w : World) (c id : Int) (hc : i64 c) (hid : 0 ≤ id ∧ id ≤ 1000) :
    Calls Tryz.prog 24 #[.int .i64 c, .int .i64 id] w fun e w' => e = .returned (.int .i64 (manyM c id)) ∧ w' = w := by
  have HP := Lib.hid (pick_calls w c 1048576 hc (by omega))
  have hr := pickM_range c 1048576 (by omega)
  have Hm : Hid (manyM c id = 1 + pickM c 1048576 / (1 + 5 * id) % 6) := rfl
  generalize pickM c 1048576 = k at HP hr Hm
  have h1 : wrap64 (5 * id) = 5 * id := wrap_in _ (by omega)
  have h2 : wrap64 (1 + 5 * id) = 1 + 5 * id := wrap_in _ (by omega)
  have h3 : k.tdiv (1 + 5 * id) = k / (1 + 5 * id) := Int.tdiv_eq_ediv_of_nonneg hr.1
  have hn0 : ((1 + 5 * id) == 0) = false := by simp; omega
  have hq0 : 0 ≤ k / (1 + 5 * id) := Int.ediv_nonneg hr.1 (by omega)
  have hq1 : k / (1 + 5 * id) ≤ k := Int.ediv_le_self _ hr.1
  have h4 : wrap64 (k / (1 + 5 * id)) = k / (1 + 5 * id) := wrap_in _ (by omega)
  have h5 : (k / (1 + 5 * id)).tmod 6 = k / (1 + 5 * id) % 6 := Int.tmod_eq_emod_of_nonneg hq0
  have h6 : wrap64 (k / (1 + 5 * id) % 6) = k / (1 + 5 * id) % 6 := wrap_in _ (by omega)
  have h7 : wrap64 (1 + k / (1 + 5 * id) % 6) = 1 + k / (1 + 5 * id) % 6 := wrap_in _ (by omega)
  clear hc hid hr hq0 hq1
  go_enter Tryz.func24, Tryz.ntmps24
  go_wp2_with (first
    | (go_at_call 16; refine Calls.mono HP.out ?_; rintro e w2 ⟨rfl, rfl⟩)
    | fail)
  go_ret
  exact ⟨by rw [Hm.out]; rfl, rfl⟩

theorem IntsAt.new {w w' : World} {v : Value} {l : List Int} (h : IntsAt w v l) (hf : New w w') : IntsAt w' v l := h.keep (fun _ _ ho _ => hf.get ho (fun f => f))
theorem IntsAt.shape {w : World} {v : Value} {l : List Int} (h : IntsAt w v l) : ∃ a c, v = .slice a l.length c := by
  rcases h with ⟨rfl, a, c, e⟩ | ⟨b, off, cap, c, e, _⟩
  · exact ⟨a, c, e⟩
  · exact ⟨_, _, e⟩
theorem IntsAt.at {w : World} {a : Option Addr} {m c : Nat} {l : List Int} (h : IntsAt w (.slice a m c) l) (k : Nat) (x : Int) (hx : l[k]? = some x) : ∃ b off, a = some ⟨b, off, none⟩ ∧ ∀ w', New w w' → w'.cell? ⟨b, off + k, none⟩ = some (.int .i64 x) := by
  rcases h with ⟨rfl, _⟩ | ⟨b, off, cap, cc, e, h1, h2⟩
  · simp at hx
  · simp only [Value.slice.injEq] at e
    refine ⟨b, off, e.1, fun w' hf => ?_⟩
    rw [cellv, hf.get h1 (fun f => f)]
    exact h2 k x hx
theorem own_New {w w' : World} {B e size n : Nat} {v : Value} {xs : List Value} (h : w.ownsRow B e size v n xs) (hf : New w w') : w'.ownsRow B e size v n xs := own_keepK h (hf.toK (K := []) (fun _ _ f _ => f.elim)) (by simp)
def FewPost (w : World) (l : List Int) (n : Nat) (e : Ending) (w' : World) : Prop := ∃ v, e = .returned v ∧ w'.ownsRow w.heap.size 3 1 v (l.take n).length ((l.take n).map encZ) ∧ New w w'
set_option maxRecDepth 100000 in
set_option maxHeartbeats 2000000 in
theorem few_calls {w : World} {v : Value} {l : List Int} (h : IntsAt w v l) (n : Nat) (hn : n ≤ 1000) :
    Calls Tryz.prog 14 #[v, .int .i64 n] w (FewPost w l n) := by
  obtain ⟨a, c, rfl⟩ := h.shape
  have Hi := Lib.hid h
  obtain ⟨i0, hi, hz0, hz1, hz2⟩ := info_parts Tryz.info3z
  clear h
  go_enter Tryz.func14, Tryz.ntmps14
  go_wp2_with fail
  go_loopw [5, 6] (fun sv i wr => ∃ k : Nat, k ≤ n ∧ k ≤ l.length ∧ i = .int .i64 (k : Nat) ∧ wr.ownsRow w.heap.size 3 1 sv k ((l.take k).map encZ) ∧ New w wr) (fun _ i _ => n - (intOf i).toNat)
  case atStart => exact ⟨0, Nat.zero_le _, Nat.zero_le _, rfl, World.ownsRow_nil w w.heap.size 3 1, Fr.refl _ _⟩
  case round =>
    obtain ⟨k, hk, hkl, rfl, hown, hfr⟩ := hrel
    have Hown := Lib.hid hown
    have Hfr := Lib.hid hfr
    clear hown hfr
    by_cases h1 : k < l.length
    · by_cases h2 : k < n
      · obtain ⟨b, off, rfl, hcell⟩ := Hi.out.at k l[k] (by simp [h1])
        have hc := hcell wr Hfr.out
        have hk1 : (k : Int) < l.length := by omega
        have hk2 : (k : Int) < n := by omega
        have htk : l.take (k + 1) = l.take k ++ [l[k]] := List.take_succ_eq_append_getElem h1
        generalize l[k] = x at hc htk
        have Htk := Lib.hid htk
        have hoA := Lib.hid (Hown.out.alloc (.cells #[.int .i64 x] 3))
        have hnews : ∀ (j : Nat) (u : Value), [Value.int .i64 x][j]? = some u → (wr.alloc (.cells #[.int .i64 x] 3)).cell? ((⟨wr.heap.size, 0, none⟩ : Addr).add j) = some u := World.news_of_block (heap_alloc_new wr _)
        have Hnews := Lib.hid hnews
        clear htk hnews hcell
        have hkn : Hid (k < n ∧ k < l.length) := ⟨h2, h1⟩
        go_wp2_with (first
          | (at_builtin; refine wpList_append_own _ rfl _ _ 22 rfl w.heap.size 3 i0 (.int .i64 0) 1 8 Tryz.underlying22 hi hz0 hz1 hz2 rfl (by decide) _ _ _ rfl hoA.out ⟨wr.heap.size, 0, none⟩ 1 1 [.int .i64 x] rfl rfl Hnews.out (by intro u hu; simp at hu; subst hu; rfl) (by unfold maxLen; omega) (by omega) (by have := Hfr.out.size; simp; omega) ?_; intro sv' w1 hown1 hg1 _; go_frame)
          | fail)
        go_roundw
        case rel =>
          refine ⟨k + 1, hkn.out.1, hkn.out.2, by go_num, ?_, ?_⟩
          · rw [Htk.out, List.map_append]
            exact hown1
          · refine (Hfr.out.alloc _).trans' (Fr.ofGrown hg1) (fun i hi e => ?_)
            have := (Hown.out.lt i e).1
            omega
        case measure => have := hkn.out; simp [intOf]; omega
      · have hk2 : ¬ (k : Int) < n := by omega
        have hk1 : (k : Int) < l.length := by omega
        have he : Hid (k = n) := by show _ = _; omega
        go_wp2_with fail
        go_ret
        refine ⟨_, rfl, ?_, Hfr.out⟩
        have := Hown.out
        rw [he.out] at this
        rw [List.length_take, Nat.min_eq_left (by have := he.out; omega)]
        exact this
    · have hk1 : ¬ (k : Int) < l.length := by omega
      have he : Hid (k = l.length ∧ l.length ≤ n) := by show _ ∧ _; omega
      go_wp2_with fail
      go_ret
      refine ⟨_, rfl, ?_, Hfr.out⟩
      have := Hown.out
      rw [he.out.1, List.take_length] at this
      rw [List.take_of_length_le he.out.2]
      exact this

theorem own_ints {w : World} {B : Nat} {v : Value} {l : List Int} (h : w.ownsRow B 3 1 v l.length (l.map encZ)) : IntsAt w v l := by
  rcases h.2 with ⟨rfl, h0⟩ | ⟨g, cap, cur, hv, hg, hh, hn, _, _, htk⟩
  · exact .inl ⟨List.length_eq_zero_iff.1 h0, none, 0, rfl⟩
  · refine .inr ⟨g, 0, cap, cur, by rw [hv], hh, fun j x hx => ?_⟩
    have hj := (List.getElem?_eq_some_iff.1 hx).1
    rw [Nat.zero_add]
    have : (l.map encZ)[j]? = some (.int .i64 x) := by rw [List.getElem?_map, hx]; rfl
    rw [← htk, List.getElem?_take_of_lt (by omega)] at this
    simpa using this
def NewPPost (w : World) (l : List Int) (lo : Nat) (e : Ending) (w' : World) : Prop := ∃ pb, e = .returned (.pointer (some ⟨pb, 0, none⟩)) ∧ w.heap.size ≤ pb ∧ PAt w' pb ⟨[], [], l, 0, lo⟩ ∧ New w w'
theorem newP_done {w w1 : World} {iv : Value} {l : List Int} {lo : Nat} (hlo : lo ≤ w.heap.size) (hi : IntsAt w1 iv l) (hf : New w w1) (hiv : ∀ a m c, iv = .slice (some a) m c → a.block < w1.heap.size) :
    PAt (w1.alloc (.cells #[.slice none 0 0, .slice none 0 0, iv, .int .i64 0] 44)) w1.heap.size ⟨[], [], l, 0, lo⟩ :=
  ⟨.slice none 0 0, .slice none 0 0, iv, lo, heap_alloc_new w1 _, World.ownsRow_nil _ lo 48 5, World.ownsRow_nil _ lo 46 4, hi.new ((Fr.refl _ w1).alloc _), ⟨by have := hf.size; simp; omega, rfl, by have := hf.size; omega⟩, hiv⟩
set_option maxRecDepth 100000 in
set_option maxHeartbeats 2000000 in
theorem NewPartner_calls {w : World} {v : Value} {l : List Int} (h : IntsAt w v l) (hl : l.length ≤ 1000) (lo : Nat) (hlo : lo ≤ w.heap.size) :
    Calls Tryz.prog 15 #[v] w (NewPPost w l lo) := by
  obtain ⟨i0, hi, hz0, hz1, hz2⟩ := info_parts Tryz.info3z
  by_cases h0 : l = []
  · subst h0
    obtain ⟨a, c, rfl⟩ := h.shape
    have hr : ∀ ty, (Builtin.append_ #[22, 22] ty #[.slice none 0 0, .slice a 0 c]).run Tryz.prog w = .ok (.slice none 0 0) w := by
      intro ty
      simp [Builtin.append_, run_underlying Tryz.underlying22, sizeOf, typeInfo, hi, Builtin.lenOf, Builtin.firstCells]
      cases a <;> simp [Builtin.firstCells, loadCells, loadCellsFrom]
    go_enter Tryz.func15, Tryz.ntmps15
    go_wp2_with (first
      | (at_builtin; refine Lib.wpList_append_run _ rfl _ _ _ _ rfl _ _ rfl rfl _ _ (hr _) ?_; go_frame)
      | fail)
    go_ret
    exact ⟨_, rfl, Nat.le_refl _, newP_done hlo (.inl ⟨rfl, none, 0, rfl⟩) (Fr.refl _ _) (fun a m c e => by cases e), (Fr.refl _ w).alloc _⟩
  · rcases h with ⟨h, _⟩ | ⟨b, off, cap, cc, rfl, hb, hc⟩
    · exact absurd h h0
    have hnews : ∀ (j : Nat) (u : Value), (l.map encZ)[j]? = some u → w.cell? ((⟨b, off, none⟩ : Addr).add j) = some u := by
      intro j u hj
      rw [Addr.add_lit, cellv, hb, cellOf_cells]
      rw [List.getElem?_map] at hj
      cases hx : l[j]? with
      | none => rw [hx] at hj; simp at hj
      | some x => rw [hx] at hj; cases hj; exact hc j x hx
    have Hn := Lib.hid hnews
    have Hl0 := Lib.hid h0
    clear hb hc hnews h0
    go_enter Tryz.func15, Tryz.ntmps15
    go_wp2_with (first
      | (at_builtin; refine wpList_append_own _ rfl _ _ 22 rfl w.heap.size 3 i0 (.int .i64 0) 1 8 Tryz.underlying22 hi hz0 hz1 hz2 rfl (by decide) _ _ _ rfl (World.ownsRow_nil w w.heap.size 3 1) ⟨b, off, none⟩ l.length cap (l.map encZ) rfl (by simp) Hn.out (by intro u hu; rw [List.mem_map] at hu; obtain ⟨x, _, rfl⟩ := hu; rfl) (by unfold maxLen; omega) (by omega) (Nat.le_refl _) ?_; intro sv' w1 hown1 hg1 _; obtain ⟨va, vm, vc, rfl⟩ := own_slice hown1; go_frame)
      | fail)
    go_ret
    rw [Nat.zero_add, List.nil_append] at hown1
    have hf1 : New w w1 := (Fr.ofGrown hg1).mono (fun _ _ e => by cases e)
    refine ⟨_, rfl, hf1.size, newP_done hlo (own_ints hown1) hf1 ?_, hf1.alloc _⟩
    intro a m c e
    have e2 : va = some a := by simp only [Value.slice.injEq] at e; exact e.1
    subst e2
    have := hown1.lt a.block (by
      rcases hown1.2 with ⟨e, _⟩ | ⟨g, cap, cur, e, _⟩
      · cases e
      · simp only [Value.slice.injEq, Option.some.injEq] at e
        rw [e.1]; rfl)
    exact this.2
end Go.Proofs.YtkafmfdipmhleaaGreatDoor

namespace Go.Proofs.YtkafmfdipmhleaaGreatDoor
open Go.RowKit Go.Maps

def by8 (n : Int) : UInt8 := UInt8.ofNat (n % 256).toNat
def kStep (id i : Int) : ByteArray × ByteArray := (⟨#[100, by8 (97 + id), by8 (49 + i)]⟩, ⟨#[117, by8 (97 + id), by8 (49 + i)]⟩)
def kSteps (id : Int) (n : Nat) : List (ByteArray × ByteArray) := (List.range n).map fun (i : Nat) => kStep id i
theorem kSteps_succ (id : Int) (n : Nat) : kSteps id (n + 1) = kSteps id n ++ [kStep id n] := by simp [kSteps, List.range_succ]
theorem kSteps_len (id : Int) (n : Nat) : (kSteps id n).length = n := by simp [kSteps]
theorem conv3 (w : World) (x0 x1 x2 : Int) : (convert 92 9 (.slice (some ⟨w.heap.size, 0, none⟩) 3 3)).run Tryz.prog (w.alloc (.cells #[.int .u8 x0, .int .u8 x1, .int .u8 x2] 5)) =
    .ok (.string ⟨#[UInt8.ofNat x0.toNat, UInt8.ofNat x1.toNat, UInt8.ofNat x2.toNat]⟩) (w.alloc (.cells #[.int .u8 x0, .int .u8 x1, .int .u8 x2] 5)) := by
  have hc : ∀ t, t < 3 → (w.alloc (.cells #[.int .u8 x0, .int .u8 x1, .int .u8 x2] 5)).cell? ⟨w.heap.size, 0 + t, none⟩ = some (.int .u8 ([x0, x1, x2].getD t 0)) := by
    intro t ht
    rw [cellv, heap_alloc_new]
    match t, ht with
    | 0, _ | 1, _ | 2, _ => rfl
  rw [run_convert_bytes_arg (P := Tryz.prog) _ 92 5 Tryz.underlying92 Tryz.underlying5 w.heap.size 0 3 3 [x0, x1, x2] rfl hc 9 Tryz.underlying9]
  rfl
set_option maxRecDepth 100000 in
set_option maxHeartbeats 2000000 in
theorem steps_calls (w : World) (id : Int) (n : Nat) (hid : 0 ≤ id ∧ id ≤ 1000) (hn : n ≤ 1000) :
    Calls Tryz.prog 19 #[.int .i64 id, .int .i64 n] w fun e w' => ∃ v, e = .returned v ∧ StepsVal w' w.heap.size v (kSteps id n) ∧ New w w' := by
  obtain ⟨i0, hi, hz0, hz1, hz2⟩ := info_parts Tryz.info54
  have ha : wrap64 (97 + id) = 97 + id := wrap_in _ (by omega)
  have Hid0 := Lib.hid hid
  clear hid
  go_enter Tryz.func19, Tryz.ntmps19
  go_wp2_with fail
  go_loopw [5, 6] (fun sv i wr => ∃ k : Nat, k ≤ n ∧ i = .int .i64 (k : Nat) ∧ StepsVal wr w.heap.size sv (kSteps id k) ∧ New w wr) (fun _ i _ => n - (intOf i).toNat)
  case atStart => exact ⟨0, Nat.zero_le _, rfl, World.ownsRow_nil w w.heap.size 54 2, Fr.refl _ _⟩
  case round =>
    obtain ⟨k, hk, rfl, hown, hfr⟩ := hrel
    have Hown := Lib.hid hown
    have Hfr := Lib.hid hfr
    clear hown hfr
    by_cases h2 : k < n
    · have hk2 : (k : Int) < n := by omega
      have hb : wrap64 (49 + (k : Int)) = 49 + (k : Int) := wrap_in _ (by omega)
      have hconv := conv3
      have hconv2 := conv3 (wr.alloc (.cells #[.int .u8 100, .int .u8 ((97 + id) % 256), .int .u8 ((49 + (k : Int)) % 256)] 5)) 117 ((97 + id) % 256) ((49 + (k : Int)) % 256)
      rw [sz_alloc] at hconv2
      go_upto_region 7 with fail
      have hN : New wr ((wr.alloc (.cells #[.int .u8 100, .int .u8 ((97 + id) % 256), .int .u8 ((49 + (k : Int)) % 256)] 5)).alloc (.cells #[.int .u8 117, .int .u8 ((97 + id) % 256), .int .u8 ((49 + (k : Int)) % 256)] 5)) := ((Fr.refl _ wr).alloc _).alloc _
      have hst : kStep id k = (⟨#[100, UInt8.ofNat ((97 + id) % 256).toNat, UInt8.ofNat ((49 + k) % 256)]⟩, ⟨#[117, UInt8.ofNat ((97 + id) % 256).toNat, UInt8.ofNat ((49 + k) % 256)]⟩) := by
        have e : ((49 + (k : Int)) % 256).toNat = (49 + k) % 256 := by omega
        simp [kStep, by8, e]
      have Hown2 := Lib.hid (own_New Hown.out hN)
      have Hf2 := Lib.hid (Hfr.out.trans hN)
      have Hst := Lib.hid hst
      clear hN hst hconv hconv2
      generalize ((wr.alloc (.cells #[.int .u8 100, .int .u8 ((97 + id) % 256), .int .u8 ((49 + (k : Int)) % 256)] 5)).alloc (.cells #[.int .u8 117, .int .u8 ((97 + id) % 256), .int .u8 ((49 + (k : Int)) % 256)] 5)) = w2 at Hown2 Hf2 ⊢
      generalize (⟨#[100, UInt8.ofNat ((97 + id) % 256).toNat, UInt8.ofNat ((49 + k) % 256)]⟩ : ByteArray) = d1 at Hst ⊢
      generalize (⟨#[117, UInt8.ofNat ((97 + id) % 256).toNat, UInt8.ofNat ((49 + k) % 256)]⟩ : ByteArray) = d2 at Hst ⊢
      have hoA := Lib.hid (Hown2.out.alloc (.cells #[.string d1, .string d2] 54))
      have hnews : ∀ (j : Nat) (u : Value), [Value.string d1, .string d2][j]? = some u → (w2.alloc (.cells #[.string d1, .string d2] 54)).cell? ((⟨w2.heap.size, 0, none⟩ : Addr).add j) = some u := World.news_of_block (heap_alloc_new w2 _)
      have Hnews := Lib.hid hnews
      have hkn : Hid (k < n) := h2
      have hlk := kSteps_len id k
      clear hnews
      go_wp2_with (first
        | (at_builtin; refine wpList_append_own _ rfl _ _ 34 rfl w.heap.size 54 i0 (.agg #[.string ⟨#[]⟩, .string ⟨#[]⟩]) 2 32 Tryz.underlying34 hi hz0 hz1 hz2 rfl (by decide) _ _ _ rfl hoA.out ⟨w2.heap.size, 0, none⟩ 1 1 [.string d1, .string d2] rfl rfl Hnews.out (by intro u hu; simp at hu; rcases hu with rfl | rfl <;> rfl) (by unfold maxLen; omega) (by omega) (by have := Hf2.out.size; simp; omega) ?_; intro sv' w1 hown1 hg1 _; go_frame)
        | fail)
      go_roundw
      case rel =>
        refine ⟨k + 1, hkn.out, by go_num, ?_, ?_⟩
        · show w1.ownsRow _ _ _ _ _ _
          rw [kSteps_succ, List.length_append, Hst.out, show stepCells (kSteps id k ++ [(d1, d2)]) = stepCells (kSteps id k) ++ [.string d1, .string d2] by simp [stepCells]]
          exact hown1
        · refine (Hf2.out.alloc _).trans' (Fr.ofGrown hg1) (fun i hi e => ?_)
          have := (Hown2.out.lt i e).1
          omega
      case measure => have := hkn.out; simp [intOf]; omega
    · have hk2 : ¬ (k : Int) < n := by omega
      have he : Hid (k = n) := by show _ = _; omega
      go_wp2_with fail
      go_ret
      refine ⟨_, rfl, ?_, Hfr.out⟩
      have := Hown.out
      rw [he.out] at this
      exact this
end Go.Proofs.YtkafmfdipmhleaaGreatDoor

namespace Go.Proofs.YtkafmfdipmhleaaGreatDoor
open Go.RowKit Go.Maps

def hdr : List UInt8 := padB (recBytes ⟨1, 1, 0, 0, 0, []⟩)
def zer : List UInt8 := List.replicate 128 0
theorem parse_hdr : ∃ r, parseM hdr = some (r, true) ∧ r.kind = 1 ∧ r.epoch = 1 := by
  have h : (parseM hdr).map (fun p => (p.1.kind, p.1.epoch, p.2)) = some (1, 1, true) := by kernel_rfl
  cases hp : parseM hdr with
  | none => rw [hp] at h; cases h
  | some p =>
    rw [hp] at h
    obtain ⟨r, ok⟩ := p
    simp at h
    obtain ⟨h1, h2, rfl⟩ := h
    exact ⟨r, rfl, h1, h2⟩
theorem parse_zer : ∃ r, parseM zer = some (r, false) := by
  have hk : kindB zer = 0 := by decide
  unfold parseM
  split
  · rw [if_neg (by rw [hk]; decide)]
    exact ⟨_, by rw [hk]; rfl⟩
  · exact ⟨_, rfl⟩
/-- The disk behind a Format. -/
def DiskM.fresh (n : Nat) : DiskM := (DiskM.new n).format 1
theorem fresh_blocks (n : Nat) : (DiskM.fresh n).blocks = (List.replicate n zer).set 0 hdr := by
  simp [DiskM.fresh, DiskM.format, DiskM.sure, DiskM.flush, DiskM.put, DiskM.count, DiskM.new, zer, hdr]
theorem fresh_len (n : Nat) : (DiskM.fresh n).blocks.length = n := by rw [fresh_blocks]; simp
theorem fresh_pend (n : Nat) : (DiskM.fresh n).pend = none := by simp [DiskM.fresh, DiskM.format, DiskM.sure, DiskM.flush]
theorem new_quiet (n : Nat) : (DiskM.new n).quiet := ⟨by simp [DiskM.new], by simp [DiskM.new]⟩
theorem fresh_quiet (n : Nat) : (DiskM.fresh n).quiet := (((new_quiet n).count.flush).put 0 _).flush
theorem fresh_look0 (n : Nat) (hn : 1 ≤ n) : (DiskM.fresh n).look 0 = hdr := by
  unfold DiskM.look
  rw [fresh_pend, fresh_blocks]
  simp only [List.getD_eq_getElem?_getD]
  rw [List.getElem?_set_self (by simp; omega)]
  rfl
theorem fresh_look1 (n : Nat) (hn : 2 ≤ n) : (DiskM.fresh n).look 1 = zer := by
  unfold DiskM.look
  rw [fresh_pend, fresh_blocks]
  have : 1 < n := by omega
  simp [List.getD_eq_getElem?_getD, this]
theorem new_look0 (n : Nat) (hn : 1 ≤ n) : (DiskM.new n).look 0 = zer := by
  have : 0 < n := by omega
  simp [DiskM.look, DiskM.new, List.getD_eq_getElem?_getD, this, zer]
/-- An engine on a fresh disk. -/
def StM.fresh (n : Nat) (pause : Int) (p : PartM) : StM := ⟨pause, 0, [], ⟨1, 1, true⟩, (DiskM.fresh n).count.count, p⟩
theorem fresh_inv (n : Nat) (pause : Int) (p : PartM) (hn : 1 ≤ n ∧ n ≤ 1000) (hp : 1 ≤ pause ∧ pause ≤ 64) : (StM.fresh n pause p).inv :=
  ⟨(fresh_quiet n).count.count, fresh_pend n, by show 1 < 2 ^ 32; omega, fun g hg => by simp [StM.fresh] at hg, by simp [StM.fresh], by
    have : (StM.fresh n pause p).d.blocks.length = n := fresh_len n
    rw [this]; simp [StM.fresh, leftSum]; omega, by
    have : (StM.fresh n pause p).d.blocks.length = n := fresh_len n
    rw [this]; exact hn.2, hp⟩
/-- The first engine of begun: its saga is done by a tick. -/
def begun1 (lo : Nat) : StM := (StM.fresh 20 1 ⟨[], [], [], 0, lo⟩).submit 5 (kSteps 5 1)
theorem begun1_tick (lo : Nat) : ∃ g, (begun1 lo).tick.sagas = [g] ∧ g.st = 3 ∧ g.id = 5 ∧ (begun1 lo).tick.p.effs.length = 1 := by
  refine ⟨_, rfl, ?_, ?_, ?_⟩
  all_goals rfl
theorem kSteps_whole (id : Int) (n : Nat) (hid : 1 ≤ id ∧ id ≤ 1000) (hn : 1 ≤ n ∧ n ≤ 6) : wholeB id (kSteps id n) = true := by
  have hal : anyLong (kSteps id n) = false := by
    unfold anyLong
    rw [List.any_eq_false]
    intro x hx
    simp only [kSteps, List.mem_map] at hx
    obtain ⟨i, _, rfl⟩ := hx
    have e1 : (kStep id i).1.size = 3 := rfl
    have e2 : (kStep id i).2.size = 3 := rfl
    simp [longB, e1, e2]
  simp [wholeB, hal, kSteps_len]
  omega
end Go.Proofs.YtkafmfdipmhleaaGreatDoor

namespace Go.Proofs.YtkafmfdipmhleaaGreatDoor
open Go.RowKit Go.Maps

def SagaM.status (g : SagaM) : Array Value := #[.int .i64 g.id, .int .i64 g.st, .int .i64 g.step, .int .i64 g.steps.length, .int .i64 g.tries, .int .i64 g.due]
theorem Tryz.info38s : (Tryz.prog.info? 38).map (·.size) = some 6 := by kernel_rfl
set_option maxRecDepth 100000 in
set_option maxHeartbeats 2000000 in
theorem Status_calls {w : World} {q : Pl} {bl : List Nat} {s : StM} {i : Nat} {g : SagaM} (hs : StAt w q bl s) (ho : s.sagas.Pairwise (fun a b => a.id < b.id)) (hg : s.sagas[i]? = some g) (hgi : 1 ≤ g.id ∧ g.id ≤ 1000) :
    Calls Tryz.prog 21 #[.pointer (some ⟨q.xb, 0, none⟩), .int .i64 g.id] w fun e w' => e = .returned (.tuple #[.agg g.status, .nilIface]) ∧ New w w' := by
  obtain ⟨b, hb, hbo⟩ := blk_of s.sagas bl hs.len ho i g hg
  have hN : New w (w.alloc (.cells #[.int .i64 0, .int .i64 0, .int .i64 0, .int .i64 0, .int .i64 0, .int .i64 0] 38)) := (Fr.refl _ w).alloc _
  have hs1 := hs.keepK (hN.toK (K := []) (fun _ _ f _ => f.elim)) (by simp)
  have hlk := look_some hs1.mp g.id (by omega) hbo
  have hsg := hs1.sg i g b hg hb
  have hx := hs1.eng
  have hr := heap_alloc_new w (.cells #[.int .i64 0, .int .i64 0, .int .i64 0, .int .i64 0, .int .i64 0, .int .i64 0] 38)
  obtain ⟨sv, hsb, _⟩ := hsg
  have HN := Lib.hid hN
  have Hr := Lib.hid hr
  simp only [egCells] at hx
  simp only [sgCells] at hsb
  have Hst : Hid (g.status = #[.int .i64 g.id, .int .i64 g.st, .int .i64 g.step, .int .i64 g.steps.length, .int .i64 g.tries, .int .i64 g.due]) := rfl
  clear hs ho hg hgi hb hbo hN hs1
  go_enter Tryz.func21, Tryz.ntmps21
  go_upto_region 1 with fail
  generalize w.alloc (.cells #[.int .i64 0, .int .i64 0, .int .i64 0, .int .i64 0, .int .i64 0, .int .i64 0] 38) = w1 at HN Hr hlk hx hsb hr ⊢
  have hcv := cellv w1
  have hfv := frozv w1
  go_wp2_with fail
  refine bodyPost_ret (results_row_tmp rfl _ _ w.heap.size 38 g.status (0, 0) _ rfl (by
    rw [hp_setCell, if_pos rfl, hp_setCell, if_pos rfl, hp_setCell, if_pos rfl, hp_setCell, if_pos rfl, hp_setCell, if_pos rfl, hp_setCell, if_pos rfl, Hr.out]; rfl) Tryz.underlying38 rfl Tryz.info38s) rfl ?_
  refine ⟨rfl, HN.out.trans' ((((((Fr.one w.heap.size w1 0 _).trans (Fr.one w.heap.size _ 1 _)).trans (Fr.one w.heap.size _ 2 _)).trans (Fr.one w.heap.size _ 3 _)).trans (Fr.one w.heap.size _ 4 _)).trans (Fr.one w.heap.size _ 5 _)) (fun i hi e => by omega)⟩
end Go.Proofs.YtkafmfdipmhleaaGreatDoor

namespace Go.Proofs.YtkafmfdipmhleaaGreatDoor
open Go.RowKit Go.Maps

/-- How a partner's effects read. -/
theorem effs_read {w : World} {pb : Nat} {p : PartM} (h : PAt w pb p) : ∃ lv va vc iv, w.heap[pb]? = some (.cells #[lv, .slice va p.effs.length vc, iv, .int .i64 p.at_] 44 (0, 0)) ∧
    ∀ k (hk : k < p.effs.length), ∃ g, va = some ⟨g, 0, none⟩ ∧ (∃ o, w.heap[g]? = some o) ∧ ∀ w' : World, w'.heap[g]? = w.heap[g]? → w'.cell? ⟨g, k * 4, none⟩ = some (.int .i64 p.effs[k].saga) ∧ w'.cell? ⟨g, k * 4 + 1, none⟩ = some (.int .i64 p.effs[k].step) ∧
      w'.cell? ⟨g, k * 4 + 2, none⟩ = some (.bool p.effs[k].back) ∧ w'.cell? ⟨g, k * 4 + 3, none⟩ = some (.string p.effs[k].data) := by
  obtain ⟨⟨lv, ev, iv, B, h1, _, ho, _, _⟩⟩ := h
  rcases ho with ⟨o1, ⟨rfl, h0⟩ | ⟨g, cap, cur, rfl, hg, hh, _, _, _, htk⟩⟩
  · refine ⟨lv, none, 0, iv, by rw [h1, h0], fun k hk => by omega⟩
  · refine ⟨lv, _, cap, iv, h1, fun k hk => ⟨g, rfl, ⟨_, hh⟩, fun w' hf => ?_⟩⟩
    have key : ∀ q, q < 4 → w'.cell? ⟨g, k * 4 + q, none⟩ = p.effs[k].cells[q]? := by
      intro q hq
      have := effCells_get p.effs k hk q hq
      rw [cellv, hf, hh, cellOf_cells]
      rw [← htk, List.getElem?_take_of_lt (by omega)] at this
      simpa using this
    exact ⟨key 0 (by omega), key 1 (by omega), key 2 (by omega), key 3 (by omega)⟩
def cF (l : List CallM) (id : Int) : Nat := (l.filter fun c => c.saga == id && !c.back).length
def cB (l : List CallM) (id : Int) : Nat := (l.filter fun c => c.saga == id && c.back).length
theorem cF_eq (l : List CallM) (id : Int) : cF l id = countF l id := by
  induction l with
  | nil => rfl
  | cons a l ih =>
    by_cases h : a.saga = id <;> cases hb : a.back <;> simp_all [cF, countF, mineOf]
theorem cB_eq (l : List CallM) (id : Int) : cB l id = countB l id := by
  induction l with
  | nil => rfl
  | cons a l ih =>
    by_cases h : a.saga = id <;> cases hb : a.back <;> simp_all [cB, countB, mineOf]
theorem c_snoc (l : List CallM) (id : Int) (a : CallM) : cF (l ++ [a]) id = cF l id + (if a.saga == id && !a.back then 1 else 0) ∧ cB (l ++ [a]) id = cB l id + (if a.saga == id && a.back then 1 else 0) := by
  constructor <;> simp only [cF, cB, List.filter_append, List.length_append] <;> congr 1 <;> by_cases h : a.saga = id <;> cases hb : a.back <;> simp [h, hb]
set_option maxRecDepth 100000 in
set_option maxHeartbeats 4000000 in
theorem reached_calls {w : World} {pb : Nat} {p : PartM} (h : PAt w pb p) (hl : p.effs.length < 2 ^ 30) (id st step n tries due : Int) :
    Calls Tryz.prog 23 #[.pointer (some ⟨pb, 0, none⟩), .agg #[.int .i64 id, .int .i64 st, .int .i64 step, .int .i64 n, .int .i64 tries, .int .i64 due]] w fun e w' => e = .returned (.bool (reachedM p.effs id st n)) ∧ New w w' := by
  obtain ⟨lv, va, vc, iv, h1, hrow⟩ := effs_read h
  have hr : Hid (reachedM p.effs id st n = if st = 3 then decide ((cF p.effs id : Int) = n) && decide ((cB p.effs id : Int) = 0) else decide (st ≠ 4) || (decide ((cF p.effs id : Int) = cB p.effs id) && decide ((cF p.effs id : Int) < n))) := by
    show _ = _
    rw [cF_eq, cB_eq]; rfl
  generalize reachedM p.effs id st n = ans at hr ⊢
  have hpb := h1
  generalize p.effs = effs at *
  have hN := heap_alloc_new w (.cells #[.int .i64 id, .int .i64 st, .int .i64 step, .int .i64 n, .int .i64 tries, .int .i64 due] 38)
  have h1a := heap_alloc_keep (.cells #[.int .i64 id, .int .i64 st, .int .i64 step, .int .i64 n, .int .i64 tries, .int .i64 due] 38) h1
  have HF1 : Hid (New w (w.alloc (.cells #[.int .i64 id, .int .i64 st, .int .i64 step, .int .i64 n, .int .i64 tries, .int .i64 due] 38))) := (Fr.refl _ _).alloc _
  have Hrow := Lib.hid hrow
  have Hl := Lib.hid hl
  have HNa := Lib.hid hN
  have H1a := Lib.hid h1a
  clear h h1 hrow hpb hl hN h1a
  go_enter Tryz.func23, Tryz.ntmps23
  go_upto_region 1 with fail
  generalize w.alloc (.cells #[.int .i64 id, .int .i64 st, .int .i64 step, .int .i64 n, .int .i64 tries, .int .i64 due] 38) = W1 at HF1 HNa H1a ⊢
  generalize w.heap.size = N at HNa ⊢
  go_wp2_with fail
  go_loopw [5, 6, 7] (fun f b i wr => ∃ k : Nat, k ≤ effs.length ∧ i = .int .i64 k ∧ f = .int .i64 (cF (effs.take k) id : Nat) ∧ b = .int .i64 (cB (effs.take k) id : Nat) ∧ New W1 wr) (fun _ _ i _ => effs.length - (intOf i).toNat)
  case atStart => exact ⟨0, Nat.zero_le _, rfl, rfl, rfl, Fr.refl _ _⟩
  case round =>
    obtain ⟨k, hk, rfl, rfl, rfl, hf⟩ := hrel
    have Hf := Lib.hid hf
    have hcN := hf.get HNa.out (fun f => f)
    have hcP := hf.get H1a.out (fun f => f)
    clear hf
    have hl30 : effs.length < 1073741824 := Hl.out
    have hcF : cF (effs.take k) id ≤ k := by
      unfold cF
      exact Nat.le_trans (List.length_filter_le _ _) (by rw [List.length_take]; omega)
    have hcB : cB (effs.take k) id ≤ k := by
      unfold cB
      exact Nat.le_trans (List.length_filter_le _ _) (by rw [List.length_take]; omega)
    by_cases hlt : k < effs.length
    · obtain ⟨g, rfl, ⟨o, ho⟩, hcc⟩ := Hrow.out k hlt
      have hgr : wr.heap[g]? = w.heap[g]? := by rw [ho]; exact (HF1.out.trans Hf.out).get ho (fun f => f)
      obtain ⟨x0, x1, x2, x3⟩ := hcc wr hgr
      clear x3
      rw [cellv] at x0 x1 x2
      have htk : effs.take (k + 1) = effs.take k ++ [effs[k]] := List.take_succ_eq_append_getElem hlt
      have hsn := c_snoc (effs.take k) id effs[k]
      rw [← htk] at hsn
      have Hsn := Lib.hid hsn
      generalize effs[k] = e at x0 x1 x2 Hsn
      generalize cF (effs.take k) id = f0 at *
      generalize cB (effs.take k) id = b0 at *
      obtain ⟨es, et, eb, ed⟩ := e
      have hkI : (k : Int) < effs.length := by omega
      have hk0 : (0 : Int) ≤ k := by omega
      have hw1 : wrap64 ((f0 : Int) + 1) = ((f0 + 1 : Nat) : Int) := by rw [wrap_in _ (by omega)]; omega
      have hw2 : wrap64 ((b0 : Int) + 1) = ((b0 + 1 : Nat) : Int) := by rw [wrap_in _ (by omega)]; omega
      have hkl := Lib.hid hlt
      clear hcc ho hgr htk hsn hlt hcF hcB
      have hcv := cellv wr
      go_upto_region 6 with fail
      by_cases q1 : es = id
      · subst q1
        have q1' : (es == es) = true := by simp
        cases eb
        · go_quiet (fail)
          go_upto_region 8 with fail
          go_quiet (fail)
          go_wp2_with fail
          go_roundw
          case rel => exact ⟨k + 1, hkl.out, by go_num, by rw [Hsn.out.1]; simp [hw1], by rw [Hsn.out.2]; simp [q1'], Hf.out.drewN _⟩
          case measure => have := hkl.out; simp [intOf]; omega
        · go_quiet (fail)
          go_wp2_with fail
          go_roundw
          case rel => exact ⟨k + 1, hkl.out, by go_num, by rw [Hsn.out.1]; simp [q1'], by rw [Hsn.out.2]; simp [hw2], Hf.out.drewN _⟩
          case measure => have := hkl.out; simp [intOf]; omega
      · have q1' : (es == id) = false := by simpa using q1
        go_quiet (fail)
        go_upto_region 8 with fail
        go_quiet (fail)
        go_wp2_with fail
        go_roundw
        case rel => exact ⟨k + 1, hkl.out, by go_num, by rw [Hsn.out.1]; simp [q1'], by rw [Hsn.out.2]; simp [q1'], Hf.out.drewN _⟩
        case measure => have := hkl.out; simp [intOf]; omega
    · obtain rfl : k = effs.length := by omega
      rw [List.take_length]
      have hnk : ¬ ((effs.length : Int) < effs.length) := by omega
      generalize cF effs id = f0 at hr
      generalize cB effs id = b0 at hr
      have HF := Lib.hid (HF1.out.trans Hf.out)
      clear hk hl30 hcF hcB hlt
      have hcv := cellv wr
      by_cases h3 : st = 3
      · subst h3
        by_cases h4 : (f0 : Int) = n
        · have h4' : ((f0 : Int) == n) = true := by simpa using h4
          by_cases h5 : (b0 : Int) = 0
          · have h5' : ((b0 : Int) == 0) = true := by simpa using h5
            have h5n : b0 = 0 := by omega
            have hans := hr.out
            simp [h4, h5n] at hans
            go_wp2_with fail
            go_ret
            exact ⟨by first | rfl | (rw [hans]; rfl), by first | exact HF.out | exact HF.out.drewN _⟩
          · have h5' : ((b0 : Int) == 0) = false := by simpa using h5
            have h5n : ¬ b0 = 0 := by omega
            have hans := hr.out
            simp [h4, h5n] at hans
            go_wp2_with fail
            go_ret
            exact ⟨by first | rfl | (rw [hans]; rfl), by first | exact HF.out | exact HF.out.drewN _⟩
        · have h4' : ((f0 : Int) == n) = false := by simpa using h4
          have hans := hr.out
          simp [h4] at hans
          go_wp2_with fail
          go_ret
          exact ⟨by first | rfl | (rw [hans]; rfl), by first | exact HF.out | exact HF.out.drewN _⟩
      · have h3' : (st == 3) = false := by simpa using h3
        by_cases h6 : st = 4
        · subst h6
          by_cases h7 : (f0 : Int) = b0
          · have h7' : ((f0 : Int) == b0) = true := by simpa using h7
            have h7n : f0 = b0 := by omega
            by_cases h8 : (f0 : Int) < n
            · have h8n : (b0 : Int) < n := by omega
              have hans := hr.out
              simp [h7n, h8n] at hans
              go_wp2_with fail
              go_ret
              exact ⟨by first | rfl | (rw [hans]; rfl), by first | exact HF.out | exact HF.out.drewN _⟩
            · have h8n : ¬ (b0 : Int) < n := by omega
              have hans := hr.out
              simp [h7n, h8n] at hans
              go_wp2_with fail
              go_ret
              exact ⟨by first | rfl | (rw [hans]; rfl), by first | exact HF.out | exact HF.out.drewN _⟩
          · have h7' : ((f0 : Int) == b0) = false := by simpa using h7
            have h7n : ¬ f0 = b0 := by omega
            have hans := hr.out
            simp [h7n] at hans
            go_wp2_with fail
            go_ret
            exact ⟨by first | rfl | (rw [hans]; rfl), by first | exact HF.out | exact HF.out.drewN _⟩
        · have h6' : (st == 4) = false := by simpa using h6
          have hans := hr.out
          simp [h3, h6] at hans
          go_wp2_with fail
          go_ret
          exact ⟨by first | rfl | (rw [hans]; rfl), by first | exact HF.out | exact HF.out.drewN _⟩
end Go.Proofs.YtkafmfdipmhleaaGreatDoor
