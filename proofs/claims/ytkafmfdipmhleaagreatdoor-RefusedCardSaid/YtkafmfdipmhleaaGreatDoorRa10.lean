/-
  What is proved: the contract of the statements' helper straight, where what was done has the right form. the contract of the statements' helper begun. how the statement Ends begins and ends. (No program in sight.) the contract of a Submit that is refused, or that is no new one. errors.As of a fault, at a target of the errors' numbers; plain.Told. (After the kit's worked text on errors.As.) errors.As of a fault that wraps a number. the contract of plain.Told, of nil and of a fault. the contract of the disk's Bytes. the contract of Refused.
-/
import Derived.Test.YtkafmfdipmhleaaGreatDoorRa9
import Derived.WalkKit
import Derived.LaidEql
import Derived.Stop.Asserts
import Derived.RowKitTokens

namespace Go.Proofs.YtkafmfdipmhleaaGreatDoor
open Go.RowKit Go.Maps

/-- What the list of a saga's effects reads as. -/
theorem shape_at {F : List CallM} {K M : Nat} (h : F.map (fun c => (c.step, c.back)) = fw K ++ bw K M) : F.length = K + M ∧ (∀ k (hk : k < F.length), k < K → F[k].step = (k : Int) + 1 ∧ F[k].back = false) ∧ (∀ k (hk : k < F.length), K ≤ k → F[k].step = (K : Int) - ((k : Int) - K) ∧ F[k].back = true) := by
  have hlen : F.length = K + M := by
    have := congrArg List.length h
    simpa [fw, bw] using this
  have key : ∀ k (hk : k < F.length), (fw K ++ bw K M)[k]? = some (F[k].step, F[k].back) := by
    intro k hk
    rw [← h, List.getElem?_map, List.getElem?_eq_getElem hk]; rfl
  refine ⟨hlen, fun k hk hK => ?_, fun k hk hK => ?_⟩
  · have := key k hk
    rw [List.getElem?_append_left (by simp [fw]; exact hK)] at this
    simp only [fw, List.getElem?_map, List.getElem?_range hK, Option.map_some, Option.some.injEq, Prod.mk.injEq] at this
    exact ⟨this.1.symm, this.2.symm⟩
  · have := key k hk
    rw [List.getElem?_append_right (by simp [fw]; exact hK)] at this
    have hl : (fw K).length = K := by simp [fw]
    rw [hl] at this
    simp only [bw, List.getElem?_map, List.getElem?_range (show k - K < M by omega), Option.map_some, Option.some.injEq, Prod.mk.injEq] at this
    exact ⟨by rw [← this.1]; omega, this.2.symm⟩
/-- How an own slice of calls reads. -/
theorem calls_read {w : World} {B : Nat} {v : Value} {F : List CallM} (h : w.ownsRow B 46 4 v F.length (effCells F)) : ∃ va vc, v = .slice va F.length vc ∧
    ∀ k (hk : k < F.length), ∃ g, va = some ⟨g, 0, none⟩ ∧ (∃ o, w.heap[g]? = some o) ∧ ∀ w' : World, w'.heap[g]? = w.heap[g]? → cellOf w'.heap[g]? (k * 4) = some (.int .i64 F[k].saga) ∧ cellOf w'.heap[g]? (k * 4 + 1) = some (.int .i64 F[k].step) ∧
      cellOf w'.heap[g]? (k * 4 + 2) = some (.bool F[k].back) ∧ cellOf w'.heap[g]? (k * 4 + 3) = some (.string F[k].data) := by
  obtain ⟨o1, ⟨rfl, h0⟩ | ⟨g, cap, cur, rfl, hg, hh, _, _, _, htk⟩⟩ := h
  · exact ⟨none, 0, by rw [h0], fun k hk => by omega⟩
  · refine ⟨_, cap, rfl, fun k hk => ⟨g, rfl, ⟨_, hh⟩, fun w' hf => ?_⟩⟩
    have key : ∀ q, q < 4 → cellOf w'.heap[g]? (k * 4 + q) = F[k].cells[q]? := by
      intro q hq
      have := effCells_get F k hk q hq
      rw [hf, hh, cellOf_cells]
      rw [← htk, List.getElem?_take_of_lt (by omega)] at this
      simpa using this
    exact ⟨key 0 (by omega), key 1 (by omega), key 2 (by omega), key 3 (by omega)⟩
theorem Tryz.info46s' : (Tryz.prog.info? 46).map (·.size) = some 4 := by kernel_rfl
set_option maxRecDepth 100000 in
set_option maxHeartbeats 4000000 in
theorem straight_calls {w : World} {pb : Nat} {p : PartM} (h : PAt w pb p) (hl : p.effs.length < 2 ^ 30) (id : Int) (n K M : Nat) (hm : mineOf p.effs id = fw K ++ bw K M) (hK : K ≤ n) (hM : M ≤ K) (hKM : M = 0 ∨ K < n) (hn : n < 2 ^ 30) :
    Calls Tryz.prog 22 #[.pointer (some ⟨pb, 0, none⟩), .int .i64 id, .int .i64 n] w fun e w' => e = .returned (.bool true) ∧ New w w' := by
  obtain ⟨lv, va, vc, iv, h1, hrow⟩ := effs_read h
  generalize p.effs = effs at *
  obtain ⟨i0, hi, hz0, hz1, hz2⟩ := info_parts Tryz.info46
  have Hsh := Lib.hid (shape_at (F := effs.filter fun c => c.saga == id) hm)
  have Hrow := Lib.hid hrow
  have Hl := Lib.hid hl
  have H1 := Lib.hid h1
  have HK := Lib.hid hK
  have HM := Lib.hid hM
  have HKM := Lib.hid hKM
  have Hn := Lib.hid hn
  clear h h1 hrow hl hm hK hM hKM hn
  go_enter Tryz.func22, Tryz.ntmps22
  go_wp2_with fail
  go_loopw [7, 8] (fun sv i wr => ∃ k : Nat, k ≤ effs.length ∧ i = .int .i64 k ∧ wr.ownsRow w.heap.size 46 4 sv ((effs.take k).filter fun c => c.saga == id).length (effCells ((effs.take k).filter fun c => c.saga == id)) ∧ New w wr) (fun _ i _ => effs.length - (intOf i).toNat)
  case atStart => exact ⟨0, Nat.zero_le _, rfl, World.ownsRow_nil w w.heap.size 46 4, Fr.refl _ _⟩
  case round =>
    obtain ⟨k, hk, rfl, hown, hf⟩ := hrel
    have Hown := Lib.hid hown
    have Hf := Lib.hid hf
    have hcP := hf.get H1.out (fun f => f)
    have hl30 : effs.length < 1073741824 := Hl.out
    clear hown hf
    by_cases hlt : k < effs.length
    · obtain ⟨g, rfl, ⟨o, ho⟩, hcc⟩ := Hrow.out k hlt
      have hgr : wr.heap[g]? = w.heap[g]? := by rw [ho]; exact Hf.out.get ho (fun f => f)
      obtain ⟨x0, x1, x2, x3⟩ := hcc wr hgr
      have htk : effs.take (k + 1) = effs.take k ++ [effs[k]] := List.take_succ_eq_append_getElem hlt
      have Htk := Lib.hid htk
      generalize effs[k] = e at x0 x1 x2 x3 Htk
      obtain ⟨es, et, eb, ed⟩ := e
      rw [cellv] at x0 x1 x2 x3
      have hkI : (k : Int) < effs.length := by omega
      have hk0 : (0 : Int) ≤ k := by omega
      have hkl := Lib.hid hlt
      have hfl : Hid (((effs.take k).filter fun c => c.saga == id).length ≤ k) := Nat.le_trans (List.length_filter_le _ _) (by rw [List.length_take]; omega)
      clear hcc ho hgr htk hlt
      have hcv := cellv wr
      by_cases q1 : es = id
      · subst q1
        have q1' : (es == es) = true := by simp
        have hfe : Hid ((effs.take (k + 1)).filter (fun c => c.saga == es) = (effs.take k).filter (fun c => c.saga == es) ++ [⟨es, et, eb, ed⟩]) := by
          show _ = _
          rw [Htk.out, List.filter_append]; simp
        have hoA := Lib.hid (Hown.out.alloc (.cells #[.int .i64 es, .int .i64 et, .bool eb, .string ed] 46))
        have hnews : ∀ (j : Nat) (u : Value), (CallM.cells ⟨es, et, eb, ed⟩)[j]? = some u → (wr.alloc (.cells #[.int .i64 es, .int .i64 et, .bool eb, .string ed] 46)).cell? ((⟨wr.heap.size, 0, none⟩ : Addr).add j) = some u := World.news_of_block (heap_alloc_new wr _)
        have Hnews := Lib.hid hnews
        clear hnews
        go_wp2_with (first
          | (at_builtin; refine wpList_append_own _ rfl _ _ 42 rfl w.heap.size 46 i0 (.agg #[.int .i64 0, .int .i64 0, .bool false, .string ⟨#[]⟩]) 4 40 Tryz.underlying42 hi hz0 hz1 hz2 rfl (by decide) _ _ _ rfl hoA.out ⟨wr.heap.size, 0, none⟩ 1 1 (CallM.cells ⟨es, et, eb, ed⟩) rfl rfl Hnews.out (call_one ⟨es, et, eb, ed⟩) (by have := hfl.out; unfold maxLen; omega) (by have := hfl.out; omega) (by have := Hf.out.size; simp; omega) ?_; intro sv' w1 hown1 hg1 _; go_frame)
          | fail)
        go_roundw
        case rel =>
          refine ⟨k + 1, hkl.out, by go_num, ?_, ?_⟩
          · rw [hfe.out, List.length_append, show effCells ((effs.take k).filter (fun c => c.saga == es) ++ [⟨es, et, eb, ed⟩]) = effCells ((effs.take k).filter (fun c => c.saga == es)) ++ CallM.cells ⟨es, et, eb, ed⟩ by simp [effCells]]
            exact hown1
          · refine (Hf.out.alloc _).trans' (Fr.ofGrown hg1) (fun i hi e => ?_)
            have := (Hown.out.lt i e).1
            omega
        case measure => have := hkl.out; simp [intOf]; omega
      · have q1' : (es == id) = false := by simpa using q1
        have hfe : Hid ((effs.take (k + 1)).filter (fun c => c.saga == id) = (effs.take k).filter (fun c => c.saga == id)) := by
          show _ = _
          rw [Htk.out, List.filter_append]; simp [q1']
        go_wp2_with fail
        go_roundw
        case rel => exact ⟨k + 1, hkl.out, by go_num, by rw [hfe.out]; exact Hown.out, Hf.out⟩
        case measure => have := hkl.out; simp [intOf]; omega
    · obtain rfl : k = effs.length := by omega
      have hnk : ¬ ((effs.length : Int) < effs.length) := by omega
      have Hown := Hown
      rw [List.take_length] at Hown
      obtain ⟨ma, mc, rfl, hmr⟩ := calls_read Hown.out
      have Hmr := Lib.hid hmr
      have hFl : Hid ((effs.filter fun c => c.saga == id).length < 1073741824) := Nat.lt_of_le_of_lt (List.length_filter_le _ _) hl30
      clear hk hlt hmr
      generalize (effs.filter fun c => c.saga == id) = F at Hsh Hown Hmr hFl ⊢
      have hcv := cellv wr
      go_upto_region 8 with fail
      obtain ⟨wO, rfl⟩ : ∃ x, x = wr := ⟨wr, rfl⟩
      go_loopw [9] (fun i w2 => ∃ k : Nat, k ≤ K ∧ i = .int .i64 k ∧ New wO w2) (fun i _ => K - (intOf i).toNat)
      case atStart => exact ⟨0, Nat.zero_le _, rfl, Fr.refl _ _⟩
      case round =>
        obtain ⟨k, hk, rfl, hf2⟩ := hrel
        have Hf2 := Lib.hid hf2
        clear hf2
        have hlenF := Hsh.out.1
        have hl31 : F.length < 1073741824 := hFl.out
        have hn30 : n < 1073741824 := Hn.out
        have hKn := HK.out
        by_cases hkK : k < K
        · have hkF : k < F.length := by omega
          obtain ⟨g, rfl, ⟨o, ho⟩, hcc⟩ := Hmr.out k hkF
          have hgr : wr.heap[g]? = wO.heap[g]? := by rw [ho]; exact Hf2.out.get ho (fun f => f)
          obtain ⟨x0, x1, x2, x3⟩ := hcc wr hgr
          obtain ⟨s1, s2⟩ := Hsh.out.2.1 k hkF hkK
          rw [s1] at x1
          rw [s2] at x2
          have hkI : (k : Int) < F.length := by omega
          have hk0 : (0 : Int) ≤ k := by omega
          have hnI : ¬ ((n : Int) ≤ k) := by omega
          have hkl := Lib.hid hkK
          have hw1 : wrap64 ((k : Int) + 1) = (k : Int) + 1 := wrap_in _ (by omega)
          clear hcc ho hgr x0 x3 s1 s2 hlenF hkK
          have hcv := cellv wr
          go_wp2_with fail
          go_roundw
          case rel => exact ⟨k + 1, hkl.out, by go_num, Hf2.out⟩
          case measure => have := hkl.out; simp [intOf]; omega
        · obtain rfl : k = K := by omega
          by_cases hM0 : M = 0
          · have hFe : F.length = k := by omega
            have hnk2 : ¬ ((k : Int) < F.length) := by omega
            clear hFe hM0 hk hkK hlenF
            have hcv := cellv wr
            go_upto_region 15 with fail
            obtain ⟨wP, rfl⟩ : ∃ x, x = wr := ⟨wr, rfl⟩
            go_loopw [10] (fun i w3 => ∃ m : Nat, k ≤ m ∧ m ≤ F.length ∧ i = .int .i64 m ∧ New wP w3) (fun i _ => F.length - (intOf i).toNat)
            case atStart => exact ⟨k, Nat.le_refl _, by have := Hsh.out.1; omega, rfl, Fr.refl _ _⟩
            case round =>
              obtain ⟨m, hm1, hm2, rfl, hf3⟩ := hrel
              have Hf3 := Lib.hid hf3
              clear hf3 hcv
              by_cases hmF : m < F.length
              · obtain ⟨g', hg', ⟨o', ho'⟩, hcc'⟩ := Hmr.out m hmF
                have hgr' : wr.heap[g']? = wO.heap[g']? := by rw [ho']; exact (Hf2.out.trans Hf3.out).get ho' (fun f => f)
                obtain ⟨x0', x1', x2', x3'⟩ := hcc' wr hgr'
                obtain ⟨s1', s2'⟩ := Hsh.out.2.2 m hmF hm1
                rw [s1'] at x1'
                rw [s2'] at x2'
                first | subst hg' | (obtain rfl : g = g' := by simpa using hg')
                have hmI : (m : Int) < F.length := by omega
                have hm0 : (0 : Int) ≤ m := by omega
                have hml := Lib.hid hmF
                have hw3 : wrap64 ((m : Int) - k) = (m : Int) - k := wrap_in _ (by omega)
                have hw4 : wrap64 ((k : Int) - ((m : Int) - k)) = (k : Int) - ((m : Int) - k) := wrap_in _ (by omega)
                have hm1' := Lib.hid hm1
                clear hcc' ho' hgr' x0' x3' s1' s2' hm1 hm2 hmF
                have hcv := cellv wr
                go_wp2_with fail
                go_roundw
                case rel => exact ⟨m + 1, by have := hm1'.out; omega, hml.out, by go_num, Hf3.out⟩
                case measure => have := hml.out; simp [intOf]; omega
              · have hmI : ¬ ((m : Int) < F.length) := by omega
                have hw2 : wrap64 (2 * (k : Int)) = 2 * (k : Int) := wrap_in _ (by omega)
                have hle : (F.length : Int) ≤ 2 * (k : Int) := by have := Hsh.out.1; have := HM.out; omega
                have HFin := Lib.hid ((Hf.out.trans Hf2.out).trans Hf3.out)
                clear hmF hm1 hm2
                go_wp2_with fail
                go_ret
                exact ⟨rfl, by first | exact HFin.out | exact HFin.out.drewN _⟩
          · have hkF : k < F.length := by omega
            obtain ⟨g, rfl, ⟨o, ho⟩, hcc⟩ := Hmr.out k hkF
            have hgr : wr.heap[g]? = wO.heap[g]? := by rw [ho]; exact Hf2.out.get ho (fun f => f)
            obtain ⟨x0, x1, x2, x3⟩ := hcc wr hgr
            obtain ⟨s1, s2⟩ := Hsh.out.2.2 k hkF (Nat.le_refl _)
            rw [s2] at x2
            have hkI : (k : Int) < F.length := by omega
            have hk0 : (0 : Int) ≤ k := by omega
            have hnI : ((k : Int) == n) = false := by have := HKM.out; simp; omega
            clear hcc ho hgr x0 x1 x3 s1 s2 hM0 hkF
            have hcv := cellv wr
            go_upto_region 15 with fail
            obtain ⟨wP, rfl⟩ : ∃ x, x = wr := ⟨wr, rfl⟩
            go_loopw [10] (fun i w3 => ∃ m : Nat, k ≤ m ∧ m ≤ F.length ∧ i = .int .i64 m ∧ New wP w3) (fun i _ => F.length - (intOf i).toNat)
            case atStart => exact ⟨k, Nat.le_refl _, by have := Hsh.out.1; omega, rfl, Fr.refl _ _⟩
            case round =>
              obtain ⟨m, hm1, hm2, rfl, hf3⟩ := hrel
              have Hf3 := Lib.hid hf3
              clear hf3 hcv
              by_cases hmF : m < F.length
              · obtain ⟨g', hg', ⟨o', ho'⟩, hcc'⟩ := Hmr.out m hmF
                have hgr' : wr.heap[g']? = wO.heap[g']? := by rw [ho']; exact (Hf2.out.trans Hf3.out).get ho' (fun f => f)
                obtain ⟨x0', x1', x2', x3'⟩ := hcc' wr hgr'
                obtain ⟨s1', s2'⟩ := Hsh.out.2.2 m hmF hm1
                rw [s1'] at x1'
                rw [s2'] at x2'
                first | subst hg' | (obtain rfl : g = g' := by simpa using hg')
                have hmI : (m : Int) < F.length := by omega
                have hm0 : (0 : Int) ≤ m := by omega
                have hml := Lib.hid hmF
                have hw3 : wrap64 ((m : Int) - k) = (m : Int) - k := wrap_in _ (by omega)
                have hw4 : wrap64 ((k : Int) - ((m : Int) - k)) = (k : Int) - ((m : Int) - k) := wrap_in _ (by omega)
                have hm1' := Lib.hid hm1
                clear hcc' ho' hgr' x0' x3' s1' s2' hm1 hm2 hmF
                have hcv := cellv wr
                go_wp2_with fail
                go_roundw
                case rel => exact ⟨m + 1, by have := hm1'.out; omega, hml.out, by go_num, Hf3.out⟩
                case measure => have := hml.out; simp [intOf]; omega
              · have hmI : ¬ ((m : Int) < F.length) := by omega
                have hw2 : wrap64 (2 * (k : Int)) = 2 * (k : Int) := wrap_in _ (by omega)
                have hle : (F.length : Int) ≤ 2 * (k : Int) := by have := Hsh.out.1; have := HM.out; omega
                have HFin := Lib.hid ((Hf.out.trans Hf2.out).trans Hf3.out)
                clear hmF hm1 hm2
                go_wp2_with fail
                go_ret
                exact ⟨rfl, by first | exact HFin.out | exact HFin.out.drewN _⟩
end Go.Proofs.YtkafmfdipmhleaaGreatDoor

namespace Go.Proofs.YtkafmfdipmhleaaGreatDoor
open Go.RowKit Go.Maps

theorem PAt.low {w w' : World} {pb : Nat} {p : PartM} (h : PAt w pb p) (hl : Low w.heap.size w w') (hs : w.heap.size ≤ w'.heap.size) : PAt w' pb p :=
  h.keep hs (fun k _ ho _ => (hl.block k (lt_of_hp ho)).trans ho)
theorem fits_of (d : DiskM) (h : 8 ≤ d.blocks.length ∧ d.blocks.length ≤ 400) : d.fits = true := by simp [DiskM.fits]; omega
/-- Format of a new disk. -/
theorem fmt_new {w : World} {db bb n : Nat} (h : DiskAt w db bb (DiskM.new n)) (hn : 8 ≤ n ∧ n ≤ 400) :
    Calls Tryz.prog 39 #[.pointer (some ⟨db, 0, none⟩)] w fun e w' => e = .returned .nilIface ∧ Fr (fun k => k = db ∨ k = bb) w w' ∧ DiskAt w' db bb (DiskM.fresh n) := by
  obtain ⟨r, hr⟩ := parse_zer
  have hl : (DiskM.new n).blocks.length = n := by simp [DiskM.new]
  refine Calls.mono (pFormat_calls h (new_quiet n) rfl r false (by rw [new_look0 n (by omega)]; exact hr)) ?_
  intro e w' he
  unfold sFmtPost at he
  rw [fits_of _ (by rw [hl]; exact hn)] at he
  have he : FmtPost w db bb (DiskM.new n) (nextEpoch r false) e w' := by simpa using he
  have : nextEpoch r false = 1 := by simp [nextEpoch]
  rw [this] at he
  exact he
/-- Open of a fresh disk. -/
theorem open_fresh {w : World} {db bb pb n : Nat} {p : PartM} (h : DiskAt w db bb (DiskM.fresh n)) (hp : PAt w pb p) (hlo : p.lo ≤ db ∧ p.lo ≤ bb) (hn : 8 ≤ n ∧ n ≤ 400) (pause : Int) (hpz : 1 ≤ pause ∧ pause ≤ 64) :
    Calls Tryz.prog 30 #[.pointer (some ⟨db, 0, none⟩), .int .i64 pause, .pointer (some ⟨pb, 0, none⟩)] w fun e w' => ∃ xb jb mb, e = .returned (.tuple #[.pointer (some ⟨xb, 0, none⟩), .nilIface]) ∧
      StAt w' ⟨xb, jb, mb, db, bb, pb⟩ [] (StM.fresh n pause p) ∧ Fr (· = db) w w' := by
  obtain ⟨r0, hr0, hk, he⟩ := parse_hdr
  obtain ⟨r1, hr1⟩ := parse_zer
  refine Calls.mono (pOpen0_calls h hp hlo (fresh_quiet n) r0 r1 false (by rw [fresh_look0 n (by omega)]; exact hr0) hk (by rw [fresh_look1 n (by omega)]; exact hr1) (by simp [atOk]) (fits_of _ (by rw [fresh_len]; exact hn)) pause hpz) ?_
  rintro e w' ⟨xb, jb, mb, rfl, _, hs, hf⟩
  rw [he] at hs
  exact ⟨xb, jb, mb, rfl, hs, hf⟩
theorem begun1_inv (lo : Nat) : (begun1 lo).inv ∧ (begun1 lo).fine (0 + (begun1 lo).sagas.length) := by
  have h0 := fresh_inv 20 1 ⟨[], [], [], 0, lo⟩ (by omega) (by omega)
  have hf : (StM.fresh 20 1 ⟨[], [], [], 0, lo⟩).fine 1 := ⟨by simp [StM.fresh], by simp [StM.fresh], by simp [StM.fresh], by simp [StM.fresh], by simp [StM.fresh], fun g hg => by simp [StM.fresh] at hg⟩
  have := submit_inv (id := 5) (l := kSteps 5 1) h0 hf (kSteps_whole 5 1 (by omega) (by omega)) (fun x hx => by simp [StM.fresh] at hx) (by
    have : (StM.fresh 20 1 ⟨[], [], [], 0, lo⟩).d.blocks.length = 20 := fresh_len 20
    rw [this]
    simp [StM.fresh, leftSum, kSteps_len])
  exact ⟨this.1, this.2⟩
theorem begun_sub {w : World} {q : Pl} {lo : Nat} {v : Value} (hs : StAt w q [] (StM.fresh 20 1 ⟨[], [], [], 0, lo⟩)) (hv : StepsAt w v (kSteps 5 1)) :
    Calls Tryz.prog 18 #[.pointer (some ⟨q.xb, 0, none⟩), .int .i64 5, v] w fun e w' => e = .returned .nilIface ∧ (∃ bl', StAt w' q bl' (begun1 lo)) ∧ FrK [0, 103, 104, 133, 80] w w' ∧ Low lo w w' :=
  Submit_calls (id := 5) (l := kSteps 5 1) hs (fresh_inv 20 1 ⟨[], [], [], 0, lo⟩ (by omega) (by omega)) hv (kSteps_whole 5 1 (by omega) (by omega)) (fun x hx => by simp [StM.fresh] at hx) (by
    have : (StM.fresh 20 1 ⟨[], [], [], 0, lo⟩).d.blocks.length = 20 := fresh_len 20
    rw [this]
    simp [StM.fresh, leftSum, kSteps_len])
theorem begun_tick {w : World} {q : Pl} {lo : Nat} {bl : List Nat} (hs : StAt w q bl (begun1 lo)) :
    Calls Tryz.prog 20 #[.pointer (some ⟨q.xb, 0, none⟩)] w fun e w' => e = .returned .nilIface ∧ StAt w' q bl (begun1 lo).tick ∧ FrK KT w w' ∧ Low lo w w' :=
  Tick_calls hs (begun1_inv lo).1 (begun1_inv lo).2 (show -9223372036854775808 ≤ (0 : Int) + 1 ∧ (0 : Int) + 1 ≤ 9223372036854775807 by omega)
theorem begun_status {w : World} {q : Pl} {lo : Nat} {bl : List Nat} (hs : StAt w q bl (begun1 lo).tick) :
    ∃ g : SagaM, g.st = 3 ∧ Calls Tryz.prog 21 #[.pointer (some ⟨q.xb, 0, none⟩), .int .i64 5] w fun e w' => e = .returned (.tuple #[.agg g.status, .nilIface]) ∧ New w w' := by
  obtain ⟨g, h1, h2, h3, _⟩ := begun1_tick lo
  refine ⟨g, h2, ?_⟩
  have ho := (tick_inv (m := 0) (begun1_inv lo).1 (begun1_inv lo).2).1.ord
  have := Status_calls (i := 0) (g := g) hs ho (by rw [h1]; rfl) (by omega)
  rw [h3] at this
  exact this
theorem begun_effs {w : World} {q : Pl} {lo : Nat} {bl : List Nat} (hs : StAt w q bl (begun1 lo).tick) : ∃ lv va vc iv at_, w.heap[q.pb]? = some (.cells #[lv, .slice va 1 vc, iv, at_] 44 (0, 0)) := by
  obtain ⟨lv, va, vc, iv, h, _⟩ := effs_read hs.pt
  obtain ⟨_, _, _, _, h4⟩ := begun1_tick lo
  rw [h4] at h
  exact ⟨lv, va, vc, iv, _, h⟩
set_option maxRecDepth 100000 in
set_option maxHeartbeats 4000000 in
theorem begun_calls {w : World} {pb n : Nat} {l : List Int} {lo : Nat} {pause : Int} (hp : PAt w pb ⟨[], [], l, 0, lo⟩) (hn : 8 ≤ n ∧ n ≤ 400) (hpz : 1 ≤ pause ∧ pause ≤ 64) :
    Calls Tryz.prog 17 #[.int .i64 n, .pointer (some ⟨pb, 0, none⟩), .int .i64 pause] w fun e w' => ∃ q : Pl, q.pb = pb ∧ e = .returned (.tuple #[.pointer (some ⟨q.db, 0, none⟩), .pointer (some ⟨q.xb, 0, none⟩)]) ∧
      StAt w' q [] (StM.fresh n pause ⟨[], [], l, 0, lo⟩) ∧ Low lo w w' ∧ w.heap.size ≤ w'.heap.size := by
  have Hp := Lib.hid hp
  have Hn := Lib.hid hn
  have Hpz := Lib.hid hpz
  clear hp hn hpz
  go_enter Tryz.func17, Tryz.ntmps17
  go_upto_region 3 with (first
    | (go_at_call 38; refine Calls.mono (NewDisk_calls w 20 (by omega)) ?_; rintro e w1 ⟨hf1, db, bb, hdb, hbb, rfl, hd1⟩)
    | (go_at_call 15; refine Calls.mono (NewPartner_calls (l := []) (.inl ⟨rfl, none, 0, rfl⟩) (by simp) w.heap.size hf1.size) ?_; rintro e w2 ⟨pq, rfl, hpq, hq2, hf2⟩)
    | fail)
  have HF3 := Lib.hid (fmt_new (hd1.new hf2) (by omega))
  have Hq2 := Lib.hid hq2
  have Hd1 := Lib.hid hd1
  have HL2 : Hid (Low w.heap.size w w2 ∧ w.heap.size ≤ w2.heap.size) := ⟨(hf1.low (Nat.le_refl _) (fun _ f => f.elim)).trans (hf2.low hf1.size (fun _ f => f.elim)), Nat.le_trans hf1.size hf2.size⟩
  have Hdb : Hid (w.heap.size ≤ db ∧ w.heap.size ≤ bb) := ⟨hdb, hbb⟩
  have Hf2 := Lib.hid hf2
  clear hdb hbb hf1 hd1 hpq hq2 hf2
  go_upto_region 4 with (first
    | (go_at_call 39; refine Calls.mono HF3.out ?_; rintro e w3 ⟨rfl, hf3, hd3⟩)
    | fail)
  have hdk : ∀ k, (k = db ∨ k = bb) → ∃ o, w2.heap[k]? = some o ∧ (kindOf o = 103 ∨ kindOf o = 104) := by
    obtain ⟨_, _, _, _, e1, e2, _⟩ := Hd1.out.new Hf2.out
    rintro k (rfl | rfl)
    · exact ⟨_, e1, .inl rfl⟩
    · exact ⟨_, e2, .inr rfl⟩
  have hk3 : FrK [103, 104] w2 w3 := hf3.toK (by
    intro k o hk ho
    obtain ⟨o', ho', h⟩ := hdk k hk
    rw [ho'] at ho; cases ho
    rcases h with h | h <;> simp [h])
  have HO4 := Lib.hid (open_fresh hd3 (Hq2.out.keepK hk3 (by decide) (by decide) (by decide) (by decide)) Hdb.out (by omega) 1 (by omega))
  have HL3 : Hid (Low w.heap.size w w3 ∧ w.heap.size ≤ w3.heap.size) := ⟨HL2.out.1.trans (hf3.low HL2.out.2 (by rintro k (rfl | rfl); exact Hdb.out.1; exact Hdb.out.2)), Nat.le_trans HL2.out.2 hf3.size⟩
  clear hf3 hd3 hdk hk3
  go_upto_region 7 with (first
    | (go_at_call 30; refine Calls.mono HO4.out ?_; rintro e w4 ⟨xb, jb, mb, rfl, hs4, hf4⟩)
    | fail)
  have Hs4 := Lib.hid hs4
  have HL4 : Hid (Low w.heap.size w w4 ∧ w.heap.size ≤ w4.heap.size) := ⟨HL3.out.1.trans (hf4.low HL3.out.2 (by rintro k rfl; exact Hdb.out.1)), Nat.le_trans HL3.out.2 hf4.size⟩
  have HSt := Lib.hid (steps_calls w4 5 1 (by omega) (by omega))
  have hi4 := fresh_inv 20 1 ⟨[], [], [], 0, w.heap.size⟩ (by omega) (by omega)
  have Hi4 := Lib.hid hi4
  clear hs4 hf4 hi4
  have HSub := Lib.hid (fun (w5 : World) (v : Value) (hf5 : New w4 w5) (hv : StepsAt w5 v (kSteps 5 1)) => begun_sub (Hs4.out.keepK (hf5.toK (K := []) (fun _ _ f _ => f.elim)) (by simp)) hv)
  go_upto_region 8 with (first
    | (go_at_call 19; refine Calls.mono HSt.out ?_; rintro e w5 ⟨sv, rfl, hsv, hf5⟩; obtain ⟨sa, sn, sc, rfl⟩ := own_slice hsv)
    | (go_at_call 18; refine Calls.mono (HSub.out _ _ hf5 (hsv.at (by rw [kSteps_len]; omega))) ?_; rintro e w6 ⟨rfl, ⟨bl, hs6⟩, hk6, hl6⟩)
    | fail)
  have HL6 : Hid (Low w.heap.size w w6 ∧ w.heap.size ≤ w6.heap.size) := ⟨(HL4.out.1.trans (hf5.low HL4.out.2 (fun _ f => f.elim))).trans hl6, Nat.le_trans HL4.out.2 (Nat.le_trans hf5.size hk6.size)⟩
  have HT := Lib.hid (begun_tick hs6)
  clear hsv hf5 hs6 hk6 hl6
  go_upto_region 9 with (first
    | (go_at_call 20; refine Calls.mono HT.out ?_; rintro e w7 ⟨rfl, hs7, hk7, hl7⟩)
    | fail)
  have HL7 : Hid (Low w.heap.size w w7 ∧ w.heap.size ≤ w7.heap.size) := ⟨HL6.out.1.trans hl7, Nat.le_trans HL6.out.2 hk7.size⟩
  obtain ⟨g, hg3, hst⟩ := begun_status hs7
  obtain ⟨lv, va, vc, iv, at_, hpb⟩ := begun_effs hs7
  have Hpb := Lib.hid hpb
  have HST := Lib.hid hst
  have Hg3 := Lib.hid hg3
  clear hs7 hk7 hl7 hpb hst hg3
  go_upto_region 10 with (first
    | (go_at_call 21; refine Calls.mono HST.out ?_; rintro e w8 ⟨rfl, hf8⟩; simp only [SagaM.status])
    | fail)
  have hc9 := heap_alloc_new w8 (.cells #[.int .i64 g.id, .int .i64 g.st, .int .i64 g.step, .int .i64 g.steps.length, .int .i64 g.tries, .int .i64 g.due] 38)
  have hq9 := heap_alloc_keep (.cells #[.int .i64 g.id, .int .i64 g.st, .int .i64 g.step, .int .i64 g.steps.length, .int .i64 g.tries, .int .i64 g.due] 38) (hf8.get Hpb.out (fun f => f))
  have hlt9 := lt_of_hp (hf8.get Hpb.out (fun f => f))
  have HL9 : Hid (Low w.heap.size w (w8.alloc (.cells #[.int .i64 g.id, .int .i64 g.st, .int .i64 g.step, .int .i64 g.steps.length, .int .i64 g.tries, .int .i64 g.due] 38)) ∧ w.heap.size ≤ (w8.alloc (.cells #[.int .i64 g.id, .int .i64 g.st, .int .i64 g.step, .int .i64 g.steps.length, .int .i64 g.tries, .int .i64 g.due] 38)).heap.size) := ⟨HL7.out.1.trans ((hf8.alloc (.cells #[.int .i64 g.id, .int .i64 g.st, .int .i64 g.step, .int .i64 g.steps.length, .int .i64 g.tries, .int .i64 g.due] 38)).low HL7.out.2 (fun _ f => f.elim)), Nat.le_trans HL7.out.2 (hf8.alloc (.cells #[.int .i64 g.id, .int .i64 g.st, .int .i64 g.step, .int .i64 g.steps.length, .int .i64 g.tries, .int .i64 g.due] 38)).size⟩
  clear hf8
  generalize w8.alloc (.cells #[.int .i64 g.id, .int .i64 g.st, .int .i64 g.step, .int .i64 g.steps.length, .int .i64 g.tries, .int .i64 g.due] 38) = W9 at hc9 hq9 HL9 ⊢
  generalize w8.heap.size = N9 at hc9 hlt9 ⊢
  rw [Hg3.out] at hc9
  have hq9' : W9.heap[pq]? = some (.cells #[lv, .slice va 1 vc, iv, at_] 44 (0, 0)) := hq9
  have a1 : W9.cell? ⟨N9, 1, none⟩ = some (.int .i64 3) := by rw [cellv, hc9]; rfl
  have a2 : W9.cell? ⟨pq, 1, none⟩ = some (.slice va 1 vc) := by rw [cellv, hq9']; rfl
  clear hc9 hq9 hq9'
  go_upto_region 13 with (first
    | (go_at_call 38; refine Calls.mono (NewDisk_calls W9 n (by have := Hn.out; omega)) ?_; rintro e w10 ⟨hf10, db', bb', hdb', hbb', rfl, hd10⟩)
    | fail)
  have HF10 := Lib.hid (fmt_new hd10 Hn.out)
  have HL10 : Hid (Low w.heap.size w w10 ∧ w.heap.size ≤ w10.heap.size) := ⟨HL9.out.1.trans (hf10.low HL9.out.2 (fun _ f => f.elim)), Nat.le_trans HL9.out.2 hf10.size⟩
  have Hdb' : Hid (w.heap.size ≤ db' ∧ w.heap.size ≤ bb') := ⟨Nat.le_trans HL9.out.2 hdb', Nat.le_trans HL9.out.2 hbb'⟩
  clear a1 a2 hlt9 hf10 hdb' hbb' hd10
  go_upto_region 14 with (first
    | (go_at_call 39; refine Calls.mono HF10.out ?_; rintro e w11 ⟨rfl, hf11, hd11⟩)
    | fail)
  have HL11 : Hid (Low w.heap.size w w11 ∧ w.heap.size ≤ w11.heap.size) := ⟨HL10.out.1.trans (hf11.low HL10.out.2 (by rintro k (rfl | rfl); exact Hdb'.out.1; exact Hdb'.out.2)), Nat.le_trans HL10.out.2 hf11.size⟩
  have hlo : lo ≤ w.heap.size := by
    obtain ⟨⟨_, _, _, _, _, _, _, _, hb, _⟩⟩ := Hp.out
    have := hb.1; have := hb.2.1; simp only at this; omega
  have Hlo := Lib.hid hlo
  have HO12 := Lib.hid (open_fresh hd11 (Hp.out.low HL11.out.1 HL11.out.2) ⟨Nat.le_trans hlo Hdb'.out.1, Nat.le_trans hlo Hdb'.out.2⟩ Hn.out pause Hpz.out)
  clear hf11 hd11 hlo
  go_wp2_with (first
    | (go_at_call 30; refine Calls.mono HO12.out ?_; rintro e w12 ⟨xb', jb', mb', rfl, hs12, hf12⟩)
    | fail)
  go_ret2
  refine ⟨⟨xb', jb', mb', db', bb', pb⟩, rfl, rfl, hs12, (HL11.out.1.trans (hf12.low HL11.out.2 (by rintro k rfl; exact Hdb'.out.1))).le Hlo.out, Nat.le_trans HL11.out.2 hf12.size⟩
end Go.Proofs.YtkafmfdipmhleaaGreatDoor

namespace Go.Proofs.YtkafmfdipmhleaaGreatDoor
open Go.RowKit Go.Maps

theorem StM.fine.mono {s : StM} {m k : Nat} (h : s.fine m) (hk : k ≤ m) : s.fine k := by
  obtain ⟨h1, h2, h3, h4, h5, h6⟩ := h
  exact ⟨by omega, by omega, h3, h4, by omega, h6⟩
def rest200 (r : List Int) : List Int := r ++ List.replicate 200 0
def ends1 (r : List Int) (n : Nat) (pause : Int) (lo : Nat) : StM := (StM.fresh 60 pause ⟨[], [], rest200 r, 0, lo⟩).submit 9 (kSteps 9 n)
theorem ends1_room (r : List Int) (n : Nat) (pause : Int) (lo : Nat) (hn : 1 ≤ n ∧ n ≤ 6) :
    ((StM.fresh 60 pause ⟨[], [], rest200 r, 0, lo⟩).j.en : Int) + (2 + (2 * (kSteps 9 n).length - 1) + leftSum (StM.fresh 60 pause ⟨[], [], rest200 r, 0, lo⟩).sagas) ≤ (StM.fresh 60 pause ⟨[], [], rest200 r, 0, lo⟩).d.blocks.length := by
  have : (StM.fresh 60 pause ⟨[], [], rest200 r, 0, lo⟩).d.blocks.length = 60 := fresh_len 60
  rw [this, kSteps_len]
  simp [StM.fresh, leftSum]
  omega
theorem ends1_inv (r : List Int) (n : Nat) (pause : Int) (lo : Nat) (hr : r.length ≤ 20) (hn : 1 ≤ n ∧ n ≤ 6) (hp : 1 ≤ pause ∧ pause ≤ 8) : (ends1 r n pause lo).inv ∧ (ends1 r n pause lo).fine 100000 := by
  have h0 := fresh_inv 60 pause ⟨[], [], rest200 r, 0, lo⟩ (by omega) (by omega)
  have hf : (StM.fresh 60 pause ⟨[], [], rest200 r, 0, lo⟩).fine 100000 := ⟨by simp [StM.fresh], by simp [StM.fresh], by show (rest200 r).length < 2 ^ 30; rw [rest200, List.length_append, List.length_replicate]; omega, by simp [StM.fresh], by simp [StM.fresh], fun g hg => by simp [StM.fresh] at hg⟩
  exact submit_inv (id := 9) (l := kSteps 9 n) h0 hf (kSteps_whole 9 n (by omega) hn) (fun x hx => by simp [StM.fresh] at hx) (ends1_room r n pause lo hn)
theorem ends1_ei (r : List Int) (n : Nat) (pause : Int) (lo : Nat) (hn : 1 ≤ n ∧ n ≤ 6) (hp : 1 ≤ pause ∧ pause ≤ 8) : EI (rest200 r) n (ends1 r n pause lo) (SagaM.new 9 (kSteps 9 n)) where
  sg := rfl
  st := kSteps_len 9 n
  ag := .inl ⟨rfl, 0, rfl, by omega, .inl rfl⟩
  nv1 := fun _ x hx => by simp [ends1, StM.fresh, StM.submit] at hx
  nv2 := fun h => by simp [SagaM.new] at h
  pl := rfl
  at_ := rfl
  sum := by
    have : (ends1 r n pause lo).p.log = [] := rfl
    rw [this, new_left, kSteps_len]; simp; omega
  due := by show (0 : Int) ≤ 0 + pause; omega
  ok := new_ok (kSteps_whole 9 n (by omega) hn)
  clk := by show (0 : Int) ≤ 0 ∧ (0 : Int) < 2 ^ 40; omega
  tries := by show (0 : Int) < 2 ^ 40; omega
/-- Behind so many ticks. -/
theorem ends1_end (r : List Int) (n : Nat) (pause : Int) (lo t : Nat) (hr : r.length ≤ 20) (hn : 1 ≤ n ∧ n ≤ 6) (hp : 1 ≤ pause ∧ pause ≤ 8) (ht : (t : Int) = (20 + 2 * n + 2) * (pause + 1)) :
    ∃ g, ((ends1 r n pause lo).ticks t).sagas = [g] ∧ g.id = 9 ∧ g.steps.length = n ∧ Agree n g.st g.step (mineOf ((ends1 r n pause lo).ticks t).p.effs 9) ∧
      (g.st = 3 ∧ (((ends1 r n pause lo).ticks t).p.log.any fun x => x.2 == 2) = false ∨ g.st = 4 ∧ (((ends1 r n pause lo).ticks t).p.log.any fun x => x.2 == 2) = true) := by
  have hleft : (SagaM.new 9 (kSteps 9 n)).left ≤ 2 * n := by rw [new_left, kSteps_len]; omega
  have htb : (t : Int) ≤ 34 * 9 := by rw [ht]; exact Int.mul_le_mul (by omega) (by omega) (by omega) (by omega)
  obtain ⟨hi, hf⟩ := ends1_inv r n pause lo hr hn hp
  obtain ⟨g, h1, h2, h3, h4⟩ := ei_ends (r := r) rfl hr (ends1_ei r n pause lo hn hp) hn.2 hi rfl rfl rfl rfl hleft t ht (hf.mono (by omega))
  have hid : g.id = 9 := h3
  refine ⟨g, h1.sg, hid, h1.st, by have := h1.ag; rw [hid] at this; exact this, ?_⟩
  rcases h4 with h4 | h4
  · left
    refine ⟨h4, ?_⟩
    rw [List.any_eq_false]
    intro x hx
    have := h1.nv1 (.inr h4) x hx
    simpa using this
  · right
    refine ⟨h4, ?_⟩
    rw [List.any_eq_true]
    obtain ⟨x, hx, h2⟩ := h1.nv2 (.inr h4)
    exact ⟨x, hx, by simpa using h2⟩
/-- How a partner's log reads. -/
theorem logCells_get (l : List (CallM × Int)) (k : Nat) (h : k < l.length) : (logCells l)[k * 5 + 4]? = some (.int .i64 l[k].2) := by
  induction l generalizing k with
  | nil => simp at h
  | cons a l ih =>
    have ha : (a.1.cells ++ [Value.int .i64 a.2]).length = 5 := rfl
    simp only [logCells, List.flatMap_cons]
    cases k with
    | zero =>
      rw [Nat.zero_mul, Nat.zero_add, List.getElem?_append_left (by omega)]
      rfl
    | succ k =>
      rw [List.getElem?_append_right (by omega), ha, show (k + 1) * 5 + 4 - 5 = k * 5 + 4 by omega]
      have := ih k (by simpa using h)
      simpa [logCells] using this
theorem log_read {w : World} {pb : Nat} {p : PartM} (h : PAt w pb p) : ∃ va vc ev iv, w.heap[pb]? = some (.cells #[.slice va p.log.length vc, ev, iv, .int .i64 p.at_] 44 (0, 0)) ∧
    ∀ k (hk : k < p.log.length), ∃ g, va = some ⟨g, 0, none⟩ ∧ (∃ o, w.heap[g]? = some o) ∧ ∀ w' : World, w'.heap[g]? = w.heap[g]? → cellOf w'.heap[g]? (k * 5 + 4) = some (.int .i64 p.log[k].2) := by
  obtain ⟨⟨lv, ev, iv, B, h1, ho, _, _⟩⟩ := h
  rcases ho with ⟨o1, ⟨rfl, h0⟩ | ⟨g, cap, cur, rfl, hg, hh, _, _, _, htk⟩⟩
  · refine ⟨none, 0, ev, iv, by rw [h1, h0], fun k hk => by omega⟩
  · refine ⟨_, cap, ev, iv, h1, fun k hk => ⟨g, rfl, ⟨_, hh⟩, fun w' hf => ?_⟩⟩
    have := logCells_get p.log k hk
    rw [hf, hh, cellOf_cells]
    rw [← htk, List.getElem?_take_of_lt (by omega)] at this
    simpa using this
end Go.Proofs.YtkafmfdipmhleaaGreatDoor

namespace Go.Proofs.YtkafmfdipmhleaaGreatDoor
open Go.RowKit Go.Maps

def subStr : ByteArray := ⟨#[115, 117, 98, 109, 105, 116]⟩
set_option maxRecDepth 100000 in
set_option maxHeartbeats 2000000 in
/-- A saga that is none. -/
theorem Submit_bad {w : World} {q : Pl} {bl : List Nat} {s : StM} {id : Int} {l : List (ByteArray × ByteArray)} {v : Value} (hs : StAt w q bl s) (hv : SlAt w v l) (hll : l.length ≤ 1000) (hw : wholeB id l = false) :
    Calls Tryz.prog 18 #[.pointer (some ⟨q.xb, 0, none⟩), .int .i64 id, v] w (FailPost w subStr 1) := by
  have hsh : ∃ a c, v = .slice a l.length c := by
    rcases hv with ⟨rfl, a, c, rfl⟩ | ⟨b, off, cap, _, e, _⟩
    · exact ⟨a, c, rfl⟩
    · exact ⟨_, _, e⟩
  have HW := Lib.hid (Whole_calls w id l v hv hll)
  obtain ⟨a, c, rfl⟩ := hsh
  rw [hw] at HW
  have hx := hs.eng
  simp only [egCells] at hx
  clear hs hv hll hw
  have hcv := cellv w
  go_enter Tryz.func18, Tryz.ntmps18
  go_wp2_with (first
    | (go_at_call 41; refine Calls.mono HW.out ?_; rintro e w2 ⟨rfl, hf2⟩)
    | (go_at_call 40; refine Calls.mono (fail_calls w2 subStr 1) ?_; rintro e w3 ⟨v, rfl, hv3, hf3⟩)
    | fail)
  go_ret
  obtain ⟨fb, h1, h2, h3⟩ := hv3
  exact ⟨v, rfl, ⟨fb, Nat.le_trans hf2.size h1, h2, h3⟩, hf2.trans hf3⟩
set_option maxRecDepth 100000 in
set_option maxHeartbeats 2000000 in
/-- A saga of this number is there: the same one, or another. -/
theorem Submit_there {w : World} {q : Pl} {bl : List Nat} {s : StM} {i : Nat} {g : SagaM} {l : List (ByteArray × ByteArray)} {v : Value} (hs : StAt w q bl s) (hi : s.inv) (hg : s.sagas[i]? = some g) (hv : StepsAt w v l) (hw : wholeB g.id l = true) :
    Calls Tryz.prog 18 #[.pointer (some ⟨q.xb, 0, none⟩), .int .i64 g.id, v] w fun e w' => New w w' ∧ (if l = g.steps then e = .returned .nilIface else ∃ x, e = .returned x ∧ FaultAt w w' subStr 2 x) := by
  have hws := whole_small hw
  obtain ⟨b, hb, hbo⟩ := blk_of s.sagas bl hs.len hi.ord i g hg
  have hgok := hi.ok g (List.mem_of_getElem? hg)
  obtain ⟨sa, sn, sc, rfl⟩ := hv.shape
  have HW := Lib.hid (Whole_calls w g.id l _ (.inr hv) (by have := hws.2.2.2.1; omega))
  rw [hw] at HW
  have HS := Lib.hid (fun (w2 : World) (hf : New w w2) => Same_calls ((hs.keepK (hf.toK (K := []) (fun _ _ f _ => f.elim)) (by simp)).sg i g b hg hb) l _ (hv.frame hf (fun _ f => f.elim)) (by have := hws.2.2.2.1; omega) (by have := hgok.2.2.1.2.1; omega))
  have HL := Lib.hid (fun (w2 : World) (hf : New w w2) => look_some (hs.keepK (hf.toK (K := []) (fun _ _ f _ => f.elim)) (by simp)).mp g.id (by omega) hbo)
  have Hx := Lib.hid hs.eng
  have hx := hs.eng
  simp only [egCells] at hx
  clear hs hi hg hv hw hb hbo hgok hws
  have hcv := cellv w
  go_enter Tryz.func18, Tryz.ntmps18
  go_upto_region 5 with (first
    | (go_at_call 41; refine Calls.mono HW.out ?_; rintro e w2 ⟨rfl, hf2⟩)
    | fail)
  have hx2 := hf2.get Hx.out (fun f => f)
  have hlk := HL.out w2 hf2
  have HS2 := Lib.hid (HS.out w2 hf2)
  have Hf2 := Lib.hid hf2
  simp only [egCells] at hx2
  clear hcv hx hf2
  have hcv := cellv w2
  by_cases he : l = g.steps
  · rw [decide_eq_true he] at HS2
    have He := Lib.hid he
    clear he
    go_wp2_with (first
      | (go_at_call 42; refine Calls.mono HS2.out ?_; rintro e w3 ⟨rfl, n3, rfl⟩)
      | fail)
    go_ret
    exact ⟨Hf2.out.drewN n3, rfl⟩
  · rw [decide_eq_false he] at HS2
    have He := Lib.hid he
    clear he
    go_wp2_with (first
      | (go_at_call 42; refine Calls.mono HS2.out ?_; rintro e w3 ⟨rfl, n3, rfl⟩)
      | (go_at_call 40; refine Calls.mono (fail_calls (w2.drewN n3) subStr 2) ?_; rintro e w4 ⟨v, rfl, hv4, hf4⟩)
      | fail)
    go_ret
    obtain ⟨fb, h1, h2, h3⟩ := hv4
    exact ⟨(Hf2.out.drewN n3).trans hf4, v, rfl, fb, Nat.le_trans Hf2.out.size h1, h2, h3⟩
end Go.Proofs.YtkafmfdipmhleaaGreatDoor

namespace Go.Proofs.YtkafmfdipmhleaaGreatDoor
open Go.RowKit Go.Extern.Stop Go.Stop Go.Extern

theorem Tryz.valueOf105 (t : Addr) (w : World) : (ReflectliteValue.unpack (.iface 105 (.pointer (some t)))).run Tryz.prog w
    = .ok (.agg #[.pointer (some ⟨1, 105, none⟩), .pointer (some ⟨w.heap.size, 0, none⟩), .int .u64 150]) (w.alloc (.cells #[.pointer (some t)] 105)) := by kernel_rfl
theorem Tryz.type105 (a : Addr) (w : World) : (ReflectliteValue.methodAny (ReflectliteValue.valueError "reflectlite.Value.Type" 0) (fun t _ _ _ => ReflectliteType.toType t) #[.agg #[.pointer (some ⟨1, 105, none⟩), .pointer (some a), .int .u64 150]]).run Tryz.prog w
    = .ok (.iface 176 (.agg #[.pointer (some ⟨1, 105, none⟩)])) w := by kernel_rfl
theorem Tryz.kind105 (w : World) : ((ReflectliteType.abiMethod fun t => (fun a : Nat => Value.int IntKind.u8 (a : Int)) <$> Rtype.kind t) #[.pointer (some ⟨1, 105, none⟩)]).run Tryz.prog w = .ok (.int .u8 22) w := by kernel_rfl
theorem Tryz.kind55 (w : World) : ((ReflectliteType.abiMethod fun t => (fun a : Nat => Value.int IntKind.u8 (a : Int)) <$> Rtype.kind t) #[.pointer (some ⟨1, 55, none⟩)]).run Tryz.prog w = .ok (.int .u8 2) w := by kernel_rfl
theorem rlm (z : Sem Value) (f : TypeId → Addr → Nat → Nat → Sem Value) (v : Value) :
    ReflectliteValue.method z f #[v] = (do match ← ReflectliteValue.parts v with | none => z | some (t, a, fl) => f t a fl (fl % 32)) := rfl
theorem Tryz.parts105 (a : Addr) (w : World) : (ReflectliteValue.parts (.agg #[.pointer (some ⟨1, 105, none⟩), .pointer (some a), .int .u64 150])).run Tryz.prog w = .ok (some (105, a, 150)) w := by kernel_rfl
theorem Tryz.isNil105 (a p : Addr) (W : World) (ha : W.cell? a = some (.pointer (some p))) :
    (ReflectliteValue.method (ReflectliteValue.valueError "reflectlite.Value.IsNil" 0) ReflectliteValue.isNil #[.agg #[.pointer (some ⟨1, 105, none⟩), .pointer (some a), .int .u64 150]]).run Tryz.prog W = .ok (.bool false) W := by
  rw [rlm]
  simp only [Sem.run_bind, Tryz.parts105, Result.andThen]
  simp [ReflectliteValue.isNil, loadVar, isAgg, underlying, Tryz.underlying105, ha, Result.andThen]
theorem Tryz.elem105 (w : World) : (ReflectliteType.method ReflectliteType.elem #[.agg #[.pointer (some ⟨1, 105, none⟩)]]).run Tryz.prog w = .ok (.iface 176 (.agg #[.pointer (some ⟨1, 55, none⟩)])) w := by kernel_rfl
theorem Tryz.implements55 (w : World) : (ReflectliteType.relation "Implements" ReflectliteType.implements_ #[.agg #[.pointer (some ⟨1, 55, none⟩)], .iface 176 (.agg #[.pointer (some ⟨1, 32, none⟩)])]).run Tryz.prog w = .ok (.bool true) w := by kernel_rfl
theorem Tryz.typeOf121 (v : Value) (w : World) : (ReflectliteType.typeOf #[.iface 121 v]).run Tryz.prog w = .ok (.iface 176 (.agg #[.pointer (some ⟨1, 121, none⟩)])) w := by kernel_rfl
theorem Tryz.typeOf55 (v : Value) (w : World) : (ReflectliteType.typeOf #[.iface 55 v]).run Tryz.prog w = .ok (.iface 176 (.agg #[.pointer (some ⟨1, 55, none⟩)])) w := by kernel_rfl
theorem Tryz.assignable121 (w : World) : (ReflectliteType.relation "AssignableTo" ReflectliteType.assignableTo #[.agg #[.pointer (some ⟨1, 121, none⟩)], .iface 176 (.agg #[.pointer (some ⟨1, 55, none⟩)])]).run Tryz.prog w = .ok (.bool false) w := by kernel_rfl
theorem Tryz.assignable55 (w : World) : (ReflectliteType.relation "AssignableTo" ReflectliteType.assignableTo #[.agg #[.pointer (some ⟨1, 55, none⟩)], .iface 176 (.agg #[.pointer (some ⟨1, 55, none⟩)])]).run Tryz.prog w = .ok (.bool true) w := by kernel_rfl
theorem Tryz.valueOf55 (n : Int) (w : World) : (ReflectliteValue.unpack (.iface 55 (.int .i64 n))).run Tryz.prog w
    = .ok (.agg #[.pointer (some ⟨1, 55, none⟩), .pointer (some ⟨w.heap.size, 0, none⟩), .int .u64 130]) (w.alloc (.cells #[.int .i64 n] 55)) := by kernel_rfl
theorem Tryz.elemOf105 (w : World) : (Rtype.elem? 105).run Tryz.prog w = .ok (some 55) w := by kernel_rfl
theorem Tryz.mk55 (p : Addr) (w : World) : (ReflectliteValue.mk 55 p ReflectliteValue.flagAddr).run Tryz.prog w = .ok (.agg #[.pointer (some ⟨1, 55, none⟩), .pointer (some p), .int .u64 386]) w := by kernel_rfl
theorem Tryz.elemV105 (a p : Addr) (W : World) (ha : W.cell? a = some (.pointer (some p))) :
    (ReflectliteValue.method (ReflectliteValue.valueError "reflectlite.Value.Elem" 0) ReflectliteValue.elem #[.agg #[.pointer (some ⟨1, 105, none⟩), .pointer (some a), .int .u64 150]]).run Tryz.prog W
      = .ok (.agg #[.pointer (some ⟨1, 55, none⟩), .pointer (some p), .int .u64 386]) W := by
  rw [rlm]
  simp only [Sem.run_bind, Tryz.parts105, Result.andThen]
  simp [ReflectliteValue.elem, loadVar, isAgg, underlying, Tryz.underlying105, ha, Result.andThen, Tryz.elemOf105, Tryz.mk55]
theorem rls (v x : Value) : ReflectliteValue.set #[v, x] = (do
    let (some (dst, a, fl), some (src, b, _)) := (← ReflectliteValue.parts v, ← ReflectliteValue.parts x)
      | unsupported (.noEntry "extern/(internal/reflectlite.Value).Set.zeroValue")
    if fl / ReflectliteValue.flagAddr % 2 == 0 then unsupported (.noEntry "extern/(internal/reflectlite.Value).Set.unaddressable")
    let val ← loadVar src b
    if ← Rtype.directlyAssignable dst src then storeVar dst a val
    else if ← Rtype.implements dst src then
      if (← Rtype.kind src) == 20 then
        match val with
        | .nilIface => unsupported (.noEntry "extern/reflectlite: a nil value of one interface type handed on as a value of another")
        | _ => storeVar dst a val
      else storeVar dst a (.iface src val)
    else panicString ("reflectlite.Set: value of type " ++ (← Rtype.spelt src) ++ " is not assignable to type " ++ (← Rtype.spelt dst))
    pure (.tuple #[])) := rfl
theorem Tryz.parts55a (a : Addr) (w : World) : (ReflectliteValue.parts (.agg #[.pointer (some ⟨1, 55, none⟩), .pointer (some a), .int .u64 386])).run Tryz.prog w = .ok (some (55, a, 386)) w := by kernel_rfl
theorem Tryz.parts55 (a : Addr) (w : World) : (ReflectliteValue.parts (.agg #[.pointer (some ⟨1, 55, none⟩), .pointer (some a), .int .u64 130])).run Tryz.prog w = .ok (some (55, a, 130)) w := by kernel_rfl
theorem Tryz.direct55 (w : World) : (Rtype.directlyAssignable 55 55).run Tryz.prog w = .ok true w := by kernel_rfl
theorem Tryz.set55 (ta b : Addr) (n : Int) (old : Value) (W : World) (hb : W.cell? b = some (.int .i64 n)) (ht : W.cell? ta = some old) (hf : W.frozen? ta = false) :
    (ReflectliteValue.set #[.agg #[.pointer (some ⟨1, 55, none⟩), .pointer (some ta), .int .u64 386], .agg #[.pointer (some ⟨1, 55, none⟩), .pointer (some b), .int .u64 130]]).run Tryz.prog W
      = .ok (.tuple #[]) (W.setCell ta (.int .i64 n)) := by
  rw [rls]
  simp only [Sem.run_bind, Tryz.parts55a, Tryz.parts55, Result.andThen]
  simp [ReflectliteValue.flagAddr, loadVar, isAgg, underlying, Tryz.underlying55, hb, Result.andThen, Tryz.direct55, storeVar, Value.cells, storeCells, Addr.add]
  rw [run_store Tryz.prog W ta _ _ (by rfl)]
  simp [ht, hf]
end Go.Proofs.YtkafmfdipmhleaaGreatDoor

namespace Go.Proofs.YtkafmfdipmhleaaGreatDoor
open Go.RowKit Go.Extern.Stop Go.Stop Go.Extern

theorem Tryz.noAs (v : Value) (xT : TypeId) (w : World) : (Instr.typeAssert (.iface 121 v) xT 181 true).run Tryz.prog w = .ok (.tuple #[.nilIface, .bool false]) w := run_typeAssert_lacksB Tryz.underlying181 (by kernel_rfl) (by kernel_rfl) v xT w
theorem Tryz.isUnwrap (v : Value) (xT : TypeId) (w : World) : (Instr.typeAssert (.iface 121 v) xT 184 true).run Tryz.prog w = .ok (.tuple #[.iface 121 v, .bool true]) w := run_typeAssert_hasB Tryz.underlying184 (by kernel_rfl) v xT w
set_option maxHeartbeats 4000000 in
set_option maxRecDepth 100000 in
/-- errors.As of a fault that wraps a number. -/
theorem as_fault (fb t : Nat) (op : ByteArray) (n : Int) (old : Value) (w : World) (hg : w.cell? ⟨0, 0, none⟩ = some (.iface 176 (.agg #[.pointer (some ⟨1, 32, none⟩)]))) (hfb : w.heap[fb]? = some (.cells (faultCells op n) 123 (0, 0))) (ht : w.heap[t]? = some (.cells #[old] 55 (0, 0))) :
    Calls Tryz.prog 56 #[.iface 121 (.pointer (some ⟨fb, 0, none⟩)), .iface 105 (.pointer (some ⟨t, 0, none⟩))] w fun ev w' => ev = .returned (.bool true) ∧ Fr (· = t) w w' ∧ w'.heap[t]? = some (.cells #[.int .i64 n] 55 (0, 0)) := by
  have h75 := @run_callFunc_extern Tryz.prog 75 _ (fun args => ReflectliteValue.unpack (args.getD 0 (.tuple #[]))) Tryz.func75 (by kernel_rfl) (by kernel_rfl) (by kernel_rfl) (by kernel_rfl)
  have h76 := @run_callFunc_extern Tryz.prog 76 _ (ReflectliteValue.methodAny (ReflectliteValue.valueError "reflectlite.Value.Type" 0) (fun t _ _ _ => ReflectliteType.toType t)) Tryz.func76 (by kernel_rfl) (by kernel_rfl) (by kernel_rfl) (by kernel_rfl)
  have h77 := @run_callFunc_extern Tryz.prog 77 _ (ReflectliteValue.method (ReflectliteValue.valueError "reflectlite.Value.IsNil" 0) ReflectliteValue.isNil) Tryz.func77 (by kernel_rfl) (by kernel_rfl) (by kernel_rfl) (by kernel_rfl)
  have h174 := @run_callFunc_extern Tryz.prog 174 _ (ReflectliteType.abiMethod fun t => do pure (.int .u8 (← Rtype.kind t))) Tryz.func174 (by kernel_rfl) (by kernel_rfl) (by kernel_rfl) (by kernel_rfl)
  have h192 := @run_callFunc_extern Tryz.prog 192 _ (ReflectliteType.method ReflectliteType.elem) Tryz.func192 (by kernel_rfl) (by kernel_rfl) (by kernel_rfl) (by kernel_rfl)
  have h193 := @run_callFunc_extern Tryz.prog 193 _ (ReflectliteType.relation "Implements" ReflectliteType.implements_) Tryz.func193 (by kernel_rfl) (by kernel_rfl) (by kernel_rfl) (by kernel_rfl)
  have h100 := @run_callFunc_extern Tryz.prog 100 _ ReflectliteType.typeOf Tryz.func100 (by kernel_rfl) (by kernel_rfl) (by kernel_rfl) (by kernel_rfl)
  have h190 := @run_callFunc_extern Tryz.prog 190 _ (ReflectliteType.relation "AssignableTo" ReflectliteType.assignableTo) Tryz.func190 (by kernel_rfl) (by kernel_rfl) (by kernel_rfl) (by kernel_rfl)
  have h101 := @run_callFunc_extern Tryz.prog 101 _ (ReflectliteValue.method (ReflectliteValue.valueError "reflectlite.Value.Elem" 0) ReflectliteValue.elem) Tryz.func101 (by kernel_rfl) (by kernel_rfl) (by kernel_rfl) (by kernel_rfl)
  have h102 := @run_callFunc_extern Tryz.prog 102 _ ReflectliteValue.set Tryz.func102 (by kernel_rfl) (by kernel_rfl) (by kernel_rfl) (by kernel_rfl)
  have f75 := Tryz.valueOf105
  have f76 := Tryz.type105
  have htl := lt_of_hp ht
  have hfl := lt_of_hp hfb
  have h0l : 0 < w.heap.size := by omega
  have k105 := Tryz.kind105
  have k55 := Tryz.kind55
  have e105 := Tryz.elem105
  have i55 := Tryz.implements55
  have t121 := Tryz.typeOf121
  have t55 := Tryz.typeOf55
  have a121 := Tryz.assignable121
  have a55 := Tryz.assignable55
  have v55 := Tryz.valueOf55
  have hs1 : (w.alloc (.cells #[.pointer (some ⟨t, 0, none⟩)] 105)).heap.size = w.heap.size + 1 := sz_alloc _ _
  have hs2 : ((w.alloc (.cells #[.pointer (some ⟨t, 0, none⟩)] 105)).alloc (.cells #[.pointer (some ⟨1, 105, none⟩), .pointer (some ⟨w.heap.size, 0, none⟩), .int .u64 150] 143)).heap.size = w.heap.size + 1 + 1 := by rw [sz_alloc, sz_alloc]
  have hs3 : (((w.alloc (.cells #[.pointer (some ⟨t, 0, none⟩)] 105)).alloc (.cells #[.pointer (some ⟨1, 105, none⟩), .pointer (some ⟨w.heap.size, 0, none⟩), .int .u64 150] 143)).alloc (.cells #[.pointer (some ⟨1, 105, none⟩), .pointer (some ⟨w.heap.size, 0, none⟩), .int .u64 150] 143)).heap.size = w.heap.size + 1 + 1 + 1 := by rw [sz_alloc, sz_alloc, sz_alloc]
  have p2 : ((w.alloc (.cells #[.pointer (some ⟨t, 0, none⟩)] 105)).alloc (.cells #[.pointer (some ⟨1, 105, none⟩), .pointer (some ⟨w.heap.size, 0, none⟩), .int .u64 150] 143)).heap[w.heap.size]? = some (.cells #[.pointer (some ⟨t, 0, none⟩)] 105 (0, 0)) := heap_alloc_keep _ (heap_alloc_new w _)
  have p3 : (((w.alloc (.cells #[.pointer (some ⟨t, 0, none⟩)] 105)).alloc (.cells #[.pointer (some ⟨1, 105, none⟩), .pointer (some ⟨w.heap.size, 0, none⟩), .int .u64 150] 143)).alloc (.cells #[.pointer (some ⟨1, 105, none⟩), .pointer (some ⟨w.heap.size, 0, none⟩), .int .u64 150] 143)).heap[w.heap.size]? = some (.cells #[.pointer (some ⟨t, 0, none⟩)] 105 (0, 0)) := heap_alloc_keep _ p2
  have n77 := Tryz.isNil105 ⟨w.heap.size, 0, none⟩ ⟨t, 0, none⟩ ((w.alloc (.cells #[.pointer (some ⟨t, 0, none⟩)] 105)).alloc (.cells #[.pointer (some ⟨1, 105, none⟩), .pointer (some ⟨w.heap.size, 0, none⟩), .int .u64 150] 143)) (by rw [cellv, p2]; rfl)
  have el := Tryz.elemV105 ⟨w.heap.size, 0, none⟩ ⟨t, 0, none⟩ (((w.alloc (.cells #[.pointer (some ⟨t, 0, none⟩)] 105)).alloc (.cells #[.pointer (some ⟨1, 105, none⟩), .pointer (some ⟨w.heap.size, 0, none⟩), .int .u64 150] 143)).alloc (.cells #[.pointer (some ⟨1, 105, none⟩), .pointer (some ⟨w.heap.size, 0, none⟩), .int .u64 150] 143)) (by rw [cellv, p3]; rfl)
  have b4 : ((((w.alloc (.cells #[.pointer (some ⟨t, 0, none⟩)] 105)).alloc (.cells #[.pointer (some ⟨1, 105, none⟩), .pointer (some ⟨w.heap.size, 0, none⟩), .int .u64 150] 143)).alloc (.cells #[.pointer (some ⟨1, 105, none⟩), .pointer (some ⟨w.heap.size, 0, none⟩), .int .u64 150] 143)).alloc (.cells #[.int .i64 n] 55)).heap[w.heap.size + 1 + 1 + 1]? = some (.cells #[.int .i64 n] 55 (0, 0)) := by rw [← hs3]; exact heap_alloc_new _ _
  have t4 : ((((w.alloc (.cells #[.pointer (some ⟨t, 0, none⟩)] 105)).alloc (.cells #[.pointer (some ⟨1, 105, none⟩), .pointer (some ⟨w.heap.size, 0, none⟩), .int .u64 150] 143)).alloc (.cells #[.pointer (some ⟨1, 105, none⟩), .pointer (some ⟨w.heap.size, 0, none⟩), .int .u64 150] 143)).alloc (.cells #[.int .i64 n] 55)).heap[t]? = some (.cells #[old] 55 (0, 0)) := heap_alloc_keep _ (heap_alloc_keep _ (heap_alloc_keep _ (heap_alloc_keep _ ht)))
  have st := Tryz.set55 ⟨t, 0, none⟩ ⟨w.heap.size + 1 + 1 + 1, 0, none⟩ n old ((((w.alloc (.cells #[.pointer (some ⟨t, 0, none⟩)] 105)).alloc (.cells #[.pointer (some ⟨1, 105, none⟩), .pointer (some ⟨w.heap.size, 0, none⟩), .int .u64 150] 143)).alloc (.cells #[.pointer (some ⟨1, 105, none⟩), .pointer (some ⟨w.heap.size, 0, none⟩), .int .u64 150] 143)).alloc (.cells #[.int .i64 n] 55)) (by rw [cellv, b4]; rfl) (by rw [cellv, t4]; rfl) (by rw [frozv, t4]; rfl)
  have hg2 : ((w.alloc (.cells #[.pointer (some ⟨t, 0, none⟩)] 105)).alloc (.cells #[.pointer (some ⟨1, 105, none⟩), .pointer (some ⟨w.heap.size, 0, none⟩), .int .u64 150] 143)).cell? ⟨0, 0, none⟩ = some (.iface 176 (.agg #[.pointer (some ⟨1, 32, none⟩)])) := by
    rw [World.cell?_alloc_lt _ _ ⟨0, 0, none⟩ (by simp), World.cell?_alloc_lt _ _ ⟨0, 0, none⟩ h0l]; exact hg
  have hf3 : (((w.alloc (.cells #[.pointer (some ⟨t, 0, none⟩)] 105)).alloc (.cells #[.pointer (some ⟨1, 105, none⟩), .pointer (some ⟨w.heap.size, 0, none⟩), .int .u64 150] 143)).alloc (.cells #[.pointer (some ⟨1, 105, none⟩), .pointer (some ⟨w.heap.size, 0, none⟩), .int .u64 150] 143)).cell? ⟨fb, 1, none⟩ = some (.iface 55 (.int .i64 n)) := by
    rw [cellv, heap_alloc_keep _ (heap_alloc_keep _ (heap_alloc_keep _ hfb))]; rfl
  have Ht := Lib.hid ht
  have Ht4 := Lib.hid t4
  have Htl := Lib.hid htl
  have HF : Hid (Fr (· = t) w ((((w.alloc (.cells #[.pointer (some ⟨t, 0, none⟩)] 105)).alloc (.cells #[.pointer (some ⟨1, 105, none⟩), .pointer (some ⟨w.heap.size, 0, none⟩), .int .u64 150] 143)).alloc (.cells #[.pointer (some ⟨1, 105, none⟩), .pointer (some ⟨w.heap.size, 0, none⟩), .int .u64 150] 143)).alloc (.cells #[.int .i64 n] 55))) := ((((Fr.refl _ w).alloc _).alloc _).alloc _).alloc _
  clear hfb ht htl hfl p2 p3 b4 t4 hg h0l hs1 hs2 hs3
  go_enter Tryz.func56, Tryz.ntmps56
  go_wp2
  refine wp_loop_rounds 2 ?_
  rw [rounds_succ]
  have ta1 := Tryz.noAs
  have ta2 := Tryz.isUnwrap
  go_wp2
  simp only [Array.getD_eq_getD_getElem?]
  rw [rounds_succ]
  go_wp2
  go_ret
  refine ⟨rfl, HF.out.trans (Fr.one t _ 0 _), ?_⟩
  rw [hp_setCell, if_pos rfl, Ht4.out]; rfl
end Go.Proofs.YtkafmfdipmhleaaGreatDoor

namespace Go.Proofs.YtkafmfdipmhleaaGreatDoor
open Go.RowKit

theorem toldP_nil (w : World) : Calls Tryz.prog 26 #[.nilIface] w fun e w' => e = .returned (.int .i64 0) ∧ w' = w := by
  go_enter Tryz.func26, Tryz.ntmps26
  go_wp2
  go_ret
  exact ⟨rfl, rfl⟩
set_option maxRecDepth 100000 in
set_option maxHeartbeats 2000000 in
theorem toldP_fault (fb : Nat) (op : ByteArray) (n : Int) (w : World) (hg : w.cell? ⟨0, 0, none⟩ = some (.iface 176 (.agg #[.pointer (some ⟨1, 32, none⟩)]))) (hfb : w.heap[fb]? = some (.cells (faultCells op n) 123 (0, 0))) :
    Calls Tryz.prog 26 #[.iface 121 (.pointer (some ⟨fb, 0, none⟩))] w fun e w' => e = .returned (.int .i64 n) ∧ New w w' := by
  have hfl := lt_of_hp hfb
  have h1 := heap_alloc_new w (.cells #[.int .i64 0] 55)
  have h2 := heap_alloc_keep (.cells #[.int .i64 0] 55) hfb
  have hg1 : (w.alloc (.cells #[.int .i64 0] 55)).cell? ⟨0, 0, none⟩ = some (.iface 176 (.agg #[.pointer (some ⟨1, 32, none⟩)])) := by
    rw [World.cell?_alloc_lt _ _ ⟨0, 0, none⟩ (by show 0 < _; omega)]; exact hg
  have HA := Lib.hid (as_fault fb w.heap.size op n (.int .i64 0) _ hg1 h2 h1)
  have HF : Hid (New w (w.alloc (.cells #[.int .i64 0] 55))) := (Fr.refl _ w).alloc _
  clear hg hfb hfl h1 h2 hg1
  go_enter Tryz.func26, Tryz.ntmps26
  go_upto_region 5 with (first
    | (go_at_call 56; refine Calls.mono HA.out ?_; rintro e w2 ⟨rfl, hf2, ht2⟩)
    | fail)
  have Hf2 := Lib.hid hf2
  have a1 : w2.cell? ⟨w.heap.size, 0, none⟩ = some (.int .i64 n) := by rw [cellv, ht2]; rfl
  clear hf2 ht2
  go_wp2_with fail
  go_ret
  exact ⟨rfl, HF.out.trans' Hf2.out (fun i hi e => by omega)⟩
end Go.Proofs.YtkafmfdipmhleaaGreatDoor

namespace Go.Proofs.YtkafmfdipmhleaaGreatDoor
open Go.RowKit Go.Maps

def DiskM.bytes (d : DiskM) : ByteArray := ⟨d.blocks.flatten.toArray⟩
theorem Tryz.info5b : (Tryz.prog.info? 5).map (fun i => (i.zero, i.size, i.bytes)) = some (some (.int .u8 0), 1, 1) := by kernel_rfl
theorem flat128 (bl : List (List UInt8)) (h : ∀ b ∈ bl, b.length = 128) : bl.flatten.length = bl.length * 128 := by
  induction bl with
  | nil => rfl
  | cons a l ih =>
    have h1 := h a (by simp)
    have h2 := ih (fun b hb => h b (by simp [hb]))
    simp only [List.flatten_cons, List.length_append, List.length_cons, h1, h2]; omega
set_option maxRecDepth 100000 in
set_option maxHeartbeats 2000000 in
theorem Bytes_calls {w : World} {db bb : Nat} {d : DiskM} (h : DiskAt w db bb d) (hn : d.blocks.length ≤ 1000) :
    Calls Tryz.prog 25 #[.pointer (some ⟨db, 0, none⟩)] w fun e w' => e = .returned (.string d.bytes) ∧ New w w' := by
  obtain ⟨i0, hi, hz0, hz1, hz2⟩ := info_parts Tryz.info5b
  obtain ⟨⟨hwf, _⟩, cap, rest, cv, h1, h2, _⟩ := h
  have Hd : Hid (d.bytes = ⟨d.blocks.flatten.toArray⟩) := rfl
  generalize d.bytes = ans at Hd ⊢
  have hfl := flat128 d.blocks hwf
  have Hfl := Lib.hid hfl
  have Hwf := Lib.hid hwf
  have H2 := Lib.hid h2
  have H1 := Lib.hid h1
  simp only [dkCells] at h1
  generalize hbl : d.blocks = bl at *
  have hw : wrap64 ((bl.length : Int) * 128) = ((bl.length * 128 : Nat) : Int) := by rw [wrap_in _ (by omega)]; omega
  have hmk : ((bl.length * 128 : Nat) : Int) = ((bl.length * 128 : Nat) : Int) := rfl
  clear hwf h2 hbl hfl
  have hcv := cellv w
  go_enter Tryz.func25, Tryz.ntmps25
  go_upto_region 2 with (first
    | (at_make; refine wpList_make_own _ rfl _ _ 92 rfl w.heap.size 5 i0 (.int .u8 0) 1 Tryz.underlying92 hi hz0 hz1 .i64 .i64 _ (bl.length * 128) rfl rfl (by omega) (by rw [hz2]; omega) (by unfold maxLen; omega) (Nat.le_refl _) ?_; intro w1 hown1 hg1; go_frame)
    | fail)
  have hf1 : New w w1 := (Fr.ofGrown hg1).mono (fun _ _ e => by cases e)
  have Hf1 := Lib.hid hf1
  have Hown1 := Lib.hid hown1
  have hc1 := hf1.get H1.out (fun f => f)
  simp only [dkCells] at hc1
  clear hf1 hown1 hg1 hcv h1 hw hmk
  have hcv := cellv w1
  go_wp2_with fail
  go_loopw [3, 17] (fun sv i wr => ∃ k : Nat, k ≤ bl.length ∧ i = .int .i64 k ∧ sv = .slice (some ⟨w.heap.size, 0, none⟩) (k * 128) (bl.length * 128) ∧ wr.ownsRow w.heap.size 5 1 sv (k * 128) ((bl.take k).flatten.map bv) ∧ New w wr) (fun _ i _ => bl.length - (intOf i).toNat)
  case atStart => exact ⟨0, Nat.zero_le _, rfl, rfl, Hown1.out, Hf1.out⟩
  case round =>
    obtain ⟨k, hk, rfl, rfl, hown, hf⟩ := hrel
    have Hown := Lib.hid hown
    have Hf := Lib.hid hf
    clear hown hf hcv hc1
    by_cases hkl : k < bl.length
    · have hcr := Hf.out.get H1.out (fun f => f)
      have hb2 := Hf.out.get H2.out (fun f => f)
      have hbk := Hwf.out bl[k] (List.getElem_mem hkl)
      have hnews : ∀ (j : Nat) (u : Value), (bl[k].map bv)[j]? = some u → wr.cell? ((⟨bb, k * 128, none⟩ : Addr).add j) = some u := by
        intro j u hj
        have hj128 : j < 128 := by
          have := (List.getElem?_eq_some_iff.1 hj).1
          rw [List.length_map, hbk] at this; exact this
        rw [Addr.add_lit, cellv, hb2, cellOf_cells, blk_get bl Hwf.out rest k hkl j hj128]
        rw [List.getD_eq_getElem?_getD, List.getElem?_eq_getElem hkl]
        exact hj
      have htk : (bl.take (k + 1)).flatten.map bv = (bl.take k).flatten.map bv ++ bl[k].map bv := by
        rw [List.take_succ_eq_append_getElem hkl]; simp only [List.flatten_append, List.flatten_cons, List.flatten_nil, List.append_nil, List.map_append]
      have hln : (bl[k].map bv).length = 128 * 1 := by rw [List.length_map, hbk]
      have h1c : ∀ u ∈ bl[k].map bv, u.oneCell' = true := by
        intro u hu
        rw [List.mem_map] at hu
        obtain ⟨x, _, rfl⟩ := hu
        rfl
      have Hn := Lib.hid hnews
      have Htk := Lib.hid htk
      have Hln := Lib.hid hln
      have H1c := Lib.hid h1c
      have hkI : (k : Int) < bl.length := by omega
      have hk0 : (0 : Int) ≤ k := by omega
      have hkk := Lib.hid hkl
      generalize bl[k].map bv = news at Hn Htk Hln H1c
      simp only [dkCells] at hcr
      clear hb2 hbk hnews htk hln h1c hkl
      have hcv := cellv wr
      go_wp2_with (first
        | (at_builtin; refine wpList_append_fits _ rfl _ _ 92 rfl w.heap.size 5 i0 1 Tryz.underlying92 hi hz1 w.heap.size (k * 128) (bl.length * 128) ((bl.take k).flatten.map bv) rfl Hown.out ⟨bb, k * 128, none⟩ 128 128 news rfl Hln.out Hn.out H1c.out (by have := hkk.out; omega) ?_; intro w2 hown2 hg2; go_frame)
        | fail)
      go_roundw
      case rel =>
        refine ⟨k + 1, hkk.out, by go_num, by rw [show (k + 1) * 128 = k * 128 + 128 by omega], ?_, ?_⟩
        · rw [Htk.out, show (k + 1) * 128 = k * 128 + 128 by omega]; exact hown2
        · exact Hf.out.trans' (Fr.ofGrown hg2) (fun i hi e => by cases e; omega)
      case measure => have := hkk.out; simp [intOf]; omega
    · obtain rfl : k = bl.length := by omega
      have hnk : ¬ ((bl.length : Int) < bl.length) := by omega
      have hcell : ∀ j, j < bl.length * 128 → wr.cell? ⟨w.heap.size, 0 + j, none⟩ = some (.int .u8 ((bl.flatten.map fun b : UInt8 => (b.toNat : Int)).getD j 0)) := by
        intro j hj
        have h0 := Hown.out.cellAt j (by omega)
        rw [List.take_length] at h0
        rw [Nat.zero_add, h0]
        have hjl : j < bl.flatten.length := by rw [Hfl.out]; exact hj
        rw [List.getElem?_map, List.getElem?_eq_getElem hjl, List.getD_eq_getElem?_getD, List.getElem?_map, List.getElem?_eq_getElem hjl]; rfl
      have hconv := run_convert_bytes_arg (P := Tryz.prog) wr 92 5 Tryz.underlying92 Tryz.underlying5 w.heap.size 0 (bl.length * 128) (bl.length * 128) (bl.flatten.map fun b : UInt8 => (b.toNat : Int)) (by rw [List.length_map, Hfl.out]) hcell 9 Tryz.underlying9
      have hstr : strOfNums (bl.flatten.map fun b : UInt8 => (b.toNat : Int)) = ans := by
        rw [Hd.out]
        simp [strOfNums, Function.comp_def]
      rw [hstr] at hconv
      clear hcell hstr
      go_wp2_with fail
      go_ret
      exact ⟨rfl, Hf.out⟩
end Go.Proofs.YtkafmfdipmhleaaGreatDoor

namespace Go.Proofs.YtkafmfdipmhleaaGreatDoor
open Go.RowKit Go.Maps

theorem kSteps_whole' (id x : Int) (n : Nat) (hid : 1 ≤ id ∧ id ≤ 1000) (hn : 1 ≤ n ∧ n ≤ 6) : wholeB id (kSteps x n) = true := by
  have hal : anyLong (kSteps x n) = false := by
    unfold anyLong
    rw [List.any_eq_false]
    intro y hy
    simp only [kSteps, List.mem_map] at hy
    obtain ⟨i, _, rfl⟩ := hy
    have e1 : (kStep x i).1.size = 3 := rfl
    have e2 : (kStep x i).2.size = 3 := rfl
    simp [longB, e1, e2]
  simp [wholeB, hal, kSteps_len]
  omega
def ref1 (k : Nat) (lo : Nat) : StM := (StM.fresh 120 2 ⟨[], [], [], 0, lo⟩).submit 7 (kSteps 1 k)
theorem ref1_room (k lo : Nat) (hk : 1 ≤ k ∧ k ≤ 6) :
    ((StM.fresh 120 2 ⟨[], [], [], 0, lo⟩).j.en : Int) + (2 + (2 * (kSteps 1 k).length - 1) + leftSum (StM.fresh 120 2 ⟨[], [], [], 0, lo⟩).sagas) ≤ (StM.fresh 120 2 ⟨[], [], [], 0, lo⟩).d.blocks.length := by
  have : (StM.fresh 120 2 ⟨[], [], [], 0, lo⟩).d.blocks.length = 120 := fresh_len 120
  rw [this, kSteps_len]
  simp [StM.fresh, leftSum]
  omega
theorem ref1_inv (k lo : Nat) (hk : 1 ≤ k ∧ k ≤ 6) : (ref1 k lo).inv := by
  have h0 := fresh_inv 120 2 ⟨[], [], [], 0, lo⟩ (by omega) (by omega)
  have hf : (StM.fresh 120 2 ⟨[], [], [], 0, lo⟩).fine 0 := ⟨by simp [StM.fresh], by simp [StM.fresh], by simp [StM.fresh], by simp [StM.fresh], by simp [StM.fresh], fun g hg => by simp [StM.fresh] at hg⟩
  exact (submit_inv (id := 7) (l := kSteps 1 k) h0 hf (kSteps_whole 1 k (by omega) hk) (fun x hx => by simp [StM.fresh] at hx) (ref1_room k lo hk)).1
theorem ref1_sub {w : World} {q : Pl} {lo k : Nat} {v : Value} (hs : StAt w q [] (StM.fresh 120 2 ⟨[], [], [], 0, lo⟩)) (hv : StepsAt w v (kSteps 1 k)) (hk : 1 ≤ k ∧ k ≤ 6) :
    Calls Tryz.prog 18 #[.pointer (some ⟨q.xb, 0, none⟩), .int .i64 7, v] w fun e w' => e = .returned .nilIface ∧ (∃ bl', StAt w' q bl' (ref1 k lo)) ∧ FrK [0, 103, 104, 133, 80] w w' ∧ Low lo w w' :=
  Submit_calls (id := 7) (l := kSteps 1 k) hs (fresh_inv 120 2 ⟨[], [], [], 0, lo⟩ (by omega) (by omega)) hv (kSteps_whole 1 k (by omega) hk) (fun x hx => by simp [StM.fresh] at hx) (ref1_room k lo hk)
theorem kSteps_ne (k : Nat) (hk : 1 ≤ k) : kSteps 2 k ≠ kSteps 1 k := by
  intro h
  have h1 : ∀ id, (kSteps id k)[0]? = some (kStep id 0) := by
    intro id
    have : (List.range k)[0]? = some 0 := by rw [List.getElem?_range hk]
    simp [kSteps, this]
  have h2 := h1 2
  rw [h, h1 1] at h2
  have h3 : kStep 1 0 ≠ kStep 2 0 := by decide
  exact h3 (Option.some.inj h2)
theorem ref1_again {w : World} {q : Pl} {bl : List Nat} {lo k : Nat} {v : Value} (hs : StAt w q bl (ref1 k lo)) (hv : StepsAt w v (kSteps 1 k)) (hk : 1 ≤ k ∧ k ≤ 6) :
    Calls Tryz.prog 18 #[.pointer (some ⟨q.xb, 0, none⟩), .int .i64 7, v] w fun e w' => e = .returned .nilIface ∧ New w w' := by
  refine Calls.mono (Submit_there (i := 0) (g := SagaM.new 7 (kSteps 1 k)) hs (ref1_inv k lo hk) rfl hv (kSteps_whole' 7 1 k (by omega) hk)) ?_
  rintro e w' ⟨h1, h2⟩
  rw [if_pos (show kSteps 1 k = (SagaM.new 7 (kSteps 1 k)).steps from rfl)] at h2
  exact ⟨h2, h1⟩
theorem ref1_other {w : World} {q : Pl} {bl : List Nat} {lo k : Nat} {v : Value} (hs : StAt w q bl (ref1 k lo)) (hv : StepsAt w v (kSteps 2 k)) (hk : 1 ≤ k ∧ k ≤ 6) :
    Calls Tryz.prog 18 #[.pointer (some ⟨q.xb, 0, none⟩), .int .i64 7, v] w fun e w' => New w w' ∧ ∃ x, e = .returned x ∧ FaultAt w w' subStr 2 x := by
  refine Calls.mono (Submit_there (i := 0) (g := SagaM.new 7 (kSteps 1 k)) hs (ref1_inv k lo hk) rfl hv (kSteps_whole' 7 2 k (by omega) hk)) ?_
  rintro e w' ⟨h1, h2⟩
  rw [if_neg (show ¬ kSteps 2 k = (SagaM.new 7 (kSteps 1 k)).steps from kSteps_ne k hk.1)] at h2
  exact ⟨h1, h2⟩
theorem ref1_status {w : World} {q : Pl} {bl : List Nat} {lo k : Nat} (hs : StAt w q bl (ref1 k lo)) (hk : 1 ≤ k ∧ k ≤ 6) :
    Calls Tryz.prog 21 #[.pointer (some ⟨q.xb, 0, none⟩), .int .i64 7] w fun e w' => e = .returned (.tuple #[.agg #[.int .i64 7, .int .i64 1, .int .i64 1, .int .i64 k, .int .i64 0, .int .i64 0], .nilIface]) ∧ New w w' := by
  have := Status_calls (i := 0) (g := SagaM.new 7 (kSteps 1 k)) hs (ref1_inv k lo hk).ord rfl (show (1 : Int) ≤ 7 ∧ (7 : Int) ≤ 1000 by omega)
  have e : (SagaM.new 7 (kSteps 1 k)).status = #[.int .i64 7, .int .i64 1, .int .i64 1, .int .i64 k, .int .i64 0, .int .i64 0] := by simp [SagaM.status, SagaM.new, kSteps_len]
  rw [e] at this
  exact this
end Go.Proofs.YtkafmfdipmhleaaGreatDoor
