/-
  What is proved: the contract of the journal's Append, on a disk that tells no errors.
-/
import Derived.Test.YtkafmfdipmhleaaGreatDoorApq
namespace Go.Proofs.YtkafmfdipmhleaaGreatDoor
open Go.RowKit

set_option maxRecDepth 100000 in
set_option maxHeartbeats 4000000 in
theorem Append_calls {w : World} {jb db bb lb n cap : Nat} {j : JnM} {d : DiskM} {rs : List RecM} (hj : JnAt w jb db j) (h : DiskAt w db bb d) (hq : d.quiet) (hp : d.pend = none) (hl : RecsAt w lb rs) (hn : n = rs.length)
    (hep : j.epoch < 2 ^ 32) (hroom : j.en + rs.length ≤ d.blocks.length) (hb : d.blocks.length ≤ 1000) :
    Calls Tryz.prog 65 #[.pointer (some ⟨jb, 0, none⟩), .slice (some ⟨lb, 0, none⟩) n cap] w (AppPost w jb db bb j d rs) := by
  have hmf : ∀ (fn : Fn) (first cap : Array Value) (w : World), (Instr.makeFunc fn first cap).run Tryz.prog w = .ok (.func fn first cap) w := fun _ _ _ _ => rfl
  have hne := jn_ne hj h
  have hlt := disk_lt h
  have hjl := lt_of_hp hj
  have hd1 := h.new ((Fr.refl _ w).alloc (.cells #[.nilIface] 32))
  have hj1 := heap_alloc_keep (.cells #[.nilIface] 32) hj
  have he1 := heap_alloc_new w (.cells #[.nilIface] 32)
  have hl1 := hl.frame (S := fun _ => False) ((Fr.refl _ w).alloc (.cells #[.nilIface] 32)) (fun _ f => f.elim)
  have hF1 : Fr (fun k => k = db ∨ k = bb ∨ k = jb) w (w.alloc (.cells #[.nilIface] 32)) := (Fr.refl _ w).alloc _
  have Hq := Lib.hid hq
  have Hp := Lib.hid hp
  have Hep := Lib.hid hep
  have Hroom := Lib.hid hroom
  have Hb := Lib.hid hb
  have Hn := Lib.hid hn
  go_enter_defers Tryz.func65, Tryz.ntmps65
  go_upto_region 2 with fail
  have HE : Hid (w.heap.size ≠ db ∧ w.heap.size ≠ bb ∧ w.heap.size ≠ jb ∧ ¬ w.heap.size < w.heap.size) := ⟨by omega, by omega, by omega, by omega⟩
  have Hne := Lib.hid hne
  have HF1 := Lib.hid hF1
  have Hd1 := Lib.hid hd1
  have Hl1 := Lib.hid hl1
  have Hj1 := Lib.hid (show JnAt (w.alloc (.cells #[.nilIface] 32)) jb db j from hj1)
  clear h hj hne hlt hjl hd1 hF1 hq hj1 hl1 hp hep hroom hb hn hl
  generalize w.alloc (.cells #[.nilIface] 32) = W1 at Hj1 he1 HF1 Hd1 Hl1 ⊢
  generalize hE : w.heap.size = E at he1 HE ⊢
  have HEe := Lib.hid hE
  clear hE
  go_upto_region 5 with (first
    | (go_at_call 50; refine Calls.mono (Settle_calls Hj1.out Hd1.out Hq.out) ?_; rintro e w2 ⟨rfl, hf2, hd2, hj2⟩)
    | fail)
  have hS2 : ∀ k, (k = db ∨ k = bb ∨ k = jb) → ∃ o, W1.heap[k]? = some o ∧ kindOf o ≠ 55 ∧ kindOf o ≠ 92 := by
    obtain ⟨_, _, _, _, h1, h2, _⟩ := Hd1.out
    rintro k (rfl | rfl | rfl)
    · exact ⟨_, h1, by simp [kindOf], by simp [kindOf]⟩
    · exact ⟨_, h2, by simp [kindOf], by simp [kindOf]⟩
    · exact ⟨_, Hj1.out, by simp [kindOf], by simp [kindOf]⟩
  have hl2 := Hl1.out.frame hf2 hS2
  have he2 := hf2.get he1 (by have := HE.out; omega)
  have HF2 := Lib.hid (HF1.out.trans hf2)
  have HE2 := Lib.hid he2
  have Hl2 := Lib.hid hl2
  have Hd2 := Lib.hid hd2
  have Hj2 := Lib.hid hj2
  have hnl : Hid (rs.length < 2 ^ 40) := by
    have := Hroom.out; have := Hb.out; show _ < _; omega
  clear hf2 hd2 hj2 hS2 hl2 he2 he1
  go_wp2_with fail
  go_loopw [16] (fun i wr => ∃ k, k ≤ rs.length ∧ i = .int .i64 (k : Nat) ∧ DiskAt wr db bb ((settleD j d).append j.epoch j.en (rs.take k)) ∧ Fr (fun k => k = db ∨ k = bb) w2 wr) (fun i _ => rs.length - (intOf i).toNat)
  case atStart => exact ⟨0, Nat.zero_le _, rfl, by simpa [DiskM.append] using Hd2.out, Fr.refl _ _⟩
  case round =>
    obtain ⟨k, hk, rfl, hdk, hfk⟩ := hrel
    have Hdk := Lib.hid hdk
    have Hfk := Lib.hid hfk
    have hjk := hfk.get Hj2.out (by have := Hne.out; omega)
    have hek := hfk.get HE2.out (by have := HE.out; omega)
    have hlk := Hl2.out.frame hfk (by
      obtain ⟨_, _, _, _, h1, h2, _⟩ := Hd2.out
      rintro k (rfl | rfl)
      · exact ⟨_, h1, by simp [kindOf], by simp [kindOf]⟩
      · exact ⟨_, h2, by simp [kindOf], by simp [kindOf]⟩)
    clear hdk hfk
    by_cases hkn : k < rs.length
    · obtain ⟨hok, lc, hlb, hrec⟩ := hlk
      obtain ⟨sv, ⟨sa, sm, sc, rfl⟩, hst, hcells⟩ := hrec k rs[k] (by simp [hkn])
      have hokr := hok rs[k] (List.getElem_mem hkn)
      have htk : rs.take (k + 1) = rs.take k ++ [rs[k]] := List.take_succ_eq_append_getElem hkn
      generalize rs[k] = r at hst hcells hokr htk
      have Hok := Lib.hid hokr
      have Htk := Lib.hid htk
      have hrow : ∀ q v, ([.int .u8 r.kind, .int .u32 r.epoch, .int .i64 r.index, .int .i64 r.saga, .int .i64 r.reply, .slice sa sm sc] : List Value)[q]? = some v → cellOf wr.heap[lb]? (k * 6 + q) = some v := by
        intro q v hq
        have hq6 : q < 6 := by simpa using (List.getElem?_eq_some_iff.1 hq).1
        rw [hlb, cellOf_cells, hcells q hq6]
        simpa [rcells] using hq
      obtain ⟨d9, hu9, hr9⟩ := isRow_of (ty := 91) (by kernel_rfl)
      have Hrow := Lib.hid hrow
      have Hst := Lib.hid hst
      have Hkn := Lib.hid hkn
      clear hrow hcells hlb hrec hok hokr htk hst
      have hkl : (k : Int) < rs.length := by omega
      have hcv := cellv wr
      clear hkn
      go_upto_region 8 with (first
        | (refine wpl_load rfl 91 (.tmp 19) rfl lb (k * 6) rfl _ d9 Hrow.out hu9 hr9 Tryz.info91s ?_)
        | fail)
      have hr8 := heap_alloc_new wr (.cells #[.int .u8 r.kind, .int .u32 r.epoch, .int .i64 r.index, .int .i64 r.saga, .int .i64 r.reply, .slice sa sm sc] 91)
      have hj8 := heap_alloc_keep (.cells #[.int .u8 r.kind, .int .u32 r.epoch, .int .i64 r.index, .int .i64 r.saga, .int .i64 r.reply, .slice sa sm sc] 91) hjk
      have HF8 := Lib.hid ((Fr.refl (fun _ => False) wr).alloc (.cells #[.int .u8 r.kind, .int .u32 r.epoch, .int .i64 r.index, .int .i64 r.saga, .int .i64 r.reply, .slice sa sm sc] 91))
      clear hcv hek
      have HW8 := Lib.hid (rfl : wr.heap.size = wr.heap.size)
      have HRd : wr.heap.size ≠ db ∧ wr.heap.size ≠ bb := by
        have := disk_lt Hdk.out
        omega
      have HRb : ∀ k, k < wr.heap.size → ¬ k = wr.heap.size := fun k h e => by omega
      generalize wr.alloc (.cells #[.int .u8 r.kind, .int .u32 r.epoch, .int .i64 r.index, .int .i64 r.saga, .int .i64 r.reply, .slice sa sm sc] 91) = W8 at hr8 hj8 HF8 ⊢
      generalize hR : wr.heap.size = R at hr8 HRd HRb HW8 ⊢
      have HR := Lib.hid hR
      have HRd := Lib.hid HRd
      have HRb := Lib.hid HRb
      clear hR
      refine app_r8 jb db R ⟨j.epoch, j.en, false⟩ r.kind r.epoch r.index r.saga r.reply k (.slice sa sm sc) W8 hj8 hr8 ?_ ?_
      · have := Hroom.out; have := Hb.out; have := Hkn.out
        exact ⟨by show j.en ≤ 1000; omega, by omega⟩
      intro y21 y22 y23 y24 y25 y26 y27 y28 y29 y30 y31 y32 W9 hf9 hr9'
      have HF9 := Lib.hid (HF8.out.trans' hf9 (by rintro i hi e; rw [e] at hi; exact HRb.out R (by rw [HR.out] at hi; exact hi) rfl))
      have hj9 := hf9.get hj8 (by rintro rfl; rw [hj8] at hr8; simp at hr8)
      clear hr8 hj8 HF8 hf9
      go_upto_region 9 with fail
      have hix : j.en + k < 65536 := by have := Hroom.out; have := Hb.out; have := Hkn.out; omega
      refine app_r9 jb db bb R (j.en + k) ⟨j.epoch, j.en, false⟩ ((settleD j d).append j.epoch j.en (rs.take k)) (placed r j.epoch (j.en + k)) sa sm sc W9 Hne.out HRd.out hj9 hr9'
        (fun h2 => (Hst.out h2).frame HF9.out (fun _ f => f.elim)) (Hok.out j.epoch (j.en + k) Hep.out hix) (Hdk.out.new HF9.out) ((settle_quiet j d Hq.out).append _ _ _) (append_pend _ _ _ _ (settle_pend j d Hp.out)) rfl ?_ ?_
      · rw [append_len, settle_len j d Hp.out]
        have := Hroom.out; have := Hkn.out
        omega
      intro y33 y34 y35 y36 y37 y38 y39 y40 y41 w11 hf11 hd11
      clear hr9' hj9
      go_wp2_with fail
      go_roundw
      case rel =>
        refine ⟨k + 1, Hkn.out, by go_num, ?_, (Hfk.out.trans (HF9.out.mono (fun _ _ f => f.elim))).trans hf11⟩
        have hlk : (rs.take k).length = k := by rw [List.length_take]; have := Hkn.out; omega
        rw [Htk.out, append_snoc, hlk]
        exact hd11
      case measure => have := Hkn.out; simp [intOf]; omega
    · have hkl : Hid (k = rs.length) := by show _ = _; omega
      have Hjk := Lib.hid hjk
      have Hek := Lib.hid hek
      clear hlk hjk hek
      have hnk : ¬ (k : Int) < rs.length := by omega
      go_upto_region 11 with fail
      have hjc := Hjk.out
      have hec := Hek.out
      simp only [jnCells] at hjc
      have hcv := cellv wr
      have hfv := frozv wr
      have hsum : wrap64 ((j.en : Int) + (rs.length : Int)) = (j.en : Int) + (rs.length : Int) := by
        have := Hroom.out; have := Hb.out
        exact wrap_in _ (by omega)
      go_upto_region 12 with fail
      have hj9 : (wr.setCell ⟨jb, 2, none⟩ (.int .i64 ((j.en : Int) + (rs.length : Int)))).heap[jb]? = some (.cells (jnCells db ⟨j.epoch, j.en + rs.length, false⟩) 132 (0, 0)) := by
        rw [hp_setCell, if_pos rfl, hjc]; simp [jnCells]
      have he9 : (wr.setCell ⟨jb, 2, none⟩ (.int .i64 ((j.en : Int) + (rs.length : Int)))).heap[E]? = some (.cells #[.nilIface] 32 (0, 0)) := by
        rw [hp_setCell, if_neg HE.out.2.2.1]; exact hec
      have Hd9 := Lib.hid (Hdk.out.frame (Fr.one jb wr 2 (.int .i64 ((j.en : Int) + (rs.length : Int)))) (by rintro k rfl; exact ⟨Hne.out.1, Hne.out.2, _, hjc, by simp [kindOf]⟩))
      have HF9 := Lib.hid ((HF2.out.trans (Hfk.out.mono (fun k _ e => e.elim .inl (fun e => .inr (.inl e))))).setCell (b := jb) (fun _ => .inr (.inr rfl)) 2 (.int .i64 ((j.en : Int) + (rs.length : Int))))
      have Hj9 := Lib.hid hj9
      clear hcv hfv hjc hec hj9
      generalize wr.setCell ⟨jb, 2, none⟩ (.int .i64 ((j.en : Int) + (rs.length : Int))) = W9 at he9 Hd9 HF9 Hj9 ⊢
      have hcv := cellv W9
      have hfv := frozv W9
      go_wp2_with fail
      refine leaves_cons (f := 94) (args := #[.pointer (some ⟨E, 0, none⟩)]) (by simp) (by simp [go_sem]) ?_
      refine (idle94 _ _).mono ?_
      rintro e u' w'' ⟨rfl, rfl, rfl⟩
      have hsome : (W9.setCell ⟨E, 0, none⟩ Value.nilIface).cell? ⟨E, 0, none⟩ = some .nilIface := by rw [cellv, hp_setCell, if_pos rfl, he9]; rfl
      refine ⟨.nilIface, ?_, rfl, HF9.out.setCell (b := E) (fun h => absurd h (by rw [HEe.out]; omega)) 0 .nilIface, ?_, ?_⟩
      · simp [results, Tryz.results65, go_sem, hsome]
      · have := Hd9.out.frame (Fr.one E W9 0 .nilIface) (by rintro k rfl; exact ⟨HE.out.1, HE.out.2.1, _, he9, by simp [kindOf]⟩)
        rw [hkl.out, List.take_length] at this
        exact this
      · unfold JnAt
        rw [hp_setCell, if_neg (Ne.symm HE.out.2.2.1)]; exact Hj9.out
end Go.Proofs.YtkafmfdipmhleaaGreatDoor
