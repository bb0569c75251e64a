/-
  What is proved: the given statement of Submits: for every input it returns true, and each argument reads as it did. Conditions: those of the row (the listed variable starts as the program's text lays it: tied by the card).
-/
import Derived.Test.YtkafmfdipmhleaaGreatDoorUx13
import Derived.Test.YtkafmfdipmhleaaGreatDoorCards
import Derived.Test.YtkafmfdipmhleaaGreatDoorTie

namespace Go.Proofs.YtkafmfdipmhleaaGreatDoor
open Go.ChangeShapes Go.WideShapes Go.RowKit
theorem cells112 : Tryz.prog.cellsOf 112 = 6 := by kernel_rfl
theorem cells3o : Tryz.prog.cellsOf 3 = 1 := by kernel_rfl
theorem cells9o : Tryz.prog.cellsOf 9 = 1 := by kernel_rfl
theorem list_all {α : Type} {P : Nat → α → Prop} (n : Nat) (h : ∀ i, i < n → ∃ o, P i o) : ∃ L : List α, L.length = n ∧ ∀ (i : Nat) (o : α), L[i]? = some o → P i o := by
  induction n with
  | zero => exact ⟨[], rfl, fun i o ho => by simp at ho⟩
  | succ n ih =>
    obtain ⟨L, h1, h2⟩ := ih (fun i hi => h i (by omega))
    obtain ⟨o, ho⟩ := h n (by omega)
    refine ⟨L ++ [o], by simp [h1], fun i x hx => ?_⟩
    by_cases hi : i < L.length
    · rw [List.getElem?_append_left hi] at hx; exact h2 i x hx
    · have : i = n := by
        have := (List.getElem?_eq_some_iff.1 hx).1
        simp at this; omega
      subst this
      rw [List.getElem?_append_right (by omega), h1] at hx
      simp at hx; subst hx; exact ho
theorem six_of {α : Type} {cs : List α} (h : cs.length = 6) : ∃ v0 v1 v2 v3 v4 v5, cs = [v0, v1, v2, v3, v4, v5] := by
  match cs, h with
  | [v0, v1, v2, v3, v4, v5], _ => exact ⟨v0, v1, v2, v3, v4, v5, rfl⟩
/-- A step that came in. -/
theorem open_op {H : Type} {enc : TypeId × Value → H} {W : World} {base : Nat} {sp : Nat → Bool} {held : Bool} {fuel : Nat} {cs : List Value} {y : DataW H × List MemPlace} (h : DataW.trod enc Tryz.prog W base sp held fuel 112 cs = some y) : ∃ o : OpM, o.ok ∧ cs = o.cells.toList := by
  obtain ⟨xs, n, _, _, hl, hlen, hf⟩ := DataW.trod_struct Tryz.underlying112 h
  rw [cells112] at hl
  have hxl : xs.length = 6 := hlen
  obtain ⟨v0, v1, v2, v3, v4, v5, rfl⟩ := six_of hl
  have hint : ∀ (i : Nat) (f : Field) (v : Value), (#[{ name := "Kind", type := 3, offset := 0, embedded := false, tag := "", pkgPath := "", byteOffset := 0 }, { name := "X", type := 3, offset := 1, embedded := false, tag := "", pkgPath := "", byteOffset := 8 }, { name := "A", type := 3, offset := 2, embedded := false, tag := "", pkgPath := "", byteOffset := 16 }, { name := "B", type := 3, offset := 3, embedded := false, tag := "", pkgPath := "", byteOffset := 24 }, { name := "S", type := 9, offset := 4, embedded := false, tag := "", pkgPath := "", byteOffset := 32 }, { name := "T", type := 9, offset := 5, embedded := false, tag := "", pkgPath := "", byteOffset := 48 }] : Array Field)[i]? = some f → f.type = 3 → ([v0, v1, v2, v3, v4, v5].drop f.offset).take 1 = [v] → ∃ z, v = .int .i64 z ∧ i64 z := by
    intro i f v hfi ht hv
    have h1 := hf i f hfi
    have hi : i < 6 := (Array.getElem?_eq_some_iff.1 hfi).1
    rw [ht, cells3o, hv, List.getElem?_eq_getElem (by omega)] at h1
    obtain ⟨z, hz, _, hw⟩ := DataW.trod_int Tryz.underlying3 h1
    exact ⟨z, by simpa using hz, by simp [Lit.wf] at hw; exact hw⟩
  have hstr : ∀ (i : Nat) (f : Field) (v : Value), (#[{ name := "Kind", type := 3, offset := 0, embedded := false, tag := "", pkgPath := "", byteOffset := 0 }, { name := "X", type := 3, offset := 1, embedded := false, tag := "", pkgPath := "", byteOffset := 8 }, { name := "A", type := 3, offset := 2, embedded := false, tag := "", pkgPath := "", byteOffset := 16 }, { name := "B", type := 3, offset := 3, embedded := false, tag := "", pkgPath := "", byteOffset := 24 }, { name := "S", type := 9, offset := 4, embedded := false, tag := "", pkgPath := "", byteOffset := 32 }, { name := "T", type := 9, offset := 5, embedded := false, tag := "", pkgPath := "", byteOffset := 48 }] : Array Field)[i]? = some f → f.type = 9 → ([v0, v1, v2, v3, v4, v5].drop f.offset).take 1 = [v] → ∃ z, v = .string z := by
    intro i f v hfi ht hv
    have h1 := hf i f hfi
    have hi : i < 6 := (Array.getElem?_eq_some_iff.1 hfi).1
    rw [ht, cells9o, hv, List.getElem?_eq_getElem (by omega)] at h1
    obtain ⟨z, hz, _, _⟩ := DataW.trod_string Tryz.underlying9 h1
    exact ⟨z, by simpa using hz⟩
  obtain ⟨z0, rfl, w0⟩ := hint 0 _ v0 rfl rfl rfl
  obtain ⟨z1, rfl, w1⟩ := hint 1 _ v1 rfl rfl rfl
  obtain ⟨z2, rfl, w2⟩ := hint 2 _ v2 rfl rfl rfl
  obtain ⟨z3, rfl, w3⟩ := hint 3 _ v3 rfl rfl rfl
  obtain ⟨z4, rfl⟩ := hstr 4 _ v4 rfl rfl rfl
  obtain ⟨z5, rfl⟩ := hstr 5 _ v5 rfl rfl rfl
  exact ⟨⟨z0, z1, z2, z3, z4, z5⟩, ⟨w0, w1, w2, w3⟩, rfl⟩
/-- A script that came in. -/
theorem script_open {H : Type} {enc : TypeId × Value → H} {W : World} {base : Nat} {a : Option Addr} {len cap : Nat} {d : DataW H} {p : List MemPlace} {sp : Nat → Bool} {held : Bool} (h : DataW.Trod enc Tryz.prog W base sp held 69 (.slice a len cap) d p) : ∃ L, ScrIn W (.slice a len cap) L ∧ L.length ≤ maxLen ∧ ∀ o ∈ L, o.ok := by
  obtain ⟨fuel, hf⟩ := h
  rcases DataW.trod_slice Tryz.underlying69 hf with ⟨hcs, _⟩ | ⟨ad, len', cap', elems, rest, n, _, hcs, _, hb, hl, hm, hlen, hel, _, _⟩
  · simp [Value.cells] at hcs
    obtain ⟨rfl, rfl, rfl⟩ := hcs
    exact ⟨[], .inl ⟨rfl, none, 0, rfl⟩, Nat.zero_le _, fun o ho => by simp at ho⟩
  · simp [Value.cells] at hcs
    obtain ⟨rfl, rfl, rfl⟩ := hcs
    have hone : ∀ i, i < len → ∃ o : OpM, o.ok ∧ ∀ j u, o.cells[j]? = some u → W.cell? (ad.add (i * 6 + j)) = some u := by
      intro i hi
      have h1 := hel i hi
      rw [cells112, List.getElem?_eq_getElem (by omega), Option.bind_eq_some_iff] at h1
      obtain ⟨cs, hcs, hy⟩ := h1
      obtain ⟨o, hok, rfl⟩ := open_op hy
      obtain ⟨_, _, hc⟩ := World.cells?_some hcs
      refine ⟨o, hok, fun j u hu => ?_⟩
      have hj : j < 6 := (Array.getElem?_eq_some_iff.1 hu).1
      have h2 := hc j hj
      rw [show ad.add (i * 6 + j) = (ad.add (i * 6)).add j from (Addr.add_add _ _ _).symm]
      rw [h2]; simpa using hu
    obtain ⟨L, hL, hLo⟩ := list_all len hone
    refine ⟨L, ?_, by omega, fun o ho => ?_⟩
    · by_cases h0 : len = 0
      · exact .inl ⟨List.length_eq_zero_iff.1 (by omega), some ad, cap, by rw [h0]⟩
      · obtain ⟨b, off, spot⟩ := ad
        obtain ⟨o0, ho0⟩ : ∃ o0, L[0]? = some o0 := ⟨L[0], List.getElem?_eq_getElem (by omega)⟩
        have hspot : spot = none := by simpa [Addr.add] using World.cell?_spot ((hLo 0 o0 ho0).2 0 _ rfl)
        subst hspot
        refine .inr ⟨b, off, cap, by rw [hL], fun i o ho j u hu => ?_⟩
        have := (hLo i o ho).2 j u hu
        rw [add_plain] at this
        rw [Nat.add_assoc]; exact this
    · obtain ⟨i, hi⟩ := List.getElem?_of_mem ho
      exact (hLo i o hi).1
end Go.Proofs.YtkafmfdipmhleaaGreatDoor

namespace Go.Proofs.YtkafmfdipmhleaaGreatDoor
open Go.ChangeShapes Go.WideShapes Go.RowKit
set_option maxRecDepth 100000 in
theorem submits_lifted (os : Os) (started : os.Started) (H : Type) (enc : TypeId × Value → H) :
    ReturnsInHanded {} Tryz.checked os 10 .any (fun w args => (Rows.submitsSpec.pre enc Tryz.prog Tryz.f10 [] false w args ∧ laidMetH Tryz.prog [("errors.errorType", Rows.laid_errors_errorType)] w) ∧ sizedMet enc Tryz.prog Tryz.f10 (OpenSpec.ofChange Rows.submitsSpec) false w args)
      (Rows.submitsSpec.post enc Tryz.prog Tryz.f10 false true false false) := by
  refine returnsInHanded_of_change_and (C := Tryz.checked) (X := fun w _ => laidMetH Tryz.prog [("errors.errorType", Rows.laid_errors_errorType)] w) (fun _ _ _ hh h => h.of_heap hh) Tryz.own started (by kernel_rfl) Tryz.func10
    (ChangeSpec.witness_at (enc := enc) (C := Tryz.checked) (os := os) (X := fun w _ => laidMetH Tryz.prog [("errors.errorType", Rows.laid_errors_errorType)] w) false (laidWorld os) #[.slice none 0 0] 10 rfl (by kernel_rfl) (by kernel_rfl) (by kernel_rfl) (by kernel_rfl) (by kernel_rfl) (laidWorld_met os _)) ?_
  intro W base args ds gs before hval0 hW _ _ hL _
  have hval : ∀ (j : Nat) t v, Tryz.f10.params[j]? = some t → args[j]? = some v → Value.okWide Tryz.prog W .any base t v := hval0
  have hW' := hW
  obtain ⟨p, q, hA0, hV0, rfl, hfz, hnd⟩ := hW
  have hA : DataW.TrodAll enc Tryz.prog W 0 (fun _ => true) true Tryz.f10.params.toList args.toList ds p := hA0
  have hV : DataW.TrodVars enc Tryz.prog W (fun _ => true) [] gs q := hV0
  rw [Tryz.params10] at hA hval
  obtain ⟨v0, d0, rfl, rfl, h0⟩ := trodAll_one hA
  obtain ⟨a, len, cap, rfl⟩ := okWide_slice Tryz.underlying69 (hval 0 69 v0 rfl rfl)
  obtain ⟨L, hscr, hLm, hops⟩ := script_open h0
  obtain ⟨rfl, rfl⟩ : gs = [] ∧ q = [] := by
    cases gs with
    | nil => exact ⟨rfl, hV⟩
    | cons g r => exact absurd hV (by intro h; cases h)
  have e1 : Rows.submitsSpec.fn H ([d0] ++ []) = { results := [.lit (.bool true)], args := [d0] } := rfl
  have hlt : ∀ x ∈ p, x.block < W.heap.size := fun x hx => hW'.lt x (by simp [hx])
  refine (Submits_calls hscr hLm hops (handle_of_laid hL) (by have := World.block_lt_of_cell? W _ (handle_of_laid hL); exact this)).mono fun e W' ⟨he, hlow⟩ => ?_
  subst he
  have hb := hlow.below
  refine ⟨_, rfl, _, _, _, [], p, [], hW', ?_, ?_, ?_, hb.frame _, fun h => by cases h⟩
  · rw [e1]; exact trodAll_mk1 (shut_bool Tryz.underlying4 true)
  · rw [e1]; exact trodAll_mk1 (Below.trod (by kernel_rfl) (by kernel_rfl) (of_decide_eq_true (by kernel_rfl)) h0 hb hlt)
  · rw [e1]; rfl
theorem submits_said : Rows.SubmitsSaid :=
  OpenClaim.holds_of_wide 10 Tryz.f10 rfl rfl rfl rfl rfl rfl rfl ⟨rfl, rfl, rfl, rfl, rfl⟩ rfl rfl rfl rfl rfl (by kernel_rfl) Tryz.func10 (by kernel_rfl)
    (of_decide_eq_true (by kernel_rfl)) (by unfold Func.isWrapper; rw [if_neg (of_decide_eq_false (by kernel_rfl))]; exact ⟨rfl, rfl⟩)
    (fun os started H enc _ => submits_lifted os started H enc)
/-- The given statement, tied to the program's text. -/
theorem submits_holds : Rows.SubmitsCardSaid :=
  Claim7.holds_tied_plain_at .later [] [.handle] true (true, "500ca5754671a5e02e1cafc7ae1f070d50fdff4f9b7bc823d05bb60165e94295") true
    submits_said (fun _ h => by cases h) (by kernel_rfl) (fun _ h => by cases h) submits_row_tie rfl ⟨rfl, rfl⟩ (by kernel_rfl) rfl
    (fun f fn hf hfn => by
      obtain rfl : f = 10 := Option.some.inj ((show Tryz.prog.funcNamed "sagas/sagaslaw.Submits" = some 10 by kernel_rfl).symm.trans hf) |>.symm
      obtain rfl : fn = Tryz.f10 := (Option.some.inj (Tryz.func10.symm.trans hfn)).symm
      exact ⟨by kernel_rfl, fun j t ht => by
        rw [Tryz.params10] at ht
        have hm : t ∈ [69] := by simpa using Array.mem_of_getElem? ht
        have hall : ([69].all fun u => !Tryz.prog.wantsStandIn u) = true := by kernel_rfl
        exact (show Tryz.prog.wantsStandIn t = false by simpa using List.all_eq_true.1 hall t hm)⟩)
    (by kernel_rfl)
#print axioms submits_holds
end Go.Proofs.YtkafmfdipmhleaaGreatDoor
