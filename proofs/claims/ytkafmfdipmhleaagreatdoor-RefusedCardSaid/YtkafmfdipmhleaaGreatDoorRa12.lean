/-
  What is proved: the given statement of Refused: for every input it returns true, and each argument reads as it did. Conditions: those of the row (the listed variable starts as the program's text lays it: tied by the card).
-/
import Derived.Test.YtkafmfdipmhleaaGreatDoorRa11
import Derived.Test.YtkafmfdipmhleaaGreatDoorCards
import Derived.Test.YtkafmfdipmhleaaGreatDoorTie

namespace Go.Proofs.YtkafmfdipmhleaaGreatDoor
open Go.ChangeShapes Go.WideShapes Go.RowKit

set_option maxRecDepth 100000 in
theorem refused_lifted (os : Os) (started : os.Started) (H : Type) (enc : TypeId × Value → H) :
    ReturnsInHanded {} Tryz.checked os 4 .any (fun w args => (Rows.refusedSpec.pre enc Tryz.prog Tryz.f4 [] false w args ∧ laidMetH Tryz.prog [("errors.errorType", Rows.laid_errors_errorType)] w) ∧ sizedMet enc Tryz.prog Tryz.f4 (OpenSpec.ofChange Rows.refusedSpec) false w args)
      (Rows.refusedSpec.post enc Tryz.prog Tryz.f4 false true false false) := by
  refine returnsInHanded_of_change_and (C := Tryz.checked) (X := fun w _ => laidMetH Tryz.prog [("errors.errorType", Rows.laid_errors_errorType)] w) (fun _ _ _ hh h => h.of_heap hh) Tryz.own started (by kernel_rfl) Tryz.func4
    (ChangeSpec.witness_at (enc := enc) (C := Tryz.checked) (os := os) (X := fun w _ => laidMetH Tryz.prog [("errors.errorType", Rows.laid_errors_errorType)] w) false (laidWorld os) #[.int .i64 0, .int .i64 0, .int .i64 0, .int .i64 0] 8 rfl (by kernel_rfl) (by kernel_rfl) (by kernel_rfl) (by kernel_rfl) (by kernel_rfl) (laidWorld_met os _)) ?_
  intro W base args ds gs before hval0 hW _ _ hL _
  have hval : ∀ (j : Nat) t v, Tryz.f4.params[j]? = some t → args[j]? = some v → Value.okWide Tryz.prog W .any base t v := hval0
  have hW' := hW
  obtain ⟨p, q, hA0, hV0, rfl, hfz, hnd⟩ := hW
  have hA : DataW.TrodAll enc Tryz.prog W 0 (fun _ => true) true Tryz.f4.params.toList args.toList ds p := hA0
  have hV : DataW.TrodVars enc Tryz.prog W (fun _ => true) [] gs q := hV0
  rw [Tryz.params4] at hA hval
  obtain ⟨v0, v1, v2, v3, d0, d1, d2, d3, p0, p1, p2, p3, rfl, rfl, rfl, h0, h1, h2, h3⟩ := trodAll_four hA
  obtain ⟨c, rfl, rfl, rfl, hwc⟩ := open_int Tryz.underlying3 (hval 0 3 v0 rfl rfl) h0
  obtain ⟨id, rfl, rfl, rfl, hwi⟩ := open_int Tryz.underlying3 (hval 1 3 v1 rfl rfl) h1
  obtain ⟨n, rfl, rfl, rfl, hwn⟩ := open_int Tryz.underlying3 (hval 2 3 v2 rfl rfl) h2
  obtain ⟨long, rfl, rfl, rfl, hwl⟩ := open_int Tryz.underlying3 (hval 3 3 v3 rfl rfl) h3
  obtain ⟨rfl, rfl⟩ : gs = [] ∧ q = [] := by
    cases gs with
    | nil => exact ⟨rfl, hV⟩
    | cons g r => exact absurd hV (by intro h; cases h)
  have hc : i64 c := by simp [Lit.wf] at hwc; exact hwc
  have hi : i64 id := by simp [Lit.wf] at hwi; exact hwi
  have hn : i64 n := by simp [Lit.wf] at hwn; exact hwn
  have hl : i64 long := by simp [Lit.wf] at hwl; exact hwl
  have e1 : Rows.refusedSpec.fn H ([.lit (.int .i64 c), .lit (.int .i64 id), .lit (.int .i64 n), .lit (.int .i64 long)] ++ []) = { results := [.lit (.bool true)], args := [.lit (.int .i64 c), .lit (.int .i64 id), .lit (.int .i64 n), .lit (.int .i64 long)] } := rfl
  refine (Refused_calls (handle_of_laid hL) hc hi hn hl).mono fun e W' ⟨he, hlow⟩ => ?_
  subst he
  have hb := hlow.below
  refine ⟨_, rfl, _, _, _, [], [], [], hW', ?_, ?_, ?_, hb.frame _, fun h => by cases h⟩
  · rw [e1]; exact trodAll_mk1 (shut_bool Tryz.underlying4 true)
  · rw [e1]; exact trodAll_mk4 (shut_int Tryz.underlying3 hwc) (shut_int Tryz.underlying3 hwi) (shut_int Tryz.underlying3 hwn) (shut_int Tryz.underlying3 hwl)
  · rw [e1]; rfl

theorem refused_said : Rows.RefusedSaid :=
  OpenClaim.holds_of_wide 4 Tryz.f4 rfl rfl rfl rfl rfl rfl rfl ⟨rfl, rfl, rfl, rfl, rfl⟩ rfl rfl rfl rfl rfl (by kernel_rfl) Tryz.func4 (by kernel_rfl)
    (of_decide_eq_true (by kernel_rfl)) (by unfold Func.isWrapper; rw [if_neg (of_decide_eq_false (by kernel_rfl))]; exact ⟨rfl, rfl⟩)
    (fun os started H enc _ => refused_lifted os started H enc)
/-- The given statement, tied to the program's text. -/
theorem refused_holds : Rows.RefusedCardSaid :=
  Claim7.holds_tied_plain_at .later [] [.handle] true (true, "500ca5754671a5e02e1cafc7ae1f070d50fdff4f9b7bc823d05bb60165e94295") true
    refused_said (fun _ h => by cases h) (by kernel_rfl) (fun _ h => by cases h) refused_row_tie rfl ⟨rfl, rfl⟩ (by kernel_rfl) rfl
    (fun f fn hf hfn => by
      obtain rfl : f = 4 := Option.some.inj ((show Tryz.prog.funcNamed "sagas/sagaskeep.Refused" = some 4 by kernel_rfl).symm.trans hf) |>.symm
      obtain rfl : fn = Tryz.f4 := (Option.some.inj (Tryz.func4.symm.trans hfn)).symm
      exact ⟨by kernel_rfl, fun j t ht => by
        rw [Tryz.params4] at ht
        have hm : t ∈ [3, 3, 3, 3] := by simpa using Array.mem_of_getElem? ht
        have hall : ([3, 3, 3, 3].all fun u => !Tryz.prog.wantsStandIn u) = true := by kernel_rfl
        exact (show Tryz.prog.wantsStandIn t = false by simpa using List.all_eq_true.1 hall t hm)⟩)
    (by kernel_rfl)
#print axioms refused_holds
end Go.Proofs.YtkafmfdipmhleaaGreatDoor
