/- Proved here: of SN10, that what the Go functions of this part compute is as their contracts say (texts Sz), for every input; no condition beyond those that each theorem states. -/
import Derived.Test.YtlmmjopgedgmbaaGreatDoorSN9
import Derived.Test.YtlmmjopgedgmbaaGreatDoorSN7
import Derived.Test.YtlmmjopgedgmbaaGreatDoorSN8
import Derived.Test.YtlmmjopgedgmbaaGreatDoorRows
import Derived.Test.YtlmmjopgedgmbaaGreatDoorCards
import Derived.Test.YtlmmjopgedgmbaaGreatDoorTie
import Derived.Deep.DeepHandedRow
import Derived.SevenTiedAt
set_option linter.all false
section
/- SpecNobody. -/
namespace Go.Proofs.YtlmmjopgedgmbaaGreatDoor.specNobody
open Go Go.ChangeShapes Go.WideShapes Go.ChangeAt Go.RowKit Jb Jx
set_option linter.unusedVariables false
set_option linter.unusedSimpArgs false

theorem cells5 : Tryz.prog.cellsOf 5 = 1 := by kernel_rfl

set_option maxRecDepth 100000 in
theorem lifted (os : Os) (started : os.Started) (H : Type) (enc : TypeId × Value → H) :
    ReturnsInHanded {} Tryz.checked os 3 .any (fun w args => (Rows.specNobodySpec.pre enc Tryz.prog Tryz.f3 [] false w args ∧ laidMetH Tryz.prog [("errors.errorType", Rows.laid_errors_errorType)] w) ∧ sizedMet enc Tryz.prog Tryz.f3 (OpenSpec.ofChange Rows.specNobodySpec) false w args)
      (Rows.specNobodySpec.post enc Tryz.prog Tryz.f3 false true false false) := by
  refine returnsInHanded_of_change_and (C := Tryz.checked) (X := fun w _ => laidMetH Tryz.prog [("errors.errorType", Rows.laid_errors_errorType)] w) (fun _ _ _ hh h => h.of_heap hh) own started (by kernel_rfl) Tryz.func3
    (ChangeSpec.witness_at (enc := enc) (C := Tryz.checked) (os := os) (X := fun w _ => laidMetH Tryz.prog [("errors.errorType", Rows.laid_errors_errorType)] w) false (laidWorld os)
      #[.slice none 0 0, .int .i64 0] 8 rfl
      (by kernel_rfl) (by kernel_rfl) (by kernel_rfl) (by kernel_rfl) (by kernel_rfl) (laidWorld_met os _)) ?_
  intro W base args ds gs before hval0 hW _ _ _ _
  have hval : ∀ (j : Nat) t v, Tryz.f3.params[j]? = some t → args[j]? = some v → Value.okWide Tryz.prog W .any base t v := hval0
  have hW' := hW
  obtain ⟨p, q, hA0, hV0, rfl, hfz, hnd⟩ := hW
  have hA : DataW.TrodAll enc Tryz.prog W 0 (fun _ => true) true Tryz.f3.params.toList args.toList ds p := hA0
  have hV : DataW.TrodVars enc Tryz.prog W (fun _ => true) [] gs q := hV0
  rw [Tryz.params3] at hA hval
  obtain ⟨v0, vs0, d0, ds0, p0, q0, hargs, rfl, rfl, h0, r0⟩ := trodAll_cons hA
  obtain ⟨v1, vs1, d1, ds1, p1, q1, rfl, rfl, rfl, h1, r1⟩ := trodAll_cons r0
  obtain ⟨rfl, rfl, rfl⟩ := trodAll_nil r1
  obtain rfl : args = #[v0, v1] := by cases args; simp_all
  obtain ⟨rfl, rfl⟩ := trodVars_none hV
  obtain ⟨n, rfl, rfl, rfl, wn⟩ := open_int Tryz.underlying3 (hval 1 3 v1 rfl rfl) h1
  obtain ⟨f0, h0⟩ := h0
  have hp := plain_cell (P := Tryz.prog) Tryz.underlying22 (by have := hval 0 22 v0 rfl rfl; unfold Value.okWide at this; rwa [Tryz.underlying22] at this)
  obtain ⟨L, hR, _⟩ := rel_opaque (P := Tryz.prog) Tryz.underlying22 (by rw [cells5]; omega) (by kernel_rfl) hp (by rcases hp with rfl | ⟨_, _, _, _, rfl⟩ <;> exact h0)
  rw [cells5] at hR
  simp only [Lit.wf, IntKind.min, IntKind.max, IntKind.signed, IntKind.bits] at wn
  refine (nobody_call L n (by simp at wn; omega) Jb.h0 S0 W _ (hr0 W) (.cons hR (.cons (Rel.int _ n) .nil))).mono fun e W' he => ?_
  obtain ⟨r, y, h', S', rfl, rfl, H', R', L⟩ := he
  cases R'
  exact ⟨_, rfl, post_law (b := 4) hW' rfl ⟨rfl, rfl, rfl⟩ (by kernel_rfl) Tryz.underlying4 laid (by rw [Tryz.params3]; decide +kernel) L (fun _ => rfl)⟩

theorem a1 : Tryz.prog.inPlace 3 = Rows.specNobodyRow.inPlace := by kernel_rfl
theorem a2 : Tryz.prog.unfollowed 3 = Rows.specNobodyRow.unfollowed := by kernel_rfl
theorem a3 : Tryz.prog.recurses 3 = Rows.specNobodyRow.recurses := by kernel_rfl
theorem a4 : Tryz.prog.varsNamed 3 = Rows.specNobodyRow.named := by kernel_rfl
theorem j1 : Tryz.pinned.checked.prog.funcNamed Rows.specNobodyRow.func = some 3 := by kernel_rfl
theorem j2 : joinedFacts Tryz.prog 3 Tryz.f3 Rows.specNobodySpec Rows.specNobodyRow = true := by
  unfold joinedFacts
  rw [laid, rowed, a1, a2, a3, a4]
  kernel_rfl
theorem j3 : Tryz.f3.isInstance Tryz.pinned.checked.prog Rows.specNobodyRow.origin Rows.specNobodyRow.targs := of_decide_eq_true (by kernel_rfl)
theorem j4 : Tryz.f3.isWrapper Tryz.pinned.checked.prog Rows.specNobodyRow.wrapper Rows.specNobodyRow.mainSum := by unfold Func.isWrapper; first | (rw [if_pos (by decide +kernel)]; kernel_rfl) | (rw [if_neg (by decide +kernel)]; exact ⟨rfl, rfl⟩)
theorem over : Rows.SpecNobodySaid :=
  OpenClaim.holds_of_wide 3 Tryz.f3 rfl rfl rfl rfl rfl rfl rfl ⟨rfl, rfl, rfl, rfl, rfl⟩ rfl rfl rfl rfl rfl j1 Tryz.func3 j2 j3 j4
    (fun os started H enc _ => lifted os started H enc)

theorem proved : Rows.SpecNobodyCardSaid :=
  Claim7.holds_tied_plain_at .later [] [.handle] true (true, "631f9859bcb78eec2b6ac8ff17b857a643b56f8a86047b71d0f8664f3e298e9e") true
    over (fun _ h => by cases h) (by kernel_rfl) (fun _ h => by cases h) specNobody_row_tie rfl ⟨rfl, rfl⟩ (by kernel_rfl) rfl
    (fun f fn hf hfn => by
      obtain rfl : f = 3 := Option.some.inj ((show Tryz.prog.funcNamed "jobber/jobberlaw29.SpecNobody" = some 3 by kernel_rfl).symm.trans hf) |>.symm
      obtain rfl : fn = Tryz.f3 := (Option.some.inj (Tryz.func3.symm.trans hfn)).symm
      exact ⟨by kernel_rfl, fun j t ht => by
        rw [Tryz.params3] at ht
        have h3 : t = 22 ∨ t = 3 := by
          rcases j with _ | _ | j
          · left; simpa using ht.symm
          · right; simpa using ht.symm
          · simp at ht
        rcases h3 with rfl | rfl
        · exact (show Tryz.prog.wantsStandIn 22 = false by kernel_rfl)
        · exact (show Tryz.prog.wantsStandIn 3 = false by kernel_rfl)⟩)
    (by kernel_rfl)
#print axioms proved
end Go.Proofs.YtlmmjopgedgmbaaGreatDoor.specNobody
end
