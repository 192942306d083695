/- Proved here: of Keeps8, that what the Go functions of this part compute is as their contracts say (texts Pz), for every input; no condition beyond those that each theorem states. -/
import Derived.Test.YtmcmknjoegjalaaKeeps7
import Derived.Test.YtmcmknjoegjalaaRows
import Derived.Deep.DeepHandedRow
set_option linter.all false
section
namespace Go.Proofs.Ytmcmknjoegjalaa.purseKeeps
open Go Go.ChangeShapes Go.WideShapes Go.ChangeAt Go.RowKit Jb
set_option linter.unusedVariables false
set_option linter.unusedSimpArgs false

theorem own : ownKnob Try.prog.godebug = none := by kernel_rfl
theorem laid : laidOutB Try.prog = true := by kernel_rfl
theorem cells26 : Try.prog.cellsOf 26 = 49 := by kernel_rfl
theorem cells45 : Try.prog.cellsOf 45 = 12 := by kernel_rfl

set_option maxRecDepth 100000 in
theorem lifted (os : Os) (started : os.Started) (H : Type) (enc : TypeId × Value → H) :
    ReturnsInHanded {} Try.checked os 5 .any (Rows.purseKeepsSpec.pre6 enc Try.prog Try.f5 Rows.purseKeepsRow.domain false) (Rows.purseKeepsSpec.post enc Try.prog Try.f5 false true false false) := by
  refine returnsInHanded_of_change (C := Try.checked) own started (by kernel_rfl) Try.func5
    (ChangeSpec.witness6 (enc := enc) (C := Try.checked) false ⟨#[], #[.agg (Array.replicate 49 (.int .i64 0)), .slice none 0 0], []⟩ 8 (by kernel_rfl) (by kernel_rfl) (by kernel_rfl) (by kernel_rfl)) ?_
  intro W base args ds gs before hval0 hW hcnd _
  have hval : ∀ (j : Nat) t v, Try.f5.params[j]? = some t → args[j]? = some v → Value.okWide Try.prog W .any base t v := hval0
  have hW' := hW
  obtain ⟨p, q, hA0, hV, rfl, hfz, hnd⟩ := hW
  have hA : DataW.TrodAll enc Try.prog W 0 (fun _ => true) true Try.f5.params.toList args.toList ds p := hA0
  rw [Try.params5] at hA hval
  obtain ⟨v0, vs0, d0, ds0, p0, q0, hargs, rfl, rfl, h0, r0⟩ := trodAll_cons hA
  obtain ⟨v1, vs1, d1, ds1, p1, q1, rfl, rfl, rfl, h1, r1⟩ := trodAll_cons r0
  obtain ⟨rfl, rfl, rfl⟩ := trodAll_nil r1
  obtain rfl : args = #[v0, v1] := by cases args; simp_all
  obtain ⟨rfl, rfl⟩ := trodVars_none hV
  obtain ⟨t, htl, hti, rfl⟩ := rel_flat (P := Try.prog) (t := 26) (by kernel_rfl) 5 (by kernel_rfl) (hval 0 26 v0 rfl rfl) h0
  rw [cells26] at htl
  obtain ⟨L, _, hL, hR⟩ := rel_rows (P := Try.prog) Try.underlying41 5 (by kernel_rfl) (by rw [cells45]; omega) (hval 1 41 v1 rfl rfl) h1
  rw [cells45] at hL hR
  refine (PurseKeeps_call t ⟨htl, hti⟩ L hL .no Jb.h0 S0 W _ (hr0 W) (.cons (rel_agg_ints t) (.cons hR .nil))).mono fun e W' he => ?_
  obtain ⟨r, y, h', S', rfl, ⟨rfl, rfl⟩, H', R', L⟩ := he
  cases R'
  exact ⟨_, rfl, post_law (b := 4) hW' rfl ⟨rfl, rfl, rfl⟩ (by kernel_rfl) Try.underlying4 laid (by rw [Try.params5]; decide +kernel) L (fun _ => rfl)⟩

theorem over : Rows.purseKeepsRow.holds Try.pinned (OpenSpec.ofChange Rows.purseKeepsSpec) :=
  OpenClaim.holds_of_wide 5 Try.f5 rfl rfl rfl rfl rfl rfl rfl ⟨rfl, rfl, rfl, rfl, rfl⟩ rfl rfl rfl rfl rfl (by kernel_rfl) Try.func5 (by kernel_rfl)
    (of_decide_eq_true (by kernel_rfl)) (by unfold Func.isWrapper; first | (rw [if_pos (by decide +kernel)]; kernel_rfl) | (rw [if_neg (by decide +kernel)]; exact ⟨rfl, rfl⟩))
    (fun os started H enc _ => lifted os started H enc)

theorem proved : Rows.PurseKeepsSaid := over
#print axioms proved
end Go.Proofs.Ytmcmknjoegjalaa.purseKeeps
end
