/- Proved here: of Tells7, that what the Go functions of this part compute is as their contracts say (texts Cz), for every input; no condition beyond those that each theorem states. -/
import Derived.Test.YtmcmknjoegjalaaTells6
import Derived.Test.YtmcmknjoegjalaaRows
import Derived.Deep.DeepHandedRow
set_option linter.all false
section
namespace Go.Proofs.Ytmcmknjoegjalaa.purseTells
open Go Go.ChangeShapes Go.WideShapes Go.ChangeAt Go.RowKit Jb
set_option linter.unusedVariables false
set_option linter.unusedSimpArgs false

theorem own : ownKnob Try.prog.godebug = none := by kernel_rfl
theorem laid : laidOutB Try.prog = true := by kernel_rfl
theorem cells26 : Try.prog.cellsOf 26 = 49 := by kernel_rfl

theorem rel_three {S : Sim} {w : World} {a b c : V} {x y z : Value} (h1 : Rel S w a x) (h2 : Rel S w b y) (h3 : Rel S w c z) : RelL S w [a, b, c] [x, y, z] := .cons h1 (.cons h2 (.cons h3 .nil))

set_option maxRecDepth 100000 in
theorem lifted (os : Os) (started : os.Started) (H : Type) (enc : TypeId × Value → H) :
    ReturnsInHanded {} Try.checked os 3 .any (Rows.purseTellsSpec.pre6 enc Try.prog Try.f3 Rows.purseTellsRow.domain false) (Rows.purseTellsSpec.post enc Try.prog Try.f3 false true false false) := by
  refine returnsInHanded_of_change (C := Try.checked) own started (by kernel_rfl) Try.func3
    (ChangeSpec.witness6 (enc := enc) (C := Try.checked) false ⟨#[], #[.agg (Array.replicate 49 (.int .i64 0)), .int .i64 0, .int .i64 0], []⟩ 8 (by kernel_rfl) (by kernel_rfl) (by kernel_rfl) (by kernel_rfl)) ?_
  intro W base args ds gs before hval0 hW hcnd _
  have hval : ∀ (j : Nat) t v, Try.f3.params[j]? = some t → args[j]? = some v → Value.okWide Try.prog W .any base t v := hval0
  have hW' := hW
  obtain ⟨p, q, hA0, hV, rfl, hfz, hnd⟩ := hW
  have hA : DataW.TrodAll enc Try.prog W 0 (fun _ => true) true Try.f3.params.toList args.toList ds p := hA0
  rw [Try.params3] at hA hval
  obtain ⟨v0, vs0, d0, ds0, p0, q0, hargs, rfl, rfl, h0, r0⟩ := trodAll_cons hA
  obtain ⟨v1, vs1, d1, ds1, p1, q1, rfl, rfl, rfl, h1, r1⟩ := trodAll_cons r0
  obtain ⟨v2, vs2, d2, ds2, p2, q2, rfl, rfl, rfl, h2, r2⟩ := trodAll_cons r1
  obtain ⟨rfl, rfl, rfl⟩ := trodAll_nil r2
  obtain rfl : args = #[v0, v1, v2] := by cases args; simp_all
  obtain ⟨rfl, rfl⟩ := trodVars_none hV
  obtain ⟨t, htl, hti, rfl⟩ := rel_flat (P := Try.prog) (t := 26) (by kernel_rfl) 5 (by kernel_rfl) (hval 0 26 v0 rfl rfl) h0
  rw [cells26] at htl
  obtain ⟨x, rfl, rfl, rfl, wx⟩ := open_int Try.underlying3 (hval 1 3 v1 rfl rfl) h1
  obtain ⟨s, rfl, rfl, rfl, ws⟩ := open_int Try.underlying3 (hval 2 3 v2 rfl rfl) h2
  refine (PurseTells_call t ⟨htl, hti⟩ x s Jb.h0 S0 W _ (hr0 W) (rel_three (rel_agg_ints t) (Rel.int _ x) (Rel.int _ s))).mono fun e W' he => ?_
  obtain ⟨r, y, h', S', rfl, ⟨rfl, rfl⟩, H', R', L⟩ := he
  cases R'
  exact ⟨_, rfl, post_law (b := 4) hW' rfl ⟨rfl, rfl, rfl⟩ (by kernel_rfl) Try.underlying4 laid (by rw [Try.params3]; decide +kernel) L (fun _ => rfl)⟩

theorem over : Rows.purseTellsRow.holds Try.pinned (OpenSpec.ofChange Rows.purseTellsSpec) :=
  OpenClaim.holds_of_wide 3 Try.f3 rfl rfl rfl rfl rfl rfl rfl ⟨rfl, rfl, rfl, rfl, rfl⟩ rfl rfl rfl rfl rfl (by kernel_rfl) Try.func3 (by kernel_rfl)
    (of_decide_eq_true (by kernel_rfl)) (by unfold Func.isWrapper; first | (rw [if_pos (by decide +kernel)]; kernel_rfl) | (rw [if_neg (by decide +kernel)]; exact ⟨rfl, rfl⟩))
    (fun os started H enc _ => lifted os started H enc)

theorem proved : Rows.PurseTellsSaid := over
#print axioms proved
end Go.Proofs.Ytmcmknjoegjalaa.purseTells
end
