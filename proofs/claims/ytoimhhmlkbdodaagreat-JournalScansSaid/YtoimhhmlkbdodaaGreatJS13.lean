/- Proved here: of JS13, that what the Go functions of this part compute is as their contracts say (texts Jz), for every input; no condition beyond those that each theorem states. -/
import Derived.Test.YtoimhhmlkbdodaaGreatJS10
import Derived.Test.YtoimhhmlkbdodaaGreatJS12
import Derived.Test.YtoimhhmlkbdodaaGreatRows
import Derived.Deep.DeepHandedRow
set_option linter.all false
section
/- JournalScans. -/
namespace Go.Proofs.YtoimhhmlkbdodaaGreat.journalScans
open Go Go.ChangeShapes Go.WideShapes Go.ChangeAt Go.RowKit Jb
set_option linter.unusedVariables false
set_option linter.unusedSimpArgs false
set_option maxRecDepth 100000
theorem own : ownKnob Tryz.prog.godebug = none := by kernel_rfl
theorem laid : laidOutB Tryz.prog = true := by kernel_rfl
theorem rowed : mapsRowed Tryz.prog = true := by kernel_rfl
theorem cells22 : Tryz.prog.cellsOf 26 = 1 := by kernel_rfl
theorem cells5 : Tryz.prog.cellsOf 5 = 1 := by kernel_rfl

theorem lifted (os : Os) (started : os.Started) (H : Type) (enc : TypeId × Value → H) :
    ReturnsInHanded {} Tryz.checked os 3 .any (Rows.journalScansSpec.pre6 enc Tryz.prog Tryz.f3 Rows.journalScansRow.domain false) (Rows.journalScansSpec.post enc Tryz.prog Tryz.f3 false true false false) := by
  refine returnsInHanded_of_change (C := Tryz.checked) own started (by kernel_rfl) Tryz.func3
    (ChangeSpec.witness6 (enc := enc) (C := Tryz.checked) false ⟨#[], #[.slice none 0 0], []⟩ 8 (by kernel_rfl) (by kernel_rfl) (by kernel_rfl) (by kernel_rfl)) ?_
  intro W base args ds gs before hval0 hW hcnd _
  have hval : ∀ (j : Nat) t v, Tryz.f3.params[j]? = some t → args[j]? = some v → Value.okWide Tryz.prog W .any base t v := hval0
  have hW' := hW
  obtain ⟨p, q, hA0, hV, rfl, hfz, hnd⟩ := hW
  have hA : DataW.TrodAll enc Tryz.prog W 0 (fun _ => true) true Tryz.f3.params.toList args.toList ds p := hA0
  rw [Tryz.params3] at hA hval
  obtain ⟨v0, vs0, d0, ds0, p0, q0, hargs, rfl, rfl, h0, r0⟩ := trodAll_cons hA
  obtain ⟨rfl, rfl, rfl⟩ := trodAll_nil r0
  obtain rfl : args = #[v0] := by cases args; simp_all
  obtain ⟨rfl, rfl⟩ := trodVars_none hV
  obtain ⟨f0, h0⟩ := h0
  have hp := plain_cell (P := Tryz.prog) Tryz.underlying22 (by have := hval 0 22 v0 rfl rfl; unfold Value.okWide at this; rwa [Tryz.underlying22] at this)
  obtain ⟨fs, hl, hR⟩ := J.rel_files (P := Tryz.prog) Tryz.underlying22 Tryz.underlying26 Tryz.underlying5 cells22 cells5 hp
    (by rcases hp with rfl | ⟨_, _, _, _, rfl⟩ <;> exact h0)
  refine (J.jscans_c (fs := fs) (g := .no) (h := Jb.h0) (by unfold maxLen at hl; omega) S0 W _ (hr0 W) (.cons hR .nil)).mono fun e W' he => ?_
  obtain ⟨r, y, h', S', rfl, rfl, H', R', L⟩ := he
  cases R'
  exact ⟨_, rfl, post_law (b := 4) hW' rfl ⟨rfl, rfl, rfl⟩ (by kernel_rfl) Tryz.underlying4 laid (by rw [Tryz.params3]; decide +kernel) L (fun _ => rfl)⟩

theorem j1 : Tryz.pinned.checked.prog.funcNamed Rows.journalScansRow.func = some 3 := by kernel_rfl
theorem a1 : Tryz.prog.inPlace 3 = Rows.journalScansRow.inPlace := by kernel_rfl
theorem a2 : Tryz.prog.unfollowed 3 = Rows.journalScansRow.unfollowed := by kernel_rfl
theorem a3 : Tryz.prog.recurses 3 = Rows.journalScansRow.recurses := by kernel_rfl
theorem a4 : Tryz.prog.varsNamed 3 = Rows.journalScansRow.named := by kernel_rfl
theorem j2 : joinedFacts Tryz.prog 3 Tryz.f3 Rows.journalScansSpec Rows.journalScansRow = true := by
  unfold joinedFacts
  rw [laid, rowed, a1, a2, a3, a4]
  kernel_rfl
theorem j3 : Tryz.f3.isInstance Tryz.pinned.checked.prog Rows.journalScansRow.origin Rows.journalScansRow.targs := of_decide_eq_true (by kernel_rfl)
theorem j4 : Tryz.f3.isWrapper Tryz.pinned.checked.prog Rows.journalScansRow.wrapper Rows.journalScansRow.mainSum := by unfold Func.isWrapper; first | (rw [if_pos (by decide +kernel)]; kernel_rfl) | (rw [if_neg (by decide +kernel)]; exact ⟨rfl, rfl⟩)
theorem over : Rows.journalScansRow.holds Tryz.pinned (OpenSpec.ofChange Rows.journalScansSpec) :=
  OpenClaim.holds_of_wide 3 Tryz.f3 rfl rfl rfl rfl rfl rfl rfl ⟨rfl, rfl, rfl, rfl, rfl⟩ rfl rfl rfl rfl rfl j1 Tryz.func3 j2 j3 j4
    (fun os started H enc _ => lifted os started H enc)

theorem proved : Rows.JournalScansSaid := over
#print axioms proved
end Go.Proofs.YtoimhhmlkbdodaaGreat.journalScans
end
