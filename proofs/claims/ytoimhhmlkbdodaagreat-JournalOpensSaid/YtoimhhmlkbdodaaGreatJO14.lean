/- Proved here: of JO14, that what the Go functions of this part compute is as their contracts say (texts Ko), for every input; no condition beyond those that each theorem states. -/
import Derived.Test.YtoimhhmlkbdodaaGreatJO11
import Derived.Test.YtoimhhmlkbdodaaGreatJO13
import Derived.Test.YtoimhhmlkbdodaaGreatRows
import Derived.Deep.DeepHandedRow
set_option linter.all false
section
/- JournalOpens. -/
namespace Go.Proofs.YtoimhhmlkbdodaaGreat.journalOpens
open Go Go.ChangeShapes Go.WideShapes Go.ChangeAt Go.RowKit Jb
set_option linter.unusedVariables false
set_option linter.unusedSimpArgs false
set_option maxRecDepth 100000
theorem own : ownKnob Tryz.prog.godebug = none := by kernel_rfl
theorem laid : laidOutB Tryz.prog = true := by kernel_rfl
theorem rowed : mapsRowed Tryz.prog = true := by kernel_rfl
theorem cells22 : Tryz.prog.cellsOf 26 = 1 := by kernel_rfl
theorem cells5 : Tryz.prog.cellsOf 5 = 1 := by kernel_rfl

theorem lifted (os : Os) (started : os.Started) (H : Type) (enc : TypeId × Value → H) :
    ReturnsInHanded {} Tryz.checked os 4 .any (Rows.journalOpensSpec.pre6 enc Tryz.prog Tryz.f4 Rows.journalOpensRow.domain false) (Rows.journalOpensSpec.post enc Tryz.prog Tryz.f4 false true false false) := by
  refine returnsInHanded_of_change (C := Tryz.checked) own started (by kernel_rfl) Tryz.func4
    (ChangeSpec.witness6 (enc := enc) (C := Tryz.checked) false ⟨#[], #[.slice none 0 0, .int .i64 0, .int .i64 0], []⟩ 8 (by kernel_rfl) (by kernel_rfl) (by kernel_rfl) (by kernel_rfl)) ?_
  intro W base args ds gs before hval0 hW hcnd _
  have hval : ∀ (j : Nat) t v, Tryz.f4.params[j]? = some t → args[j]? = some v → Value.okWide Tryz.prog W .any base t v := hval0
  have hW' := hW
  obtain ⟨p, q, hA0, hV, rfl, hfz, hnd⟩ := hW
  have hA : DataW.TrodAll enc Tryz.prog W 0 (fun _ => true) true Tryz.f4.params.toList args.toList ds p := hA0
  rw [Tryz.params4] at hA hval
  obtain ⟨v0, vs0, d0, ds0, p0, q0, hargs, rfl, rfl, h0, r0⟩ := trodAll_cons hA
  obtain ⟨v1, vs1, d1, ds1, p1, q1, rfl, rfl, rfl, h1, r1⟩ := trodAll_cons r0
  obtain ⟨v2, vs2, d2, ds2, p2, q2, rfl, rfl, rfl, h2, r2⟩ := trodAll_cons r1
  obtain ⟨rfl, rfl, rfl⟩ := trodAll_nil r2
  obtain rfl : args = #[v0, v1, v2] := by cases args; simp_all
  obtain ⟨rfl, rfl⟩ := trodVars_none hV
  obtain ⟨x, rfl, rfl, rfl, wx⟩ := open_int Tryz.underlying3 (hval 1 3 v1 rfl rfl) h1
  obtain ⟨s, rfl, rfl, rfl, ws⟩ := open_int Tryz.underlying3 (hval 2 3 v2 rfl rfl) h2
  obtain ⟨f0, h0⟩ := h0
  have hp := plain_cell (P := Tryz.prog) Tryz.underlying22 (by have := hval 0 22 v0 rfl rfl; unfold Value.okWide at this; rwa [Tryz.underlying22] at this)
  obtain ⟨fs, hl, hR⟩ := J.rel_files (P := Tryz.prog) Tryz.underlying22 Tryz.underlying26 Tryz.underlying5 cells22 cells5 hp
    (by rcases hp with rfl | ⟨_, _, _, _, rfl⟩ <;> exact h0)
  refine (J.jopens_c (fs := fs) (g := .no) (h := Jb.h0) (first := x) (each := s) (by unfold maxLen at hl; omega) S0 W _ (hr0 W) (.cons hR (.cons (Rel.int _ x) (.cons (Rel.int _ s) .nil)))).mono fun e W' he => ?_
  obtain ⟨r, y, h', S', rfl, rfl, H', R', L⟩ := he
  cases R'
  exact ⟨_, rfl, post_law (b := 4) hW' rfl ⟨rfl, rfl, rfl⟩ (by kernel_rfl) Tryz.underlying4 laid (by rw [Tryz.params4]; decide +kernel) L (fun _ => rfl)⟩

theorem j1 : Tryz.pinned.checked.prog.funcNamed Rows.journalOpensRow.func = some 4 := by kernel_rfl
theorem a1 : Tryz.prog.inPlace 4 = Rows.journalOpensRow.inPlace := by kernel_rfl
theorem a2 : Tryz.prog.unfollowed 4 = Rows.journalOpensRow.unfollowed := by kernel_rfl
theorem a3 : Tryz.prog.recurses 4 = Rows.journalOpensRow.recurses := by kernel_rfl
theorem a4 : Tryz.prog.varsNamed 4 = Rows.journalOpensRow.named := by kernel_rfl
theorem j2 : joinedFacts Tryz.prog 4 Tryz.f4 Rows.journalOpensSpec Rows.journalOpensRow = true := by
  unfold joinedFacts
  rw [laid, rowed, a1, a2, a3, a4]
  kernel_rfl
theorem j3 : Tryz.f4.isInstance Tryz.pinned.checked.prog Rows.journalOpensRow.origin Rows.journalOpensRow.targs := of_decide_eq_true (by kernel_rfl)
theorem j4 : Tryz.f4.isWrapper Tryz.pinned.checked.prog Rows.journalOpensRow.wrapper Rows.journalOpensRow.mainSum := by unfold Func.isWrapper; first | (rw [if_pos (by decide +kernel)]; kernel_rfl) | (rw [if_neg (by decide +kernel)]; exact ⟨rfl, rfl⟩)
theorem over : Rows.journalOpensRow.holds Tryz.pinned (OpenSpec.ofChange Rows.journalOpensSpec) :=
  OpenClaim.holds_of_wide 4 Tryz.f4 rfl rfl rfl rfl rfl rfl rfl ⟨rfl, rfl, rfl, rfl, rfl⟩ rfl rfl rfl rfl rfl j1 Tryz.func4 j2 j3 j4
    (fun os started H enc _ => lifted os started H enc)

theorem proved : Rows.JournalOpensSaid := over
#print axioms proved
end Go.Proofs.YtoimhhmlkbdodaaGreat.journalOpens
end
