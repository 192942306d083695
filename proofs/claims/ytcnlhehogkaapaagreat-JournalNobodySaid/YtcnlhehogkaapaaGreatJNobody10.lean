/- Proved here: of JNobody10, that what the Go functions of this part compute is as their contracts say (texts Nz), for every input; no condition beyond those that each theorem states. -/
import Derived.Test.YtcnlhehogkaapaaGreatJNobody6
import Derived.Test.YtcnlhehogkaapaaGreatJNobody9
import Derived.Test.YtcnlhehogkaapaaGreatJNobody8
import Derived.Test.YtcnlhehogkaapaaGreatRows
import Derived.Deep.DeepHandedRow
set_option linter.all false
section
/- JournalNobody. -/
namespace Go.Proofs.YtcnlhehogkaapaaGreat.journalNobody
open Go Go.ChangeShapes Go.WideShapes Go.ChangeAt Go.RowKit Jb
set_option linter.unusedVariables false
set_option linter.unusedSimpArgs false


set_option maxRecDepth 100000 in
theorem lifted (os : Os) (started : os.Started) (H : Type) (enc : TypeId × Value → H) :
    ReturnsInHanded {} Tryz.checked os 6 .any (Rows.journalNobodySpec.pre6 enc Tryz.prog Tryz.f6 Rows.journalNobodyRow.domain false) (Rows.journalNobodySpec.post enc Tryz.prog Tryz.f6 false true false false) := by
  refine returnsInHanded_of_change (C := Tryz.checked) own started (by kernel_rfl) Tryz.func6
    (ChangeSpec.witness6 (enc := enc) (C := Tryz.checked) false ⟨#[], #[.int .u64 0, .int .u64 0], []⟩ 8 (by kernel_rfl) (by kernel_rfl) (by kernel_rfl) (by kernel_rfl)) ?_
  intro W base args ds gs before hval0 hW hcnd _
  have hval : ∀ (j : Nat) t v, Tryz.f6.params[j]? = some t → args[j]? = some v → Value.okWide Tryz.prog W .any base t v := hval0
  have hW' := hW
  obtain ⟨p, q, hA0, hV, rfl, hfz, hnd⟩ := hW
  have hA : DataW.TrodAll enc Tryz.prog W 0 (fun _ => true) true Tryz.f6.params.toList args.toList ds p := hA0
  rw [Tryz.params6] at hA hval
  obtain ⟨v0, vs0, d0, ds0, p0, q0, hargs, rfl, rfl, h0, r0⟩ := trodAll_cons hA
  obtain ⟨v1, vs1, d1, ds1, p1, q1, rfl, rfl, rfl, h1, r1⟩ := trodAll_cons r0
  obtain ⟨rfl, rfl, rfl⟩ := trodAll_nil r1
  obtain rfl : args = #[v0, v1] := by cases args; simp_all
  obtain ⟨rfl, rfl⟩ := trodVars_none hV
  obtain ⟨x, rfl, rfl, rfl, wx⟩ := open_int Tryz.underlying25 (hval 0 25 v0 rfl rfl) h0
  obtain ⟨s, rfl, rfl, rfl, ws⟩ := open_int Tryz.underlying25 (hval 1 25 v1 rfl rfl) h1
  refine (nobody_call x s Jb.h0 S0 W _ (hr0 W) (.cons (Rel.int _ x) (.cons (Rel.int _ s) .nil))).mono fun e W' he => ?_
  obtain ⟨r, y, h', S', rfl, rfl, H', R', L⟩ := he
  cases R'
  exact ⟨_, rfl, post_law (b := 4) hW' rfl ⟨rfl, rfl, rfl⟩ (by kernel_rfl) Tryz.underlying4 laid (by rw [Tryz.params6]; decide +kernel) L (fun _ => rfl)⟩

theorem j1 : Tryz.pinned.checked.prog.funcNamed Rows.journalNobodyRow.func = some 6 := by kernel_rfl
theorem a1 : Tryz.prog.inPlace 6 = Rows.journalNobodyRow.inPlace := by kernel_rfl
theorem a2 : Tryz.prog.unfollowed 6 = Rows.journalNobodyRow.unfollowed := by kernel_rfl
theorem a3 : Tryz.prog.recurses 6 = Rows.journalNobodyRow.recurses := by kernel_rfl
theorem a4 : Tryz.prog.varsNamed 6 = Rows.journalNobodyRow.named := by kernel_rfl
theorem j2 : joinedFacts Tryz.prog 6 Tryz.f6 Rows.journalNobodySpec Rows.journalNobodyRow = true := by
  unfold joinedFacts
  rw [laid, rowed, a1, a2, a3, a4]
  kernel_rfl
theorem j3 : Tryz.f6.isInstance Tryz.pinned.checked.prog Rows.journalNobodyRow.origin Rows.journalNobodyRow.targs := of_decide_eq_true (by kernel_rfl)
theorem j4 : Tryz.f6.isWrapper Tryz.pinned.checked.prog Rows.journalNobodyRow.wrapper Rows.journalNobodyRow.mainSum := by unfold Func.isWrapper; first | (rw [if_pos (by decide +kernel)]; kernel_rfl) | (rw [if_neg (by decide +kernel)]; exact ⟨rfl, rfl⟩)
theorem over : Rows.journalNobodyRow.holds Tryz.pinned (OpenSpec.ofChange Rows.journalNobodySpec) :=
  OpenClaim.holds_of_wide 6 Tryz.f6 rfl rfl rfl rfl rfl rfl rfl ⟨rfl, rfl, rfl, rfl, rfl⟩ rfl rfl rfl rfl rfl j1 Tryz.func6 j2 j3 j4
    (fun os started H enc _ => lifted os started H enc)

theorem proved : Rows.JournalNobodySaid := over
#print axioms proved
end Go.Proofs.YtcnlhehogkaapaaGreat.journalNobody
end
