/- Proved here: of SNobody11, that what the Go functions of this part compute is as their contracts say (texts Nx), for every input; no condition beyond those that each theorem states. -/
import Derived.Test.YtcnlhehogkaapaaGreatSNobody10
import Derived.Test.YtcnlhehogkaapaaGreatSNobody8
import Derived.Test.YtcnlhehogkaapaaGreatRows
import Derived.Deep.DeepHandedRow
set_option linter.all false
section
/- StoreNobody. -/
namespace Go.Proofs.YtcnlhehogkaapaaGreat.storeNobody
open Go Go.ChangeShapes Go.WideShapes Go.ChangeAt Go.RowKit Jb
set_option linter.unusedVariables false
set_option linter.unusedSimpArgs false


set_option maxRecDepth 100000 in
theorem lifted (os : Os) (started : os.Started) (H : Type) (enc : TypeId × Value → H) :
    ReturnsInHanded {} Tryz.checked os 9 .any (Rows.storeNobodySpec.pre6 enc Tryz.prog Tryz.f9 Rows.storeNobodyRow.domain false) (Rows.storeNobodySpec.post enc Tryz.prog Tryz.f9 false true false false) := by
  refine returnsInHanded_of_change (C := Tryz.checked) own started (by kernel_rfl) Tryz.func9
    (ChangeSpec.witness6 (enc := enc) (C := Tryz.checked) false ⟨#[], #[.int .u64 0, .int .i64 0], []⟩ 8 (by kernel_rfl) (by kernel_rfl) (by kernel_rfl) (by kernel_rfl)) ?_
  intro W base args ds gs before hval0 hW hcnd _
  have hval : ∀ (j : Nat) t v, Tryz.f9.params[j]? = some t → args[j]? = some v → Value.okWide Tryz.prog W .any base t v := hval0
  have hW' := hW
  obtain ⟨p, q, hA0, hV, rfl, hfz, hnd⟩ := hW
  have hA : DataW.TrodAll enc Tryz.prog W 0 (fun _ => true) true Tryz.f9.params.toList args.toList ds p := hA0
  rw [Tryz.params9] at hA hval
  obtain ⟨v0, vs0, d0, ds0, p0, q0, hargs, rfl, rfl, h0, r0⟩ := trodAll_cons hA
  obtain ⟨v1, vs1, d1, ds1, p1, q1, rfl, rfl, rfl, h1, r1⟩ := trodAll_cons r0
  obtain ⟨rfl, rfl, rfl⟩ := trodAll_nil r1
  obtain rfl : args = #[v0, v1] := by cases args; simp_all
  obtain ⟨rfl, rfl⟩ := trodVars_none hV
  obtain ⟨x, rfl, rfl, rfl, wx⟩ := open_int Tryz.underlying25 (hval 0 25 v0 rfl rfl) h0
  obtain ⟨s, rfl, rfl, rfl, ws⟩ := open_int Tryz.underlying3 (hval 1 3 v1 rfl rfl) h1
  refine (store_call x s (by
    have hw := ws
    simp only [Lit.wf, Bool.and_eq_true, decide_eq_true_eq] at hw
    have : IntKind.i64.min = -9223372036854775808 := by decide
    omega) Jb.h0 S0 W _ (hr0 W) (.cons (Rel.int _ x) (.cons (Rel.int _ s) .nil))).mono fun e W' he => ?_
  obtain ⟨r, y, h', S', rfl, rfl, H', R', L⟩ := he
  cases R'
  exact ⟨_, rfl, post_law (b := 4) hW' rfl ⟨rfl, rfl, rfl⟩ (by kernel_rfl) Tryz.underlying4 laid (by rw [Tryz.params9]; decide +kernel) L (fun _ => rfl)⟩

theorem j1 : Tryz.pinned.checked.prog.funcNamed Rows.storeNobodyRow.func = some 9 := by kernel_rfl
theorem a1 : Tryz.prog.inPlace 9 = Rows.storeNobodyRow.inPlace := by kernel_rfl
theorem a2 : Tryz.prog.unfollowed 9 = Rows.storeNobodyRow.unfollowed := by kernel_rfl
theorem a3 : Tryz.prog.recurses 9 = Rows.storeNobodyRow.recurses := by kernel_rfl
theorem a4 : Tryz.prog.varsNamed 9 = Rows.storeNobodyRow.named := by kernel_rfl
theorem j2 : joinedFacts Tryz.prog 9 Tryz.f9 Rows.storeNobodySpec Rows.storeNobodyRow = true := by
  unfold joinedFacts
  rw [laid, rowed, a1, a2, a3, a4]
  kernel_rfl
theorem j3 : Tryz.f9.isInstance Tryz.pinned.checked.prog Rows.storeNobodyRow.origin Rows.storeNobodyRow.targs := of_decide_eq_true (by kernel_rfl)
theorem j4 : Tryz.f9.isWrapper Tryz.pinned.checked.prog Rows.storeNobodyRow.wrapper Rows.storeNobodyRow.mainSum := by unfold Func.isWrapper; first | (rw [if_pos (by decide +kernel)]; kernel_rfl) | (rw [if_neg (by decide +kernel)]; exact ⟨rfl, rfl⟩)
theorem over : Rows.storeNobodyRow.holds Tryz.pinned (OpenSpec.ofChange Rows.storeNobodySpec) :=
  OpenClaim.holds_of_wide 9 Tryz.f9 rfl rfl rfl rfl rfl rfl rfl ⟨rfl, rfl, rfl, rfl, rfl⟩ rfl rfl rfl rfl rfl j1 Tryz.func9 j2 j3 j4
    (fun os started H enc _ => lifted os started H enc)

theorem proved : Rows.StoreNobodySaid := over
#print axioms proved
end Go.Proofs.YtcnlhehogkaapaaGreat.storeNobody
end
