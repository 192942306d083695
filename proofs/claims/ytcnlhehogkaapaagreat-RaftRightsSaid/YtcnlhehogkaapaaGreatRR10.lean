/- Proved here: of RR10, that what the Go functions of this part compute is as their contracts say (texts Uz), for every input; no condition beyond those that each theorem states. -/
import Derived.Test.YtcnlhehogkaapaaGreatRR9
import Derived.Test.YtcnlhehogkaapaaGreatRR7
import Derived.Test.YtcnlhehogkaapaaGreatRows
import Derived.Deep.DeepHandedRow
set_option linter.all false
section
/- RaftRights. -/
namespace Go.Proofs.YtcnlhehogkaapaaGreat.raftRights
open Go Go.ChangeShapes Go.WideShapes Go.ChangeAt Go.RowKit Jb Jt
set_option linter.unusedVariables false
set_option linter.unusedSimpArgs false


theorem cells118 : Tryz.prog.cellsOf 118 = 5 := by kernel_rfl
section
variable {H : Type} {enc : TypeId × Value → H} {w : World} {spare : Nat → Bool} {held : Bool} {fuel : Nat} {x : DataW H × List MemPlace}

set_option maxRecDepth 100000 in
theorem plan_of {r : Reach} {b0 : Nat} {v : Value} (hval : Value.okWide Tryz.prog w r b0 118 v) (h : DataW.trod enc Tryz.prog w 0 spare held fuel 118 v.cells.toList = some x) :
    ∃ a b c d e, Rel S0 w (.agg [.int .i64 a, .int .i64 b, .int .i64 c, .int .i64 d, .int .i64 e]) v := by
  obtain ⟨cs, rfl, hl, hc, hok⟩ := struct_cells (P := Tryz.prog) (t := 118) (by kernel_rfl) hval
  rw [hc] at h
  rw [cells118] at hl
  match cs, hl with
  | [c0, c1, c2, c3, c4], _ =>
    obtain ⟨z0, rfl, _⟩ := trod_at (P := Tryz.prog) 4 (t := 118) (i := 0) (k := .int .i64) (by kernel_rfl) h rfl
    obtain ⟨z1, rfl, _⟩ := trod_at (P := Tryz.prog) 4 (t := 118) (i := 1) (k := .int .i64) (by kernel_rfl) h rfl
    obtain ⟨z2, rfl, _⟩ := trod_at (P := Tryz.prog) 4 (t := 118) (i := 2) (k := .int .i64) (by kernel_rfl) h rfl
    obtain ⟨z3, rfl, _⟩ := trod_at (P := Tryz.prog) 4 (t := 118) (i := 3) (k := .int .i64) (by kernel_rfl) h rfl
    obtain ⟨z4, rfl, _⟩ := trod_at (P := Tryz.prog) 4 (t := 118) (i := 4) (k := .int .i64) (by kernel_rfl) h rfl
    refine ⟨z0, z1, z2, z3, z4, ?_⟩
    have hr : RelL S0 w [.int .i64 z0, .int .i64 z1, .int .i64 z2, .int .i64 z3, .int .i64 z4] [.int .i64 z0, .int .i64 z1, .int .i64 z2, .int .i64 z3, .int .i64 z4] :=
      .cons (.int _ _) (.cons (.int _ _) (.cons (.int _ _) (.cons (.int _ _) (.cons (.int _ _) .nil))))
    exact Rel.agg _ _ hr.1 (by simp [Value.oneCell']) hr.2
end

set_option maxRecDepth 100000 in
theorem lifted (os : Os) (started : os.Started) (H : Type) (enc : TypeId × Value → H) :
    ReturnsInHanded {} Tryz.checked os 12 .any (Rows.raftRightsSpec.pre6 enc Tryz.prog Tryz.f12 Rows.raftRightsRow.domain false) (Rows.raftRightsSpec.post enc Tryz.prog Tryz.f12 false true false false) := by
  refine returnsInHanded_of_change (C := Tryz.checked) own started (by kernel_rfl) Tryz.func12
    (ChangeSpec.witness6 (enc := enc) (C := Tryz.checked) false ⟨#[], #[.agg #[.int .i64 0, .int .i64 0, .int .i64 0, .int .i64 0, .int .i64 0], .int .i64 0], []⟩ 8 (by kernel_rfl) (by kernel_rfl) (by kernel_rfl) (by kernel_rfl)) ?_
  intro W base args ds gs before hval0 hW hcnd _
  have hval : ∀ (j : Nat) t v, Tryz.f12.params[j]? = some t → args[j]? = some v → Value.okWide Tryz.prog W .any base t v := hval0
  have hW' := hW
  obtain ⟨p, q, hA0, hV, rfl, hfz, hnd⟩ := hW
  have hA : DataW.TrodAll enc Tryz.prog W 0 (fun _ => true) true Tryz.f12.params.toList args.toList ds p := hA0
  rw [Tryz.params12] at hA hval
  obtain ⟨v0, vs0, d0, ds0, p0, q0, hargs, rfl, rfl, h0, r0⟩ := trodAll_cons hA
  obtain ⟨v1, vs1, d1, ds1, p1, q1, rfl, rfl, rfl, h1, r1⟩ := trodAll_cons r0
  obtain ⟨rfl, rfl, rfl⟩ := trodAll_nil r1
  obtain rfl : args = #[v0, v1] := by cases args; simp_all
  obtain ⟨rfl, rfl⟩ := trodVars_none hV
  obtain ⟨s, rfl, rfl, rfl, ws⟩ := open_int Tryz.underlying3 (hval 1 3 v1 rfl rfl) h1
  obtain ⟨f0, h0⟩ := h0
  obtain ⟨z0, z1, z2, z3, z4, hR⟩ := plan_of (hval 0 118 v0 rfl rfl) h0
  refine (rights_call z0 z1 z2 z3 z4 s Jb.h0 S0 W _ (hr0 W) (.cons hR (.cons (Rel.int _ s) .nil))).mono fun e W' he => ?_
  obtain ⟨r, y, h', S', rfl, rfl, H', R', L⟩ := he
  cases R'
  exact ⟨_, rfl, post_law (b := 4) hW' rfl ⟨rfl, rfl, rfl⟩ (by kernel_rfl) Tryz.underlying4 laid (by rw [Tryz.params12]; decide +kernel) L (fun _ => rfl)⟩

theorem j1 : Tryz.pinned.checked.prog.funcNamed Rows.raftRightsRow.func = some 12 := by kernel_rfl
theorem a1 : Tryz.prog.inPlace 12 = Rows.raftRightsRow.inPlace := by kernel_rfl
theorem a2 : Tryz.prog.unfollowed 12 = Rows.raftRightsRow.unfollowed := by kernel_rfl
theorem a3 : Tryz.prog.recurses 12 = Rows.raftRightsRow.recurses := by kernel_rfl
theorem a4 : Tryz.prog.varsNamed 12 = Rows.raftRightsRow.named := by kernel_rfl
theorem j2 : joinedFacts Tryz.prog 12 Tryz.f12 Rows.raftRightsSpec Rows.raftRightsRow = true := by
  unfold joinedFacts
  rw [laid, rowed, a1, a2, a3, a4]
  kernel_rfl
theorem j3 : Tryz.f12.isInstance Tryz.pinned.checked.prog Rows.raftRightsRow.origin Rows.raftRightsRow.targs := of_decide_eq_true (by kernel_rfl)
theorem j4 : Tryz.f12.isWrapper Tryz.pinned.checked.prog Rows.raftRightsRow.wrapper Rows.raftRightsRow.mainSum := by unfold Func.isWrapper; first | (rw [if_pos (by decide +kernel)]; kernel_rfl) | (rw [if_neg (by decide +kernel)]; exact ⟨rfl, rfl⟩)
theorem over : Rows.raftRightsRow.holds Tryz.pinned (OpenSpec.ofChange Rows.raftRightsSpec) :=
  OpenClaim.holds_of_wide 12 Tryz.f12 rfl rfl rfl rfl rfl rfl rfl ⟨rfl, rfl, rfl, rfl, rfl⟩ rfl rfl rfl rfl rfl j1 Tryz.func12 j2 j3 j4
    (fun os started H enc _ => lifted os started H enc)

theorem proved : Rows.RaftRightsSaid := over
#print axioms proved
end Go.Proofs.YtcnlhehogkaapaaGreat.raftRights
end
