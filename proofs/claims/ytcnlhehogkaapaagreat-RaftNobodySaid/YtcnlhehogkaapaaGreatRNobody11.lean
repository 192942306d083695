/- Proved here: of RNobody11, that what the Go functions of this part compute is as their contracts say (texts Ny), for every input; no condition beyond those that each theorem states. -/
import Derived.Test.YtcnlhehogkaapaaGreatRNobody10
import Derived.Test.YtcnlhehogkaapaaGreatRows
import Derived.Deep.DeepHandedRow
set_option linter.all false
section
/- RaftNobody. -/
namespace Go.Proofs.YtcnlhehogkaapaaGreat.raftNobody
open Go Go.ChangeShapes Go.WideShapes Go.ChangeAt Go.RowKit Jb Jx
set_option linter.unusedVariables false
set_option linter.unusedSimpArgs false

theorem cells126 : Tryz.prog.cellsOf 126 = 13 := by kernel_rfl
theorem cells28 : Tryz.prog.cellsOf 28 = 3 := by kernel_rfl
theorem cells5 : Tryz.prog.cellsOf 5 = 1 := by kernel_rfl
theorem cells294 : Tryz.prog.cellsOf 294 = 12 := by kernel_rfl

section
variable {H : Type} {enc : TypeId × Value → H} {w : World} {spare : Nat → Bool} {held : Bool} {fuel : Nat} {x : DataW H × List MemPlace}

set_option maxRecDepth 100000 in
theorem msg_of {r : Reach} {b0 : Nat} {v : Value} (hval : Value.okWide Tryz.prog w r b0 126 v) (h : DataW.trod enc Tryz.prog w 0 spare held fuel 126 v.cells.toList = some x) :
    ∃ E B V' k f t x y z w' ok c r, Rel S0 w (msgV E B V' k f t x y z w' ok c r) v := by
  obtain ⟨cs, rfl, hl, hc, hok⟩ := struct_cells (P := Tryz.prog) (t := 126) (by kernel_rfl) hval
  rw [hc] at h
  rw [cells126] at hl
  match cs, hl with
  | [c0, c1, c2, c3, c4, c5, c6, c7, c8, c9, c10, c11, c12], _ =>
    obtain ⟨z0, rfl, _⟩ := trod_at (P := Tryz.prog) 4 (t := 126) (i := 0) (k := .int .i64) (by kernel_rfl) h rfl
    obtain ⟨z1, rfl, _⟩ := trod_at (P := Tryz.prog) 4 (t := 126) (i := 1) (k := .int .i64) (by kernel_rfl) h rfl
    obtain ⟨z2, rfl, _⟩ := trod_at (P := Tryz.prog) 4 (t := 126) (i := 2) (k := .int .i64) (by kernel_rfl) h rfl
    obtain ⟨z3, rfl, _⟩ := trod_at (P := Tryz.prog) 4 (t := 126) (i := 3) (k := .int .u64) (by kernel_rfl) h rfl
    obtain ⟨z4, rfl, _⟩ := trod_at (P := Tryz.prog) 4 (t := 126) (i := 4) (k := .int .u64) (by kernel_rfl) h rfl
    obtain ⟨z5, rfl, _⟩ := trod_at (P := Tryz.prog) 4 (t := 126) (i := 5) (k := .int .u64) (by kernel_rfl) h rfl
    obtain ⟨z6, rfl, _⟩ := trod_at (P := Tryz.prog) 4 (t := 126) (i := 6) (k := .int .u64) (by kernel_rfl) h rfl
    obtain ⟨z7, rfl⟩ := trod_at (P := Tryz.prog) 4 (t := 126) (i := 7) (k := .bool) (by kernel_rfl) h rfl
    obtain ⟨t8, f8, x8, u8, k8⟩ := trod_at (P := Tryz.prog) 4 (t := 126) (i := 8) (k := .sl 28) (by kernel_rfl) h rfl
    obtain ⟨t9, f9, x9, u9, k9⟩ := trod_at (P := Tryz.prog) 4 (t := 126) (i := 9) (k := .sl 5) (by kernel_rfl) h rfl
    obtain ⟨z10, rfl, _⟩ := trod_at (P := Tryz.prog) 4 (t := 126) (i := 10) (k := .int .u64) (by kernel_rfl) h rfl
    obtain ⟨z11, rfl, _⟩ := trod_at (P := Tryz.prog) 4 (t := 126) (i := 11) (k := .int .u64) (by kernel_rfl) h rfl
    obtain ⟨t12, f12, x12, u12, k12⟩ := trod_at (P := Tryz.prog) 4 (t := 126) (i := 12) (k := .sl 294) (by kernel_rfl) h rfl
    obtain ⟨_, o8⟩ := hok c8 (by simp)
    obtain ⟨_, o9⟩ := hok c9 (by simp)
    obtain ⟨_, o12⟩ := hok c12 (by simp)
    obtain ⟨L8, r8, _⟩ := rel_opaque (P := Tryz.prog) u8 (by rw [cells28]; omega) (by kernel_rfl) (sl_plain u8 k8 o8) k8
    obtain ⟨L9, r9, _⟩ := rel_opaque (P := Tryz.prog) u9 (by rw [cells5]; omega) (by kernel_rfl) (sl_plain u9 k9 o9) k9
    obtain ⟨L12, r12, _⟩ := rel_opaque (P := Tryz.prog) u12 (by rw [cells294]; omega) (by kernel_rfl) (sl_plain u12 k12 o12) k12
    rw [cells28] at r8
    rw [cells5] at r9
    rw [cells294] at r12
    have one8 : c8.oneCell' = true := one_oneCell rfl r8
    have one9 : c9.oneCell' = true := one_oneCell rfl r9
    have one12 : c12.oneCell' = true := one_oneCell rfl r12
    refine ⟨L8, L9, L12, z0, z1, z2, z3, z4, z5, z6, z7, z10, z11, ?_⟩
    have hr : RelL S0 w [.int .i64 z0, .int .i64 z1, .int .i64 z2, .int .u64 z3, .int .u64 z4, .int .u64 z5, .int .u64 z6, .bool z7, .sl 3 L8 .no, .sl 1 L9 .no, .int .u64 z10, .int .u64 z11, .sl 12 L12 .no]
        [.int .i64 z0, .int .i64 z1, .int .i64 z2, .int .u64 z3, .int .u64 z4, .int .u64 z5, .int .u64 z6, .bool z7, c8, c9, .int .u64 z10, .int .u64 z11, c12] :=
      .cons (.int _ _) (.cons (.int _ _) (.cons (.int _ _) (.cons (.int _ _) (.cons (.int _ _) (.cons (.int _ _) (.cons (.int _ _) (.cons (.bool _) (.cons r8 (.cons r9 (.cons (.int _ _) (.cons (.int _ _) (.cons r12 .nil))))))))))))
    exact Rel.agg _ _ hr.1 (by simp [one8, one9, one12]; simp [Value.oneCell']) hr.2
end

set_option maxRecDepth 100000 in
theorem lifted (os : Os) (started : os.Started) (H : Type) (enc : TypeId × Value → H) :
    ReturnsInHanded {} Tryz.checked os 14 .any (Rows.raftNobodySpec.pre6 enc Tryz.prog Tryz.f14 Rows.raftNobodyRow.domain false) (Rows.raftNobodySpec.post enc Tryz.prog Tryz.f14 false true false false) := by
  refine returnsInHanded_of_change (C := Tryz.checked) own started (by kernel_rfl) Tryz.func14
    (ChangeSpec.witness6 (enc := enc) (C := Tryz.checked) false ⟨#[], #[.agg #[.int .i64 0, .int .i64 0, .int .i64 0, .int .u64 0, .int .u64 0, .int .u64 0, .int .u64 0, .bool false, .slice none 0 0, .slice none 0 0, .int .u64 0, .int .u64 0, .slice none 0 0], .int .u64 0], []⟩ 8 (by kernel_rfl) (by kernel_rfl) (by kernel_rfl) (by kernel_rfl)) ?_
  intro W base args ds gs before hval0 hW hcnd _
  have hval : ∀ (j : Nat) t v, Tryz.f14.params[j]? = some t → args[j]? = some v → Value.okWide Tryz.prog W .any base t v := hval0
  have hW' := hW
  obtain ⟨p, q, hA0, hV, rfl, hfz, hnd⟩ := hW
  have hA : DataW.TrodAll enc Tryz.prog W 0 (fun _ => true) true Tryz.f14.params.toList args.toList ds p := hA0
  rw [Tryz.params14] at hA hval
  obtain ⟨v0, vs0, d0, ds0, p0, q0, hargs, rfl, rfl, h0, r0⟩ := trodAll_cons hA
  obtain ⟨v1, vs1, d1, ds1, p1, q1, rfl, rfl, rfl, h1, r1⟩ := trodAll_cons r0
  obtain ⟨rfl, rfl, rfl⟩ := trodAll_nil r1
  obtain rfl : args = #[v0, v1] := by cases args; simp_all
  obtain ⟨rfl, rfl⟩ := trodVars_none hV
  obtain ⟨s, rfl, rfl, rfl, ws⟩ := open_int Tryz.underlying25 (hval 1 25 v1 rfl rfl) h1
  obtain ⟨f0, h0⟩ := h0
  obtain ⟨E, B, V', k, f, t, x, y, z, w', ok, c, r, hR⟩ := msg_of (hval 0 126 v0 rfl rfl) h0
  refine (raft_call E B V' k f t x y z w' ok c r s Jb.h0 S0 W _ (hr0 W) (.cons hR (.cons (Rel.int _ s) .nil))).mono fun e W' he => ?_
  obtain ⟨r, y, h', S', rfl, rfl, H', R', L⟩ := he
  cases R'
  exact ⟨_, rfl, post_law (b := 4) hW' rfl ⟨rfl, rfl, rfl⟩ (by kernel_rfl) Tryz.underlying4 laid (by rw [Tryz.params14]; decide +kernel) L (fun _ => rfl)⟩

theorem a1 : Tryz.prog.inPlace 14 = Rows.raftNobodyRow.inPlace := by kernel_rfl
theorem a2 : Tryz.prog.unfollowed 14 = Rows.raftNobodyRow.unfollowed := by kernel_rfl
theorem a3 : Tryz.prog.recurses 14 = Rows.raftNobodyRow.recurses := by kernel_rfl
theorem a4 : Tryz.prog.varsNamed 14 = Rows.raftNobodyRow.named := by kernel_rfl
theorem j1 : Tryz.pinned.checked.prog.funcNamed Rows.raftNobodyRow.func = some 14 := by kernel_rfl
theorem j2 : joinedFacts Tryz.prog 14 Tryz.f14 Rows.raftNobodySpec Rows.raftNobodyRow = true := by
  unfold joinedFacts
  rw [laid, rowed, a1, a2, a3, a4]
  kernel_rfl
theorem j3 : Tryz.f14.isInstance Tryz.pinned.checked.prog Rows.raftNobodyRow.origin Rows.raftNobodyRow.targs := of_decide_eq_true (by kernel_rfl)
theorem j4 : Tryz.f14.isWrapper Tryz.pinned.checked.prog Rows.raftNobodyRow.wrapper Rows.raftNobodyRow.mainSum := by unfold Func.isWrapper; first | (rw [if_pos (by decide +kernel)]; kernel_rfl) | (rw [if_neg (by decide +kernel)]; exact ⟨rfl, rfl⟩)
theorem over : Rows.raftNobodyRow.holds Tryz.pinned (OpenSpec.ofChange Rows.raftNobodySpec) :=
  OpenClaim.holds_of_wide 14 Tryz.f14 rfl rfl rfl rfl rfl rfl rfl ⟨rfl, rfl, rfl, rfl, rfl⟩ rfl rfl rfl rfl rfl j1 Tryz.func14 j2 j3 j4
    (fun os started H enc _ => lifted os started H enc)

theorem proved : Rows.RaftNobodySaid := over
#print axioms proved
end Go.Proofs.YtcnlhehogkaapaaGreat.raftNobody
end
