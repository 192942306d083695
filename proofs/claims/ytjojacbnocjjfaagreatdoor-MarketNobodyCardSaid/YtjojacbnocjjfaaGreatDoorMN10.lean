/- Proved here: of MN10, that what the Go functions of this part compute is as their contracts say (texts Mz), for every input; no condition beyond those that each theorem states. -/
import Derived.Test.YtjojacbnocjjfaaGreatDoorMN9
import Derived.Test.YtjojacbnocjjfaaGreatDoorMN7
import Derived.Test.YtjojacbnocjjfaaGreatDoorMN8
import Derived.Test.YtjojacbnocjjfaaGreatDoorRows
import Derived.Test.YtjojacbnocjjfaaGreatDoorCards
import Derived.Test.YtjojacbnocjjfaaGreatDoorTie
import Derived.Deep.DeepHandedRow
import Derived.SevenTiedAt
set_option linter.all false
section
/- MarketNobody. -/
namespace Go.Proofs.YtjojacbnocjjfaaGreatDoor.marketNobody
open Go Go.ChangeShapes Go.WideShapes Go.ChangeAt Go.RowKit Jb Jx
set_option linter.unusedVariables false
set_option linter.unusedSimpArgs false

theorem cells28 : Tryz.prog.cellsOf 28 = 22 := by kernel_rfl
theorem kinds28 : (List.range 22).all (fun i => (kindAt Tryz.prog 6 28 i).isSome) = true := by kernel_rfl

section
variable {H : Type} {enc : TypeId × Value → H} {w : World} {spare : Nat → Bool} {held : Bool} {fuel : Nat} {x : DataW H × List MemPlace}

set_option maxRecDepth 100000 in
theorem cmd_of {r : Reach} {b0 : Nat} {v : Value} (hval : Value.okWide Tryz.prog w r b0 28 v) (h : DataW.trod enc Tryz.prog w 0 spare held fuel 28 v.cells.toList = some x) :
    ∃ a i, -590295810358705651712 ≤ a ∧ -590295810358705651712 ≤ i ∧ Rel S0 w (.agg (cmdL a i)) v := by
  obtain ⟨cs, rfl, hl, hc, hok⟩ := struct_cells (P := Tryz.prog) (t := 28) (by kernel_rfl) hval
  rw [hc] at h
  rw [cells28] at hl
  have ones : ∀ c ∈ cs, c.oneCell' = true := fun c hc => by
    obtain ⟨i, hi⟩ := List.getElem?_of_mem hc
    have hlt : i < 22 := by rw [← hl]; exact (List.getElem?_eq_some_iff.1 hi).1
    obtain ⟨k, hk⟩ := Option.isSome_iff_exists.1 (List.all_eq_true.1 kinds28 i (List.mem_range.2 hlt))
    exact cell_one (trod_at 6 hk h hi)
  have g3 : cs[3]? = some (cs[3]'(by omega)) := List.getElem?_eq_getElem _
  have g4 : cs[4]? = some (cs[4]'(by omega)) := List.getElem?_eq_getElem _
  obtain ⟨z3, e3, f3⟩ := trod_at (P := Tryz.prog) 6 (t := 28) (i := 3) (k := .int .i64) (by kernel_rfl) h g3
  obtain ⟨z4, e4, f4⟩ := trod_at (P := Tryz.prog) 6 (t := 28) (i := 4) (k := .int .u64) (by kernel_rfl) h g4
  simp only [Lit.wf, IntKind.min, IntKind.max, IntKind.signed, IntKind.bits] at f3 f4
  refine ⟨z3, z4, ?_, ?_, Rel.agg _ _ (by rw [hl]; rfl) ones fun i v y hv hy => ?_⟩
  · simp at f3; omega
  · simp at f4; omega
  rw [e3] at g3
  rw [e4] at g4
  match i, hv, hy with
  | 3, hv, hy =>
    rw [g3] at hy
    cases hy
    cases (show some (V.int .i64 z3) = some v from hv)
    exact Rel.int _ _
  | 4, hv, hy =>
    rw [g4] at hy
    cases hy
    cases (show some (V.int .u64 z4) = some v from hv)
    exact Rel.int _ _
  | 0, hv, hy => cases (show some V.undef = some v from hv); exact Rel.undef _
  | 1, hv, hy => cases (show some V.undef = some v from hv); exact Rel.undef _
  | 2, hv, hy => cases (show some V.undef = some v from hv); exact Rel.undef _
  | n + 5, hv, hy =>
    have hv : (List.replicate 17 V.undef)[n]? = some v := hv
    rw [List.getElem?_replicate] at hv
    split at hv
    · cases hv; exact Rel.undef _
    · cases hv
end

set_option maxRecDepth 100000 in
theorem lifted (os : Os) (started : os.Started) (H : Type) (enc : TypeId × Value → H) :
    ReturnsInHanded {} Tryz.checked os 3 .any (fun w args => (Rows.marketNobodySpec.pre enc Tryz.prog Tryz.f3 [] false w args ∧ laidMetH Tryz.prog [("errors.errorType", Rows.laid_errors_errorType)] w) ∧ sizedMet enc Tryz.prog Tryz.f3 (OpenSpec.ofChange Rows.marketNobodySpec) false w args)
      (Rows.marketNobodySpec.post enc Tryz.prog Tryz.f3 false true false false) := by
  refine returnsInHanded_of_change_and (C := Tryz.checked) (X := fun w _ => laidMetH Tryz.prog [("errors.errorType", Rows.laid_errors_errorType)] w) (fun _ _ _ hh h => h.of_heap hh) own started (by kernel_rfl) Tryz.func3
    (ChangeSpec.witness_at (enc := enc) (C := Tryz.checked) (os := os) (X := fun w _ => laidMetH Tryz.prog [("errors.errorType", Rows.laid_errors_errorType)] w) false (laidWorld os)
      #[.agg #[.int .i64 0, .int .u64 0, .int .u64 0, .int .i64 0, .int .u64 0, .int .i64 0, .int .i64 0, .int .i64 0, .int .i64 0, .int .i64 0, .int .i64 0, .int .i64 0, .int .u64 0, .int .i64 0, .slice none 0 0, .int .i64 0, .int .i64 0, .slice none 0 0, .int .i64 0, .int .i64 0, .int .i64 0, .int .i64 0]] 8 rfl
      (by kernel_rfl) (by kernel_rfl) (by kernel_rfl) (by kernel_rfl) (by kernel_rfl) (laidWorld_met os _)) ?_
  intro W base args ds gs before hval0 hW _ _ _ _
  have hval : ∀ (j : Nat) t v, Tryz.f3.params[j]? = some t → args[j]? = some v → Value.okWide Tryz.prog W .any base t v := hval0
  have hW' := hW
  obtain ⟨p, q, hA0, hV0, rfl, hfz, hnd⟩ := hW
  have hA : DataW.TrodAll enc Tryz.prog W 0 (fun _ => true) true Tryz.f3.params.toList args.toList ds p := hA0
  have hV : DataW.TrodVars enc Tryz.prog W (fun _ => true) [] gs q := hV0
  rw [Tryz.params3] at hA hval
  obtain ⟨v0, vs0, d0, ds0, p0, q0, hargs, rfl, rfl, h0, r0⟩ := trodAll_cons hA
  obtain ⟨rfl, rfl, rfl⟩ := trodAll_nil r0
  obtain rfl : args = #[v0] := by cases args; simp_all
  obtain ⟨rfl, rfl⟩ := trodVars_none hV
  obtain ⟨f0, h0⟩ := h0
  obtain ⟨a, i, ha, hi', hR⟩ := cmd_of (hval 0 28 v0 rfl rfl) h0
  refine (nobody_call a i ha hi' Jb.h0 S0 W _ (hr0 W) (.cons hR .nil)).mono fun e W' he => ?_
  obtain ⟨r, y, h', S', rfl, rfl, H', R', L⟩ := he
  cases R'
  exact ⟨_, rfl, post_law (b := 4) hW' rfl ⟨rfl, rfl, rfl⟩ (by kernel_rfl) Tryz.underlying4 laid (by rw [Tryz.params3]; decide +kernel) L (fun _ => rfl)⟩

theorem a1 : Tryz.prog.inPlace 3 = Rows.marketNobodyRow.inPlace := by kernel_rfl
theorem a2 : Tryz.prog.unfollowed 3 = Rows.marketNobodyRow.unfollowed := by kernel_rfl
theorem a3 : Tryz.prog.recurses 3 = Rows.marketNobodyRow.recurses := by kernel_rfl
theorem a4 : Tryz.prog.varsNamed 3 = Rows.marketNobodyRow.named := by kernel_rfl
theorem j1 : Tryz.pinned.checked.prog.funcNamed Rows.marketNobodyRow.func = some 3 := by kernel_rfl
theorem j2 : joinedFacts Tryz.prog 3 Tryz.f3 Rows.marketNobodySpec Rows.marketNobodyRow = true := by
  unfold joinedFacts
  rw [laid, rowed, a1, a2, a3, a4]
  kernel_rfl
theorem j3 : Tryz.f3.isInstance Tryz.pinned.checked.prog Rows.marketNobodyRow.origin Rows.marketNobodyRow.targs := of_decide_eq_true (by kernel_rfl)
theorem j4 : Tryz.f3.isWrapper Tryz.pinned.checked.prog Rows.marketNobodyRow.wrapper Rows.marketNobodyRow.mainSum := by unfold Func.isWrapper; first | (rw [if_pos (by decide +kernel)]; kernel_rfl) | (rw [if_neg (by decide +kernel)]; exact ⟨rfl, rfl⟩)
theorem over : Rows.MarketNobodySaid :=
  OpenClaim.holds_of_wide 3 Tryz.f3 rfl rfl rfl rfl rfl rfl rfl ⟨rfl, rfl, rfl, rfl, rfl⟩ rfl rfl rfl rfl rfl j1 Tryz.func3 j2 j3 j4
    (fun os started H enc _ => lifted os started H enc)

theorem proved : Rows.MarketNobodyCardSaid :=
  Claim7.holds_tied_plain_at .later [] [.handle] true (true, "e6782223ca8305ddc808ad95a8550713418b6db27573b5795e11bc027556d539") true
    over (fun _ h => by cases h) (by kernel_rfl) (fun _ h => by cases h) marketNobody_row_tie rfl ⟨rfl, rfl⟩ (by kernel_rfl) rfl
    (fun f fn hf hfn => by
      obtain rfl : f = 3 := Option.some.inj ((show Tryz.prog.funcNamed "jobber/jobberlaw22.MarketNobody" = some 3 by kernel_rfl).symm.trans hf) |>.symm
      obtain rfl : fn = Tryz.f3 := (Option.some.inj (Tryz.func3.symm.trans hfn)).symm
      exact ⟨by kernel_rfl, fun j t ht => by
        rw [Tryz.params3] at ht
        have h3 : t = 28 := by
          rcases j with _ | j
          · simpa using ht.symm
          · simp at ht
        subst h3
        exact (show Tryz.prog.wantsStandIn 28 = false by kernel_rfl)⟩)
    (by kernel_rfl)
#print axioms proved
end Go.Proofs.YtjojacbnocjjfaaGreatDoor.marketNobody
end
