/- Proved here: of Requant7, that what the Go functions of this part compute is as their contracts say (texts Rz), for every input; no condition beyond those that each theorem states. -/
import Derived.Test.YtmcmknjoegjalaaRequant6
import Derived.Test.YtmcmknjoegjalaaRows
import Derived.Deep.DeepHandedRow
set_option linter.all false
section
namespace Go.Proofs.Ytmcmknjoegjalaa.requantPlans
open Go Go.ChangeShapes Go.WideShapes Go.ChangeAt Go.RowKit Jb
set_option linter.unusedVariables false
set_option linter.unusedSimpArgs false

theorem own : ownKnob Try.prog.godebug = none := by kernel_rfl
theorem laid : laidOutB Try.prog = true := by kernel_rfl
theorem cells56 : Try.prog.cellsOf 56 = 6 := by kernel_rfl
theorem cells53 : Try.prog.cellsOf 53 = 9 := by kernel_rfl
theorem cells114 : Try.prog.cellsOf 114 = 2 := by kernel_rfl
theorem cells116 : Try.prog.cellsOf 116 = 3 := by kernel_rfl

def oval (o : Odr) : List Value := [.int .u64 o.id, .int .i64 o.acc, .int .i64 o.side, .int .i64 o.price, .int .i64 o.qty, .int .u64 o.seq]
def tval (x : Tk) : List Value := [.int .i64 x.1, .int .i64 x.2]
def fval (x : Int × Int × Int) : List Value := [.int .i64 x.1, .int .i64 x.2.1, .int .i64 x.2.2]
theorem oval_rel {S : Sim} {w : World} (o : Odr) : RelL S w (ocs o) (oval o) := .cons (.int _ _) (.cons (.int _ _) (.cons (.int _ _) (.cons (.int _ _) (.cons (.int _ _) (.cons (.int _ _) .nil)))))
theorem tval_rel {S : Sim} {w : World} (x : Tk) : RelL S w [.int .i64 x.1, .int .i64 x.2] (tval x) := .cons (.int _ _) (.cons (.int _ _) .nil)
theorem fval_rel {S : Sim} {w : World} (x : Int × Int × Int) : RelL S w [.int .i64 x.1, .int .i64 x.2.1, .int .i64 x.2.2] (fval x) := .cons (.int _ _) (.cons (.int _ _) (.cons (.int _ _) .nil))

section
variable {H : Type} {enc : TypeId × Value → H} {w : World} {spare : Nat → Bool} {held : Bool} {fuel : Nat} {x : DataW H × List MemPlace}

theorem order_of {base : Nat} {cs : List Value} (h : DataW.trod enc Try.prog w base spare held fuel 56 cs = some x) : ∃ o, cs = oval o := by
  have hl := trod_len (P := Try.prog) (t := 56) (by kernel_rfl) h
  rw [cells56] at hl
  match cs, hl with
  | [a, b, c, d, e, f], _ =>
    obtain ⟨z0, rfl, _⟩ := trod_at (P := Try.prog) 4 (t := 56) (i := 0) (k := .int .u64) (by kernel_rfl) h rfl
    obtain ⟨z1, rfl, _⟩ := trod_at (P := Try.prog) 4 (t := 56) (i := 1) (k := .int .i64) (by kernel_rfl) h rfl
    obtain ⟨z2, rfl, _⟩ := trod_at (P := Try.prog) 4 (t := 56) (i := 2) (k := .int .i64) (by kernel_rfl) h rfl
    obtain ⟨z3, rfl, _⟩ := trod_at (P := Try.prog) 4 (t := 56) (i := 3) (k := .int .i64) (by kernel_rfl) h rfl
    obtain ⟨z4, rfl, _⟩ := trod_at (P := Try.prog) 4 (t := 56) (i := 4) (k := .int .i64) (by kernel_rfl) h rfl
    obtain ⟨z5, rfl, _⟩ := trod_at (P := Try.prog) 4 (t := 56) (i := 5) (k := .int .u64) (by kernel_rfl) h rfl
    exact ⟨⟨z0, z1, z2, z3, z4, z5⟩, rfl⟩
theorem tick_of {base : Nat} {cs : List Value} (h : DataW.trod enc Try.prog w base spare held fuel 114 cs = some x) : ∃ o, cs = tval o := by
  have hl := trod_len (P := Try.prog) (t := 114) (by kernel_rfl) h
  rw [cells114] at hl
  match cs, hl with
  | [a, b], _ =>
    obtain ⟨z0, rfl, _⟩ := trod_at (P := Try.prog) 4 (t := 114) (i := 0) (k := .int .i64) (by kernel_rfl) h rfl
    obtain ⟨z1, rfl, _⟩ := trod_at (P := Try.prog) 4 (t := 114) (i := 1) (k := .int .i64) (by kernel_rfl) h rfl
    exact ⟨(z0, z1), rfl⟩
theorem fee_of {base : Nat} {cs : List Value} (h : DataW.trod enc Try.prog w base spare held fuel 116 cs = some x) : ∃ o, cs = fval o := by
  have hl := trod_len (P := Try.prog) (t := 116) (by kernel_rfl) h
  rw [cells116] at hl
  match cs, hl with
  | [a, b, c], _ =>
    obtain ⟨z0, rfl, _⟩ := trod_at (P := Try.prog) 4 (t := 116) (i := 0) (k := .int .i64) (by kernel_rfl) h rfl
    obtain ⟨z1, rfl, _⟩ := trod_at (P := Try.prog) 4 (t := 116) (i := 1) (k := .int .i64) (by kernel_rfl) h rfl
    obtain ⟨z2, rfl, _⟩ := trod_at (P := Try.prog) 4 (t := 116) (i := 2) (k := .int .i64) (by kernel_rfl) h rfl
    exact ⟨(z0, z1, z2), rfl⟩

set_option maxRecDepth 100000 in
theorem ticks_of {b0 : Nat} {r : Reach} {t u : TypeId} {c : Value} (ht : Try.prog.underlying t = some (.slice 114)) (h : DataW.trod enc Try.prog w 0 spare held fuel t [c] = some x) (hu : Cell.okWide Try.prog w r b0 u c) :
    ∃ L : List Tk, Rel S0 w (.sl 2 (tks L) .no) c := by
  obtain ⟨L, _, hL⟩ := rel_slice (P := Try.prog) tval (fun x : Tk => [.int .i64 x.1, .int .i64 x.2]) (fun a => tval_rel a) (fun a c hc => by simp [tval] at hc; rcases hc with rfl | rfl <;> rfl) ht (by rw [cells114]; omega) (fun n cs y hy _ => tick_of hy) (sl_plain ht h hu) h
  rw [cells114] at hL
  exact ⟨L, hL⟩
set_option maxRecDepth 100000 in
theorem fees_of {b0 : Nat} {r : Reach} {t u : TypeId} {c : Value} (ht : Try.prog.underlying t = some (.slice 116)) (h : DataW.trod enc Try.prog w 0 spare held fuel t [c] = some x) (hu : Cell.okWide Try.prog w r b0 u c) :
    ∃ L : List (Int × Int × Int), Rel S0 w (.sl 3 (frs L) .no) c := by
  obtain ⟨L, _, hL⟩ := rel_slice (P := Try.prog) fval (fun x : Int × Int × Int => [.int .i64 x.1, .int .i64 x.2.1, .int .i64 x.2.2]) (fun a => fval_rel a) (fun a c hc => by simp [fval] at hc; rcases hc with rfl | rfl | rfl <;> rfl) ht (by rw [cells116]; omega) (fun n cs y hy _ => fee_of hy) (sl_plain ht h hu) h
  rw [cells116] at hL
  exact ⟨L, hL⟩

set_option maxRecDepth 100000 in
theorem rules_of {r : Reach} {b0 : Nat} {v : Value} (hval : Value.okWide Try.prog w r b0 53 v) (h : DataW.trod enc Try.prog w 0 spare held fuel 53 v.cells.toList = some x) : ∃ R : Rul, Rel S0 w (.agg (rcs R)) v := by
  obtain ⟨cs, rfl, hl, hc, hok⟩ := struct_cells (P := Try.prog) (t := 53) (by kernel_rfl) hval
  rw [hc] at h
  rw [cells53] at hl
  match cs, hl with
  | [c0, c1, c2, c3, c4, c5, c6, c7, c8], _ =>
    obtain ⟨z0, rfl, _⟩ := trod_at (P := Try.prog) 4 (t := 53) (i := 0) (k := .int .i64) (by kernel_rfl) h rfl
    obtain ⟨t1, f1, x1, u1, k1⟩ := trod_at (P := Try.prog) 4 (t := 53) (i := 1) (k := .sl 114) (by kernel_rfl) h rfl
    obtain ⟨z2, rfl, _⟩ := trod_at (P := Try.prog) 4 (t := 53) (i := 2) (k := .int .i64) (by kernel_rfl) h rfl
    obtain ⟨z3, rfl, _⟩ := trod_at (P := Try.prog) 4 (t := 53) (i := 3) (k := .int .i64) (by kernel_rfl) h rfl
    obtain ⟨t4, f4, x4, u4, k4⟩ := trod_at (P := Try.prog) 4 (t := 53) (i := 4) (k := .sl 116) (by kernel_rfl) h rfl
    obtain ⟨z5, rfl, _⟩ := trod_at (P := Try.prog) 4 (t := 53) (i := 5) (k := .int .i64) (by kernel_rfl) h rfl
    obtain ⟨z6, rfl, _⟩ := trod_at (P := Try.prog) 4 (t := 53) (i := 6) (k := .int .i64) (by kernel_rfl) h rfl
    obtain ⟨z7, rfl, _⟩ := trod_at (P := Try.prog) 4 (t := 53) (i := 7) (k := .int .i64) (by kernel_rfl) h rfl
    obtain ⟨z8, rfl, _⟩ := trod_at (P := Try.prog) 4 (t := 53) (i := 8) (k := .int .i64) (by kernel_rfl) h rfl
    obtain ⟨w1, o1⟩ := hok c1 (by simp)
    obtain ⟨w4, o4⟩ := hok c4 (by simp)
    obtain ⟨L1, r1⟩ := ticks_of u1 k1 o1
    obtain ⟨L4, r4⟩ := fees_of u4 k4 o4
    have one1 : c1.oneCell' = true := one_oneCell rfl r1
    have one4 : c4.oneCell' = true := one_oneCell rfl r4
    refine ⟨⟨z0, L1, .no, z2, z3, L4, .no, z5, z6, z7, z8⟩, ?_⟩
    have hr : RelL S0 w (rcs ⟨z0, L1, .no, z2, z3, L4, .no, z5, z6, z7, z8⟩) [.int .i64 z0, c1, .int .i64 z2, .int .i64 z3, c4, .int .i64 z5, .int .i64 z6, .int .i64 z7, .int .i64 z8] :=
      .cons (.int _ _) (.cons r1 (.cons (.int _ _) (.cons (.int _ _) (.cons r4 (.cons (.int _ _) (.cons (.int _ _) (.cons (.int _ _) (.cons (.int _ _) .nil))))))))
    exact Rel.agg _ _ hr.1 (by simp [one1, one4]; simp [Value.oneCell']) hr.2
end

set_option maxRecDepth 100000 in
theorem lifted (os : Os) (started : os.Started) (H : Type) (enc : TypeId × Value → H) :
    ReturnsInHanded {} Try.checked os 6 .any (Rows.requantPlansSpec.pre6 enc Try.prog Try.f6 Rows.requantPlansRow.domain false) (Rows.requantPlansSpec.post enc Try.prog Try.f6 false true false false) := by
  refine returnsInHanded_of_change (C := Try.checked) own started (by kernel_rfl) Try.func6
    (ChangeSpec.witness6 (enc := enc) (C := Try.checked) false ⟨#[], #[.slice none 0 0, .agg #[.int .i64 0, .slice none 0 0, .int .i64 0, .int .i64 0, .slice none 0 0, .int .i64 0, .int .i64 0, .int .i64 0, .int .i64 0], .agg #[.int .u64 0, .int .i64 0, .int .i64 0, .int .i64 0, .int .i64 0, .int .u64 0]], []⟩ 8 (by kernel_rfl) (by kernel_rfl) (by kernel_rfl) (by kernel_rfl)) ?_
  intro W base args ds gs before hval0 hW hcnd _
  have hval : ∀ (j : Nat) t v, Try.f6.params[j]? = some t → args[j]? = some v → Value.okWide Try.prog W .any base t v := hval0
  have hW' := hW
  obtain ⟨p, q, hA0, hV, rfl, hfz, hnd⟩ := hW
  have hA : DataW.TrodAll enc Try.prog W 0 (fun _ => true) true Try.f6.params.toList args.toList ds p := hA0
  rw [Try.params6] at hA hval
  obtain ⟨v0, vs0, d0, ds0, p0, q0, hargs, rfl, rfl, h0, r0⟩ := trodAll_cons hA
  obtain ⟨v1, vs1, d1, ds1, p1, q1, rfl, rfl, rfl, h1, r1⟩ := trodAll_cons r0
  obtain ⟨v2, vs2, d2, ds2, p2, q2, rfl, rfl, rfl, h2, r2⟩ := trodAll_cons r1
  obtain ⟨rfl, rfl, rfl⟩ := trodAll_nil r2
  obtain rfl : args = #[v0, v1, v2] := by cases args; simp_all
  obtain ⟨rfl, rfl⟩ := trodVars_none hV
  obtain ⟨f0, h0⟩ := h0
  obtain ⟨f1, h1⟩ := h1
  obtain ⟨f2, h2⟩ := h2
  have hp := plain_cell (P := Try.prog) Try.underlying49 (by have := hval 0 49 v0 rfl rfl; unfold Value.okWide at this; rwa [Try.underlying49] at this)
  obtain ⟨L, _, hR⟩ := rel_slice (P := Try.prog) oval ocs (fun a => oval_rel a) (fun a c hc => by simp [oval] at hc; rcases hc with rfl | rfl | rfl | rfl | rfl | rfl <;> rfl) Try.underlying49 (by rw [cells56]; omega) (fun n cs y hy _ => order_of hy) hp
    (by rcases hp with rfl | ⟨_, _, _, _, rfl⟩ <;> exact h0)
  rw [cells56] at hR
  obtain ⟨R, hR1⟩ := rules_of (hval 1 53 v1 rfl rfl) h1
  obtain ⟨cs, rfl, _, hc2, _⟩ := struct_cells (P := Try.prog) (t := 56) (by kernel_rfl) (hval 2 56 v2 rfl rfl)
  rw [hc2] at h2
  obtain ⟨o, rfl⟩ := order_of h2
  have hR2 : Rel S0 W (.agg (ocs o)) (.agg (oval o).toArray) := Rel.agg _ _ (oval_rel (S := S0) (w := W) o).1 (by simp [oval, Value.oneCell']) (oval_rel o).2
  refine (requant_call L .no R o Jb.h0 S0 W _ (hr0 W) (.cons hR (.cons hR1 (.cons hR2 .nil)))).mono fun e W' he => ?_
  obtain ⟨r, y, h', S', rfl, rfl, H', R', L⟩ := he
  cases R'
  exact ⟨_, rfl, post_law (b := 4) hW' rfl ⟨rfl, rfl, rfl⟩ (by kernel_rfl) Try.underlying4 laid (by rw [Try.params6]; decide +kernel) L (fun _ => rfl)⟩

theorem over : Rows.requantPlansRow.holds Try.pinned (OpenSpec.ofChange Rows.requantPlansSpec) :=
  OpenClaim.holds_of_wide 6 Try.f6 rfl rfl rfl rfl rfl rfl rfl ⟨rfl, rfl, rfl, rfl, rfl⟩ rfl rfl rfl rfl rfl (by kernel_rfl) Try.func6 (by kernel_rfl)
    (of_decide_eq_true (by kernel_rfl)) (by unfold Func.isWrapper; first | (rw [if_pos (by decide +kernel)]; kernel_rfl) | (rw [if_neg (by decide +kernel)]; exact ⟨rfl, rfl⟩))
    (fun os started H enc _ => lifted os started H enc)

theorem proved : Rows.RequantPlansSaid := over
#print axioms proved
end Go.Proofs.Ytmcmknjoegjalaa.requantPlans
end
