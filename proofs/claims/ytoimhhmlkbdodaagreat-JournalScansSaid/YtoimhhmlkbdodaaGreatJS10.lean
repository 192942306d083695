/- Proved here: of JS10, that what the Go functions of this part compute is as their contracts say (texts Jq, Jr), for every input; no condition beyond those that each theorem states. -/
import Derived.Test.YtoimhhmlkbdodaaGreatJS9
import Derived.Test.YtoimhhmlkbdodaaGreatJS7
import Derived.Test.YtoimhhmlkbdodaaGreatJS8
set_option linter.all false
section
/- bytes.Clone of nothing; the example. -/
namespace J
open Go Go.Proofs Jb Jx
set_option maxRecDepth 100000

def cloneHook : Hook := fun f args h nx =>
  match Nat.beq f 61, args with
  | true, [.sl 1 [] .full] => some (.sl 1 [] .full, h, nx)
  | true, [.sl 1 [] .no] => some (.sl 1 [] .full, h, nx)
  | _, _ => none

def cf0 : Cfg := { esc := [], wipes := [] }
theorem clone_wp (g : G) (h : Heap) (K : V → Heap → Prop) : bodyW Tryz.prog cf0 (Tryz.prog.funcs.getD 61 default) [.sl 1 [] g] h K =
    (∀ b : Bool, (([] : List (List V)) ≠ [] → b = false) → brW b (K (.sl 1 [] .full) h) (True ∧ 0 + 0 ≤ mostLen ∧ K (.sl 1 [] .full) h)) := by kernel_rfl
theorem getDc : Tryz.prog.funcs.getD 61 default = Tryz.f61 := by kernel_rfl

theorem clone_call (g : G) (h : Heap) : CallW Tryz.prog 61 [.sl 1 [] g] h fun u h' => u = .sl 1 [] .full ∧ h' = h := by
  refine CallW.body mix cf0 Tryz.func61 (Nat.le_of_ble_eq_true (by kernel_rfl)) ?_
  rw [← getDc, clone_wp]
  intro b _
  cases b
  · exact ⟨trivial, by decide, rfl, rfl⟩
  · exact ⟨rfl, rfl⟩

theorem hook_ok : HookOk Tryz.prog cloneHook := by
  intro f args H nx v H' nx' hr
  have main : f = 61 → ∀ g, args = [.sl 1 [] g] → v = .sl 1 [] .full → H' = H → nx' = nx → enters Tryz.prog f = true ∧ ∀ ρ args' h, VL ρ args args' → HX ρ H nx h →
      CallW Tryz.prog f args' h fun u h' => ∃ ρ', Sub ρ ρ' ∧ VR ρ' v u ∧ HX ρ' H' nx' h' := by
    rintro rfl g rfl rfl rfl rfl
    refine ⟨by kernel_rfl, fun ρ args' h ha X => ?_⟩
    have : args' = [.sl 1 [] g] := by
      cases args' with
      | nil => have := ha.1; simp at this
      | cons u r =>
        obtain ⟨h1, h2⟩ := ha.tail
        have hr : r = [] := List.length_eq_zero_iff.1 (by simpa using h2.1)
        obtain ⟨l', rfl, hl, _⟩ := h1.sl_inv
        have hl' : l' = [] := List.length_eq_zero_iff.1 (by simpa using hl.1)
        rw [hr, hl']
    rw [this]
    refine (clone_call g h).mono ?_
    rintro u h' ⟨rfl, rfl⟩
    exact ⟨ρ, Sub.refl _, .ofVLL (by simp) .nil, X⟩
  unfold cloneHook at hr
  split at hr
  · rename_i e; cases hr; have m := main (Nat.eq_of_beq_eq_true e) _ rfl rfl rfl rfl; exact fun ρ a h hv X => AnyW.call m.1 (m.2 ρ a h hv X)
  · rename_i e; cases hr; have m := main (Nat.eq_of_beq_eq_true e) _ rfl rfl rfl rfl; exact fun ρ a h hv X => AnyW.call m.1 (m.2 ρ a h hv X)
  · cases hr

def told : Option (V × T Xb × Nat) → Option V | some r => some r.1 | none => none

def noL : Locs := ⟨fun _ => none, fun _ => none, fun _ => none, fun _ _ e => by cases e⟩

/-- What is run, is so. -/
theorem runs {f : FuncId} (he : enters Tryz.prog f = true) {args : List V} {b : Bool} {fuel d : Nat} (hr : told ((callX Tryz.prog cloneHook fuel d).call f args .nil 1) = some (.bool b)) {ρ : Locs} (h0 : ∀ k, ρ k = none) {args' : List V} (ha : VL ρ args args') (h : Heap) :
    CallW Tryz.prog f args' h fun u _ => u = .bool b := by
  cases e : (callX Tryz.prog cloneHook fuel d).call f args .nil 1 with
  | none => rw [e] at hr; cases hr
  | some r =>
    obtain ⟨v, H, nx⟩ := r
    rw [e] at hr
    simp only [told, Option.some.injEq] at hr
    subst hr
    refine (closed mix hook_ok he e h0 ha h).mono ?_
    rintro u h' ⟨ρ', _, hv⟩
    cases hv
    rfl
theorem lives_run : told ((callX Tryz.prog cloneHook 100000 60).call 11 [] .nil 1) = some (.bool true) := by kernel_rfl
theorem lives_c (h : Heap) : CallW Tryz.prog 11 [] h fun u _ => u = .bool true := runs (ρ := noL) (by kernel_rfl) lives_run (fun _ => rfl) .nil h
end J
end

section
/- JournalScans: what the law's function tells. -/
namespace J
open Go Go.Proofs Jb Js
set_option maxRecDepth 100000
set_option maxHeartbeats 4000000
theorem c3 {args : List V} {h : Heap} {K : V → Heap → Prop} (hn : Nat.ble args.length Tryz.f3.ntmps = true) (e : Nx (bodyS Tryz.prog ⟨[], [], false⟩ Tryz.f3 args h K)) : CallW Tryz.prog 3 args h K := CallW.go mix _ Tryz.func3 (Nat.le_of_ble_eq_true hn) rfl e
theorem n3 : enters Tryz.prog 3 = true := by kernel_rfl
theorem i3 {args : List V} {h : Heap} {K : V → Heap → Prop} (hn : Nat.ble args.length Tryz.f3.ntmps = true) (e : Nx (bodyS Tryz.prog ⟨[], [], false⟩ Tryz.f3 args h K)) : CallS Tryz.prog 3 args h K := ⟨AnyW.call n3 (c3 hn e)⟩
theorem lightF_yes {fs : List (List UInt8)} (h : lightF fs = true) : fs.length ≤ 10 ∧ ∀ b ∈ fs, b.length ≤ 3000 := by
  unfold lightF at h
  rw [Bool.and_eq_true] at h
  exact ⟨of_decide_eq_true h.2, fun b hb => of_decide_eq_true (List.all_eq_true.1 h.1 b hb)⟩
theorem n11 : enters Tryz.prog 11 = true := by kernel_rfl
theorem jscans_c {fs : List (List UInt8)} {g : G} {h : Heap} (h10 : fs.length ≤ 9223372036854775807) : CallW Tryz.prog 3 [.sl 1 (fv fs) g] h fun r _ => r = .bool true := by
  refine c3 rfl ?_
  cases hlt : lightF fs with
  | false =>
    have hf := light_g (fs := fs) (g := g) (h := h) h10
    rw [hlt] at hf
    repeat' (first | ((with_reducible apply Nx.mk); conv => whnf) | ((with_reducible first | apply brS_i | apply spB_i) <;> intro c <;> (try exact absurd c (by decide)) <;> (try simp only [decide_eq_true_eq, decide_eq_false_iff_not, beq_iff_eq, bne_iff_ne, Bool.not_eq_true', Bool.not_eq_false', beq_eq_false_iff_ne, Bool.not_true, Bool.not_false, reduceCtorEq, ne_eq, bne_eq_false_iff_eq, Int.not_lt, Int.not_le, Decidable.not_not] at c) <;> (try (exfalso; omega))) | ((with_reducible apply HN.i); (next => first | rfl | fail)) | refine CallS.gives n10 (hf) ?_ | (refine CallS.by' n11 (lives_c _) ?_; rintro r' h' rfl) | fail)
    all_goals first | exact absurd trivial (by assumption) | exact Js.Fin.mk rfl
  | true =>
    have hf := light_g (fs := fs) (g := g) (h := h) h10
    rw [hlt] at hf
    obtain ⟨hl1, hl2⟩ := lightF_yes hlt
    repeat' (first | ((with_reducible apply Nx.mk); conv => whnf) | ((with_reducible apply RdV.i); (next => first | rfl | fail)) | ((with_reducible first | apply brS_i | apply spB_i) <;> intro c <;> (try exact absurd c (by decide)) <;> (try simp only [decide_eq_true_eq, decide_eq_false_iff_not, beq_iff_eq, bne_iff_ne, Bool.not_eq_true', Bool.not_eq_false', beq_eq_false_iff_ne, Bool.not_true, Bool.not_false, reduceCtorEq, ne_eq, bne_eq_false_iff_eq, Int.not_lt, Int.not_le, Decidable.not_not] at c) <;> (try (exfalso; omega))) | ((with_reducible apply HN.i); (next => first | rfl | fail)) | ((with_reducible apply Plan.i); (next => kernel_rfl); (next => kernel_rfl)) | refine CallS.gives n10 (hf) ?_ | (refine CallS.by' n12 (Scan_c hl1 hl2) ?_; rintro r' h2 ⟨hs2, hlen, gl, rfl⟩) | (refine CallS.by' n13 (rscan_c hl1 hl2) ?_; rintro r' h3 ⟨hs3, gb3, g3, n3, rfl⟩) | refine CallS.gives n15 (plain_g (by omega)) ?_ | refine CallS.gives n14 (same_g (by omega)) ?_ | (refine CallS.by' n11 (lives_c _) ?_; rintro r' h' rfl) | with_reducible apply And.intro | exact trivial | exact EqV.mk rfl | with_reducible intro _ | fail)
    all_goals first | exact absurd trivial (by assumption) | exact Js.Fin.mk rfl
end J
end
