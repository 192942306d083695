/- Proved here: of SNobody6, that what the Go functions of this part compute is as their contracts say (texts Na, Nf), for every input; no condition beyond those that each theorem states. -/
import Derived.Test.YtcnlhehogkaapaaGreatSNobody5
import Derived.KernelRfl
import Derived.Test.YtcnlhehogkaapaaGreatRows
set_option linter.all false
section
/- bytes.Clone of nothing; the lives of three packages. -/
namespace Go.Proofs.YtcnlhehogkaapaaGreat
open Go Jb Jx
set_option maxRecDepth 100000

theorem mix : Tryz.prog.follows .mixedOrders = true := by kernel_rfl

def cloneHook : Hook := fun f args h nx =>
  match Nat.beq f 94, args with
  | true, [.sl 1 [] .full] => some (.sl 1 [] .full, h, nx)
  | true, [.sl 1 [] .no] => some (.sl 1 [] .full, h, nx)
  | _, _ => none

def cf0 : Cfg := { esc := [], wipes := [] }
theorem clone_wp (g : G) (h : Heap) (K : V → Heap → Prop) : bodyW Tryz.prog cf0 (Tryz.prog.funcs.getD 94 default) [.sl 1 [] g] h K =
    (∀ b : Bool, (([] : List (List V)) ≠ [] → b = false) → brW b (K (.sl 1 [] .full) h) (True ∧ 0 + 0 ≤ mostLen ∧ K (.sl 1 [] .full) h)) := by kernel_rfl
theorem getD94 : Tryz.prog.funcs.getD 94 default = Tryz.f94 := by kernel_rfl

theorem clone_call (g : G) (h : Heap) : CallW Tryz.prog 94 [.sl 1 [] g] h fun u h' => u = .sl 1 [] .full ∧ h' = h := by
  refine CallW.body mix cf0 Tryz.func94 (Nat.le_of_ble_eq_true (by kernel_rfl)) ?_
  rw [← getD94, clone_wp]
  intro b _
  cases b
  · exact ⟨trivial, by decide, rfl, rfl⟩
  · exact ⟨rfl, rfl⟩

theorem hook_ok : HookOk Tryz.prog cloneHook := by
  intro f args H nx v H' nx' hr
  have main : f = 94 → ∀ g, args = [.sl 1 [] g] → v = .sl 1 [] .full → H' = H → nx' = nx → enters Tryz.prog f = true ∧ ∀ ρ args' h, VL ρ args args' → HX ρ H nx h →
      CallW Tryz.prog f args' h fun u h' => ∃ ρ', Sub ρ ρ' ∧ VR ρ' v u ∧ HX ρ' H' nx' h' := by
    rintro rfl g rfl rfl rfl rfl
    refine ⟨by kernel_rfl, fun ρ args' h ha X => ?_⟩
    have : args' = [.sl 1 [] g] := by
      cases args' with
      | nil => have := ha.1; simp at this
      | cons u r =>
        obtain ⟨h1, h2⟩ := ha.tail
        have hr : r = [] := List.length_eq_zero_iff.1 (by simpa using h2.1)
        obtain ⟨l', rfl, hl, _⟩ := h1.sl_inv
        have hl' : l' = [] := List.length_eq_zero_iff.1 (by simpa using hl.1)
        rw [hr, hl']
    rw [this]
    refine (clone_call g h).mono ?_
    rintro u h' ⟨rfl, rfl⟩
    exact ⟨ρ, Sub.refl _, .ofVLL (by simp) .nil, X⟩
  unfold cloneHook at hr
  split at hr
  · rename_i e; cases hr; exact main (Nat.eq_of_beq_eq_true e) _ rfl rfl rfl rfl
  · rename_i e; cases hr; exact main (Nat.eq_of_beq_eq_true e) _ rfl rfl rfl rfl
  · cases hr

def told : Option (V × T Xb × Nat) → Option V | some r => some r.1 | none => none

def noL : Locs := ⟨fun _ => none, fun _ => none, fun _ => none, fun _ _ e => by cases e⟩

/-- What is run, is so. -/
theorem runs {f : FuncId} {args : List V} {b : Bool} {fuel d : Nat} (hr : told ((callX Tryz.prog cloneHook fuel d).call f args .nil 1) = some (.bool b)) {ρ : Locs} (h0 : ∀ k, ρ k = none) {args' : List V} (ha : VL ρ args args') (h : Heap) :
    CallW Tryz.prog f args' h fun u _ => u = .bool b := by
  cases e : (callX Tryz.prog cloneHook fuel d).call f args .nil 1 with
  | none => rw [e] at hr; cases hr
  | some r =>
    obtain ⟨v, H, nx⟩ := r
    rw [e] at hr
    simp only [told, Option.some.injEq] at hr
    subst hr
    refine (closed mix hook_ok e h0 ha h).2.mono ?_
    rintro u h' ⟨ρ', _, hv⟩
    cases hv
    rfl
end Go.Proofs.YtcnlhehogkaapaaGreat
end

section
/- StoreNobody, run. -/
namespace Go.Proofs.YtcnlhehogkaapaaGreat
open Go Jb Jx
set_option maxRecDepth 100000

theorem store0 (t : Int) : told ((callX Tryz.prog cloneHook 100000 80).call 9 [.int .u64 t, .iface 1000000000000000000000000000000 (.int .i64 2079805826620775888688735896433326014070847)] .nil 1) = some (.bool true) := by kernel_rfl

theorem store1 (t : Int) : told ((callX Tryz.prog cloneHook 100000 80).call 9 [.int .u64 t, .iface 1000000000000000000000000000000 (.int .i64 2090694862362245919595121747597056921305088)] .nil 1) = some (.bool true) := by kernel_rfl

theorem store2 (t : Int) : told ((callX Tryz.prog cloneHook 100000 80).call 9 [.int .u64 t, .iface 1000000000000000000000000000000 (.int .i64 2090694862362247157461374056682493612916735)] .nil 1) = some (.bool true) := by kernel_rfl
end Go.Proofs.YtcnlhehogkaapaaGreat
end
