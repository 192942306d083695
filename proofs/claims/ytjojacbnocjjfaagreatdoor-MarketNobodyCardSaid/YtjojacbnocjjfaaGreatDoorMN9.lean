/- Proved here: of MN9, that what the Go functions of this part compute is as their contracts say (texts Ma, Mc), for every input; no condition beyond those that each theorem states. -/
import Derived.Test.YtjojacbnocjjfaaGreatDoorMN8
import Derived.Test.YtjojacbnocjjfaaGreatDoorRows
import Derived.Test.YtjojacbnocjjfaaGreatDoorMN7
import Derived.Deep.DeepHandedRow
import Derived.LaidLaws
import Derived.LaidHandle
set_option linter.all false
section
/- MarketNobody, run. -/
namespace Go.Proofs.YtjojacbnocjjfaaGreatDoor
open Go Jb Jx
set_option maxRecDepth 100000

theorem mix : Tryz.prog.follows .mixedOrders = true := by kernel_rfl
theorem hook_ok : HookOk Tryz.prog (addHook 220) := add_ok Tryz.func220 (by kernel_rfl) (by kernel_rfl) (by kernel_rfl) (by kernel_rfl) (by kernel_rfl)

/-- A command, of which the account and the id are looked at. -/
def cmdX : V := .agg [.undef, .undef, .undef, .iface 1000000000000000000000000000000 (.int .i64 1393796574908163946347162983661240005427199), .iface 1000000000000000000000000000000 (.int .u64 2787593149816327892693145375701762599550975),
  .undef, .undef, .undef, .undef, .undef, .undef, .undef, .undef, .undef, .undef, .undef, .undef, .undef, .undef, .undef, .undef, .undef]
def cmdL (a i : Int) : List V := [.undef, .undef, .undef, .int .i64 a, .int .u64 i, .undef, .undef, .undef, .undef, .undef, .undef, .undef, .undef, .undef, .undef, .undef, .undef, .undef, .undef, .undef, .undef, .undef]

theorem run3 : told ((callX Tryz.prog (addHook 220) 100000 60).call 3 [cmdX] .nil 1) = some (.bool true) := by kernel_rfl

theorem nobody_call (a i : Int) (ha : -590295810358705651712 ≤ a) (hi' : -590295810358705651712 ≤ i) (h : Heap) : CallW Tryz.prog 3 [.agg (cmdL a i)] h fun u _ => u = .bool true := by
  have l0 : lo ((1393796574908163946347162983661240005427199 : Nat) : Int) = -590295810358705651712 := by kernel_rfl
  have u0 : hi ((1393796574908163946347162983661240005427199 : Nat) : Int) = none := by kernel_rfl
  have l1 : lo ((2787593149816327892693145375701762599550975 : Nat) : Int) = -590295810358705651712 := by kernel_rfl
  have u1 : hi ((2787593149816327892693145375701762599550975 : Nat) : Int) = none := by kernel_rfl
  let ρ := mkM [(1393796574908163946347162983661240005427199, a), (2787593149816327892693145375701762599550975, i)] (by
    intro p hp
    simp only [List.mem_cons, List.not_mem_nil, or_false] at hp
    rcases hp with rfl | rfl
    · exact ⟨by rw [l0]; exact ha, fun x hx => by rw [u0] at hx; cases hx⟩
    · exact ⟨by rw [l1]; exact hi', fun x hx => by rw [u1] at hx; cases hx⟩)
  have hu : unk 1000000000000000000000000000000 = true := by kernel_rfl
  have e0 : ρ.num 1393796574908163946347162983661240005427199 = some a := by kernel_rfl
  have e1 : ρ.num 2787593149816327892693145375701762599550975 = some i := by kernel_rfl
  have : VR ρ cmdX (.agg (cmdL a i)) := by
    have : VL ρ [.undef, .undef, .undef, .iface 1000000000000000000000000000000 (.int .i64 1393796574908163946347162983661240005427199), .iface 1000000000000000000000000000000 (.int .u64 2787593149816327892693145375701762599550975),
        .undef, .undef, .undef, .undef, .undef, .undef, .undef, .undef, .undef, .undef, .undef, .undef, .undef, .undef, .undef, .undef, .undef] (cmdL a i) :=
      .cons .undef (.cons .undef (.cons .undef (.cons (.num _ _ _ _ hu e0) (.cons (.num _ _ _ _ hu e1) (.cons .undef (.cons .undef (.cons .undef (.cons .undef (.cons .undef (.cons .undef (.cons .undef (.cons .undef (.cons .undef (.cons .undef (.cons .undef (.cons .undef (.cons .undef (.cons .undef (.cons .undef (.cons .undef (.cons .undef .nil)))))))))))))))))))))
    exact .agg _ _ this.1 this.2
  exact runsOf mix hook_ok (by kernel_rfl) (ρ := ρ) run3 (fun _ => rfl) (.cons this .nil) h
end Go.Proofs.YtjojacbnocjjfaaGreatDoor
end

section
/- What holds of the program as a whole; a world where the listed variable reads as the text lays it. -/
namespace Go.Proofs.YtjojacbnocjjfaaGreatDoor
open Go Go.ChangeShapes Go.WideShapes Go.ChangeAt Go.RowKit Jb
set_option maxRecDepth 100000
theorem own : ownKnob Tryz.prog.godebug = none := by kernel_rfl
theorem laid : laidOutB Tryz.prog = true := by kernel_rfl
theorem rowed : mapsRowed Tryz.prog = true := by kernel_rfl

/-- A world that meets the condition: the settled one, the variable's cell laid. -/
noncomputable def laidWorld (os : Os) : World :=
  let w0 := World.holding Tryz.prog os ⟨#[], #[], []⟩
  { w0 with heap := w0.heap.modify 0 fun
      | .cells _ t frozen => .cells #[.iface 295 (.agg #[.pointer (some ⟨3, 76, none⟩)])] t frozen
      | o => o }
theorem laidWorld_met (os : Os) (args : Array Value) : laidMetH Tryz.prog [("errors.errorType", Rows.laid_errors_errorType)] ((laidWorld os).forCall (fun _ _ => 0) ⟨#[], args, []⟩).memory :=
  laidMetH_of_parts (laidMet_nil _ _) (by kernel_rfl)
end Go.Proofs.YtjojacbnocjjfaaGreatDoor
end
