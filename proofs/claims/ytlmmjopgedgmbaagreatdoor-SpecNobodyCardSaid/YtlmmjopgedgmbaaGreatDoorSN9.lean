/- Proved here: of SN9, that what the Go functions of this part compute is as their contracts say (texts Sa, Sc), for every input; no condition beyond those that each theorem states. -/
import Derived.Test.YtlmmjopgedgmbaaGreatDoorSN8
import Derived.Test.YtlmmjopgedgmbaaGreatDoorRows
import Derived.Test.YtlmmjopgedgmbaaGreatDoorSN7
import Derived.Deep.DeepHandedRow
import Derived.LaidLaws
import Derived.LaidHandle
set_option linter.all false
section
/- SpecNobody, run. -/
namespace Go.Proofs.YtlmmjopgedgmbaaGreatDoor
open Go Jb Jx
set_option maxRecDepth 100000

theorem mix : Tryz.prog.follows .mixedOrders = true := by kernel_rfl
theorem hook_ok : HookOk Tryz.prog (addHook 328) := add_ok Tryz.func328 (by kernel_rfl) (by kernel_rfl) (by kernel_rfl) (by kernel_rfl) (by kernel_rfl)

theorem run3 : told ((callX Tryz.prog (addHook 328) 100000 60).call 3 [.iface 1000000000000000000000000000000 (.sref 1 3484491437270409865866136571722023896612863 0 0 0), .iface 1000000000000000000000000000000 (.int .i64 1393796574908163946347162983661240005427199)] .nil 1) = some (.bool true) := by kernel_rfl

theorem nobody_call (b : List (List V)) (n : Int) (hn : -590295810358705651712 ≤ n) (h : Heap) : CallW Tryz.prog 3 [.sl 1 b .no, .int .i64 n] h fun u _ => u = .bool true := by
  have l0 : lo ((1393796574908163946347162983661240005427199 : Nat) : Int) = -590295810358705651712 := by kernel_rfl
  have u0 : hi ((1393796574908163946347162983661240005427199 : Nat) : Int) = none := by kernel_rfl
  have l1 : lo ((3484491437270409865866136571722023896612863 : Nat) : Int) = 0 := by kernel_rfl
  have u1 : hi ((3484491437270409865866136571722023896612863 : Nat) : Int) = none := by kernel_rfl
  let ρ := mkB [(1393796574908163946347162983661240005427199, n)] [(3484491437270409865866136571722023896612863, b)] (by
    intro p hp
    simp only [List.map_cons, List.map_nil, List.cons_append, List.nil_append, List.mem_cons, List.not_mem_nil, or_false] at hp
    rcases hp with rfl | rfl
    · exact ⟨by rw [l0]; exact hn, fun x hx => by rw [u0] at hx; cases hx⟩
    · exact ⟨by rw [l1]; exact Int.natCast_nonneg _, fun x hx => by rw [u1] at hx; cases hx⟩)
  have hu : unk 1000000000000000000000000000000 = true := by kernel_rfl
  have e0 : ρ.num 1393796574908163946347162983661240005427199 = some n := by kernel_rfl
  have e1 : ρ.num 3484491437270409865866136571722023896612863 = some (b.length : Int) := by kernel_rfl
  have e2 : ρ.sl 3484491437270409865866136571722023896612863 = some (b, .no) := by kernel_rfl
  exact runsOf mix hook_ok (by kernel_rfl) (ρ := ρ) run3 (fun _ => rfl) (.cons (.some_ _ _ _ _ _ _ _ _ hu e2 e1) (.cons (.num _ _ _ _ hu e0) .nil)) h
end Go.Proofs.YtlmmjopgedgmbaaGreatDoor
end

section
/- What holds of the program as a whole; a world where the listed variable reads as the text lays it. -/
namespace Go.Proofs.YtlmmjopgedgmbaaGreatDoor
open Go Go.ChangeShapes Go.WideShapes Go.ChangeAt Go.RowKit Jb
set_option maxRecDepth 100000
theorem own : ownKnob Tryz.prog.godebug = none := by kernel_rfl
theorem laid : laidOutB Tryz.prog = true := by kernel_rfl
theorem rowed : mapsRowed Tryz.prog = true := by kernel_rfl

/-- A world that meets the condition: the settled one, the variable's cell laid. -/
noncomputable def laidWorld (os : Os) : World :=
  let w0 := World.holding Tryz.prog os ⟨#[], #[], []⟩
  { w0 with heap := w0.heap.modify 0 fun
      | .cells _ t frozen => .cells #[.iface 433 (.agg #[.pointer (some ⟨3, 170, none⟩)])] t frozen
      | o => o }
theorem laidWorld_met (os : Os) (args : Array Value) : laidMetH Tryz.prog [("errors.errorType", Rows.laid_errors_errorType)] ((laidWorld os).forCall (fun _ _ => 0) ⟨#[], args, []⟩).memory :=
  laidMetH_of_parts (laidMet_nil _ _) (by kernel_rfl)
end Go.Proofs.YtlmmjopgedgmbaaGreatDoor
end
