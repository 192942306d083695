/- Proved here: of SNobody10, that what the Go functions of this part compute is as their contracts say (texts Ng, Nc), for every input; no condition beyond those that each theorem states. -/
import Derived.Test.YtcnlhehogkaapaaGreatSNobody6
import Derived.Test.YtcnlhehogkaapaaGreatSNobody9
import Derived.Test.YtcnlhehogkaapaaGreatSNobody8
import Derived.Deep.DeepHandedRow
set_option linter.all false
section
/- StoreNobody's call. -/
namespace Go.Proofs.YtcnlhehogkaapaaGreat
open Go Jb Jx
set_option maxRecDepth 100000

theorem store_call0 (t e : Int) (h0 : -9223372036854775808 ≤ e) (h1 : e ≤ 63) (h : Heap) : CallW Tryz.prog 9 [.int .u64 t, .int .i64 e] h fun u _ => u = .bool true := by
  have l0 : lo ((2079805826620775888688735896433326014070847 : Nat) : Int) = -9223372036854775808 := by kernel_rfl
  have u0 : hi ((2079805826620775888688735896433326014070847 : Nat) : Int) = some 63 := by kernel_rfl
  let ρ := mkN 2079805826620775888688735896433326014070847 e (by
    refine ⟨by rw [l0]; omega, fun x hx => ?_⟩
    rw [u0] at hx
    cases hx <;> omega)
  exact runs (ρ := ρ) (store0 t) (fun _ => rfl) (.cons (.int _ _) (.cons (.num _ _ _ _ (by kernel_rfl) (by kernel_rfl)) .nil)) h

theorem store_call1 (t e : Int) (h0 : 64 ≤ e) (h1 : e ≤ 1048576) (h : Heap) : CallW Tryz.prog 9 [.int .u64 t, .int .i64 e] h fun u _ => u = .bool true := by
  have l0 : lo ((2090694862362245919595121747597056921305088 : Nat) : Int) = 64 := by kernel_rfl
  have u0 : hi ((2090694862362245919595121747597056921305088 : Nat) : Int) = some 1048576 := by kernel_rfl
  let ρ := mkN 2090694862362245919595121747597056921305088 e (by
    refine ⟨by rw [l0]; omega, fun x hx => ?_⟩
    rw [u0] at hx
    cases hx <;> omega)
  exact runs (ρ := ρ) (store1 t) (fun _ => rfl) (.cons (.int _ _) (.cons (.num _ _ _ _ (by kernel_rfl) (by kernel_rfl)) .nil)) h

theorem store_call2 (t e : Int) (h0 : 1048577 ≤ e) (h : Heap) : CallW Tryz.prog 9 [.int .u64 t, .int .i64 e] h fun u _ => u = .bool true := by
  have l0 : lo ((2090694862362247157461374056682493612916735 : Nat) : Int) = 1048577 := by kernel_rfl
  have u0 : hi ((2090694862362247157461374056682493612916735 : Nat) : Int) = none := by kernel_rfl
  let ρ := mkN 2090694862362247157461374056682493612916735 e (by
    refine ⟨by rw [l0]; omega, fun x hx => ?_⟩
    rw [u0] at hx
    cases hx <;> omega)
  exact runs (ρ := ρ) (store2 t) (fun _ => rfl) (.cons (.int _ _) (.cons (.num _ _ _ _ (by kernel_rfl) (by kernel_rfl)) .nil)) h

theorem store_call (t e : Int) (he : -9223372036854775808 ≤ e) (h : Heap) : CallW Tryz.prog 9 [.int .u64 t, .int .i64 e] h fun u _ => u = .bool true := by
  by_cases h1 : e ≤ 63
  · exact store_call0 t e he h1 h
  by_cases h2 : e ≤ 1048576
  · exact store_call1 t e (by omega) h2 h
  · exact store_call2 t e (by omega) h
end Go.Proofs.YtcnlhehogkaapaaGreat
end

section
/- What holds of the program as a whole. -/
namespace Go.Proofs.YtcnlhehogkaapaaGreat
open Go Go.ChangeShapes Go.WideShapes Go.ChangeAt Go.RowKit Jb
set_option maxRecDepth 100000
theorem own : ownKnob Tryz.prog.godebug = none := by kernel_rfl
theorem laid : laidOutB Tryz.prog = true := by kernel_rfl
theorem rowed : mapsRowed Tryz.prog = true := by kernel_rfl
end Go.Proofs.YtcnlhehogkaapaaGreat
end
