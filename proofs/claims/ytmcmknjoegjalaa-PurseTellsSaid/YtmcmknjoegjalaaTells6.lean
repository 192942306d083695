/- Proved here: of Tells6, that what the Go functions of this part compute is as their contracts say (texts S10, Cp, S3, Cq, JbZ), for every input; no condition beyond those that each theorem states. -/
import Derived.Test.YtmcmknjoegjalaaTells2
import Derived.KernelRfl
import Derived.Test.YtmcmknjoegjalaaProg
import Derived.Test.YtmcmknjoegjalaaTells5
import Derived.WalkKit
import Derived.ProofKit
import Derived.OpenShut
import Derived.ChangeArms
import Derived.WideKeyArgs
import Derived.RowKit3
import Derived.Handed
set_option linter.all false
section
set_option linter.all false
set_option maxRecDepth 100000
open Go Go.Proofs Jb
def f10_cf : Cfg := ⟨[], [(0, [0]), (2, [7, 8, 9, 10, 11]), (3, [12, 13, 14, 15, 16]), (4, [17, 18, 19, 20, 21]), (5, [22, 23, 24, 25, 26]), (6, [27, 28, 29, 30, 31, 32]), (7, [1, 2, 3, 4, 5, 6, 33, 34, 35, 36, 37, 38, 39, 40, 41, 42, 43, 44, 45, 46, 47, 48, 49, 50, 51, 52, 53, 54, 55, 56, 57, 58, 59, 60, 61, 62, 63, 64])]⟩
noncomputable def f10_b : Code := bodyOf Try.f10
noncomputable def f10_n : Code :=  (codeAt [] f10_b)
theorem f10_entry (h : Heap) (K : V → Heap → Prop) : bodyW Try.prog f10_cf Try.f10 [] h K = wpA Try.prog f10_cf f10_n ⟨[V.undef, V.undef, V.undef, V.undef, V.undef, V.undef, V.undef, V.undef, V.undef, V.undef, V.undef, V.undef, V.undef, V.undef, V.undef, V.undef, V.undef, V.undef, V.undef, V.undef, V.undef, V.undef, V.undef, V.undef, V.undef, V.undef, V.undef, V.undef, V.undef, V.undef, V.undef, V.undef, V.undef, V.undef, V.undef, V.undef, V.undef, V.undef, V.undef, V.undef, V.undef, V.undef, V.undef, V.undef, V.undef, V.undef, V.undef, V.undef, V.undef, V.undef, V.undef, V.undef, V.undef, V.undef, V.undef, V.undef, V.undef, V.undef, V.undef, V.undef, V.undef, V.undef, V.undef, V.undef, V.undef], []⟩ h (bodyK Try.prog Try.f10 K) := by kernel_rfl
theorem f10_n_plug : f10_n = (codeAt [] f10_b) := by
  simp only [f10_n, hide_eq]
  try kernel_rfl
theorem f10_n_wp (h : Heap) (Q : Ex → Fr → Heap → Prop) : wpA Try.prog f10_cf f10_n ⟨[V.undef, V.undef, V.undef, V.undef, V.undef, V.undef, V.undef, V.undef, V.undef, V.undef, V.undef, V.undef, V.undef, V.undef, V.undef, V.undef, V.undef, V.undef, V.undef, V.undef, V.undef, V.undef, V.undef, V.undef, V.undef, V.undef, V.undef, V.undef, V.undef, V.undef, V.undef, V.undef, V.undef, V.undef, V.undef, V.undef, V.undef, V.undef, V.undef, V.undef, V.undef, V.undef, V.undef, V.undef, V.undef, V.undef, V.undef, V.undef, V.undef, V.undef, V.undef, V.undef, V.undef, V.undef, V.undef, V.undef, V.undef, V.undef, V.undef, V.undef, V.undef, V.undef, V.undef, V.undef, V.undef], []⟩ h Q =
 (True ∧ ((0 + 49 ≤ 49) ∧ (AnyW Try.prog 29 [(V.agg [(V.int Go.IntKind.i64 (0 : Int)), (V.int Go.IntKind.i64 (0 : Int)), (V.int Go.IntKind.i64 (0 : Int)), (V.int Go.IntKind.i64 (0 : Int)), (V.int Go.IntKind.i64 (0 : Int)), (V.int Go.IntKind.i64 (0 : Int)), (V.int Go.IntKind.i64 (0 : Int)), (V.int Go.IntKind.i64 (0 : Int)), (V.int Go.IntKind.i64 (0 : Int)), (V.int Go.IntKind.i64 (0 : Int)), (V.int Go.IntKind.i64 (0 : Int)), (V.int Go.IntKind.i64 (0 : Int)), (V.int Go.IntKind.i64 (0 : Int)), (V.int Go.IntKind.i64 (0 : Int)), (V.int Go.IntKind.i64 (0 : Int)), (V.int Go.IntKind.i64 (0 : Int)), (V.int Go.IntKind.i64 (0 : Int)), (V.int Go.IntKind.i64 (0 : Int)), (V.int Go.IntKind.i64 (0 : Int)), (V.int Go.IntKind.i64 (0 : Int)), (V.int Go.IntKind.i64 (0 : Int)), (V.int Go.IntKind.i64 (0 : Int)), (V.int Go.IntKind.i64 (0 : Int)), (V.int Go.IntKind.i64 (0 : Int)), (V.int Go.IntKind.i64 (0 : Int)), (V.int Go.IntKind.i64 (0 : Int)), (V.int Go.IntKind.i64 (0 : Int)), (V.int Go.IntKind.i64 (0 : Int)), (V.int Go.IntKind.i64 (0 : Int)), (V.int Go.IntKind.i64 (0 : Int)), (V.int Go.IntKind.i64 (0 : Int)), (V.int Go.IntKind.i64 (0 : Int)), (V.int Go.IntKind.i64 (0 : Int)), (V.int Go.IntKind.i64 (0 : Int)), (V.int Go.IntKind.i64 (0 : Int)), (V.int Go.IntKind.i64 (0 : Int)), (V.int Go.IntKind.i64 (0 : Int)), (V.int Go.IntKind.i64 (0 : Int)), (V.int Go.IntKind.i64 (0 : Int)), (V.int Go.IntKind.i64 (0 : Int)), (V.int Go.IntKind.i64 (0 : Int)), (V.int Go.IntKind.i64 (0 : Int)), (V.int Go.IntKind.i64 (0 : Int)), (V.int Go.IntKind.i64 (0 : Int)), (V.int Go.IntKind.i64 (0 : Int)), (V.int Go.IntKind.i64 (0 : Int)), (V.int Go.IntKind.i64 (0 : Int)), (V.int Go.IntKind.i64 (0 : Int)), (V.int Go.IntKind.i64 (0 : Int))]), (V.int Go.IntKind.i64 (0 : Int)), (V.int Go.IntKind.i64 (1 : Int)), (V.int Go.IntKind.i64 (100 : Int))] h (fun (rz1 : V) (hz2 : Heap) =>
 (V.isTup 2 rz1 = true ∧ ((True ∧ V.isAgg 49 (gv (V.vs rz1) 0) = true) ∧ (let cz3 : List V := (V.cells (gv (V.vs rz1) 0));
 ((True ∧ V.isInt Go.IntKind.i64 (gv (V.vs rz1) 1) = true) ∧ (let iz4 : Int := (V.num (gv (V.vs rz1) 1));
 ((true = true) ∧ ((true = true) ∧ (((List.length cz3) = 49) ∧ 0 + 49 ≤ 49 ∧ (let cz5 : List V := (wrCells [(V.int Go.IntKind.i64 (0 : Int)), (V.int Go.IntKind.i64 (0 : Int)), (V.int Go.IntKind.i64 (0 : Int)), (V.int Go.IntKind.i64 (0 : Int)), (V.int Go.IntKind.i64 (0 : Int)), (V.int Go.IntKind.i64 (0 : Int)), (V.int Go.IntKind.i64 (0 : Int)), (V.int Go.IntKind.i64 (0 : Int)), (V.int Go.IntKind.i64 (0 : Int)), (V.int Go.IntKind.i64 (0 : Int)), (V.int Go.IntKind.i64 (0 : Int)), (V.int Go.IntKind.i64 (0 : Int)), (V.int Go.IntKind.i64 (0 : Int)), (V.int Go.IntKind.i64 (0 : Int)), (V.int Go.IntKind.i64 (0 : Int)), (V.int Go.IntKind.i64 (0 : Int)), (V.int Go.IntKind.i64 (0 : Int)), (V.int Go.IntKind.i64 (0 : Int)), (V.int Go.IntKind.i64 (0 : Int)), (V.int Go.IntKind.i64 (0 : Int)), (V.int Go.IntKind.i64 (0 : Int)), (V.int Go.IntKind.i64 (0 : Int)), (V.int Go.IntKind.i64 (0 : Int)), (V.int Go.IntKind.i64 (0 : Int)), (V.int Go.IntKind.i64 (0 : Int)), (V.int Go.IntKind.i64 (0 : Int)), (V.int Go.IntKind.i64 (0 : Int)), (V.int Go.IntKind.i64 (0 : Int)), (V.int Go.IntKind.i64 (0 : Int)), (V.int Go.IntKind.i64 (0 : Int)), (V.int Go.IntKind.i64 (0 : Int)), (V.int Go.IntKind.i64 (0 : Int)), (V.int Go.IntKind.i64 (0 : Int)), (V.int Go.IntKind.i64 (0 : Int)), (V.int Go.IntKind.i64 (0 : Int)), (V.int Go.IntKind.i64 (0 : Int)), (V.int Go.IntKind.i64 (0 : Int)), (V.int Go.IntKind.i64 (0 : Int)), (V.int Go.IntKind.i64 (0 : Int)), (V.int Go.IntKind.i64 (0 : Int)), (V.int Go.IntKind.i64 (0 : Int)), (V.int Go.IntKind.i64 (0 : Int)), (V.int Go.IntKind.i64 (0 : Int)), (V.int Go.IntKind.i64 (0 : Int)), (V.int Go.IntKind.i64 (0 : Int)), (V.int Go.IntKind.i64 (0 : Int)), (V.int Go.IntKind.i64 (0 : Int)), (V.int Go.IntKind.i64 (0 : Int)), (V.int Go.IntKind.i64 (0 : Int))] 0 cz3);
 ((0 + 49 ≤ (List.length cz5)) ∧ (let cz6 : List V := (List.take 49 (List.drop 0 cz5));
 (AnyW Try.prog 29 [(V.agg cz6), (V.int Go.IntKind.i64 (1 : Int)), (V.int Go.IntKind.i64 (2 : Int)), (V.int Go.IntKind.i64 (5 : Int))] hz2 (fun (rz7 : V) (hz8 : Heap) =>
 (V.isTup 2 rz7 = true ∧ ((True ∧ V.isAgg 49 (gv (V.vs rz7) 0) = true) ∧ (let cz9 : List V := (V.cells (gv (V.vs rz7) 0));
 ((True ∧ V.isInt Go.IntKind.i64 (gv (V.vs rz7) 1) = true) ∧ (let iz10 : Int := (V.num (gv (V.vs rz7) 1));
 ((true = true) ∧ ((true = true) ∧ (((List.length cz9) = 49) ∧ 0 + 49 ≤ (List.length cz5) ∧ ((0 + 49 ≤ (List.length (wrCells cz5 0 cz9))) ∧ (let cz11 : List V := (List.take 49 (List.drop 0 (wrCells cz5 0 cz9)));
 (AnyW Try.prog 30 [(V.agg cz11), (V.int Go.IntKind.i64 (0 : Int)), (V.int Go.IntKind.i64 (1 : Int)), (V.int Go.IntKind.i64 (50 : Int))] hz8 (fun (rz12 : V) (hz13 : Heap) =>
 (V.isTup 2 rz12 = true ∧ ((True ∧ V.isAgg 49 (gv (V.vs rz12) 0) = true) ∧ (let cz14 : List V := (V.cells (gv (V.vs rz12) 0));
 ((True ∧ V.isInt Go.IntKind.i64 (gv (V.vs rz12) 1) = true) ∧ (let iz15 : Int := (V.num (gv (V.vs rz12) 1));
 ((true = true) ∧ ((true = true) ∧ (((List.length cz14) = 49) ∧ 0 + 49 ≤ (List.length (wrCells cz5 0 cz9)) ∧ (let cz16 : List V := (wrCells (wrCells cz5 0 cz9) 0 cz14);
 ((0 + 49 ≤ (List.length cz16)) ∧ (let cz17 : List V := (List.take 49 (List.drop 0 cz16));
 (AnyW Try.prog 30 [(V.agg cz17), (V.int Go.IntKind.i64 (1 : Int)), (V.int Go.IntKind.i64 (2 : Int)), (V.int Go.IntKind.i64 (5 : Int))] hz13 (fun (rz18 : V) (hz19 : Heap) =>
 (V.isTup 2 rz18 = true ∧ ((True ∧ V.isAgg 49 (gv (V.vs rz18) 0) = true) ∧ (let cz20 : List V := (V.cells (gv (V.vs rz18) 0));
 ((True ∧ V.isInt Go.IntKind.i64 (gv (V.vs rz18) 1) = true) ∧ (let iz21 : Int := (V.num (gv (V.vs rz18) 1));
 ((true = true) ∧ ((true = true) ∧ (((List.length cz20) = 49) ∧ 0 + 49 ≤ (List.length cz16) ∧ ((0 + 49 ≤ (List.length (wrCells cz16 0 cz20))) ∧ (let cz22 : List V := (List.take 49 (List.drop 0 (wrCells cz16 0 cz20)));
 ((True ∧ (True ∧ (True ∧ (True ∧ (True ∧ (True ∧ True)))))) ∧ (AnyW Try.prog 31 [(V.agg cz22), (V.agg [(V.int Go.IntKind.i64 (0 : Int)), (V.int Go.IntKind.i64 (1 : Int)), (V.int Go.IntKind.i64 (40 : Int)), (V.int Go.IntKind.i64 (5 : Int)), (V.int Go.IntKind.i64 (50 : Int)), (V.int Go.IntKind.i64 (5 : Int)), (V.int Go.IntKind.i64 (0 : Int)), (V.int Go.IntKind.i64 (0 : Int))])] hz19 (fun (rz23 : V) (hz24 : Heap) =>
 (V.isTup 2 rz23 = true ∧ ((True ∧ V.isAgg 49 (gv (V.vs rz23) 0) = true) ∧ (let cz25 : List V := (V.cells (gv (V.vs rz23) 0));
 ((True ∧ V.isInt Go.IntKind.i64 (gv (V.vs rz23) 1) = true) ∧ (let iz26 : Int := (V.num (gv (V.vs rz23) 1));
 ((true = true) ∧ ((true = true) ∧ (((List.length cz25) = 49) ∧ 0 + 49 ≤ (List.length (wrCells cz16 0 cz20)) ∧ (let cz27 : List V := (wrCells (wrCells cz16 0 cz20) 0 cz25);
 (((iz4 == (0 : Int)) = true → (iz4 == (0 : Int)) = true) ∧ ((((iz4 == (0 : Int)) = true → (iz4 == (0 : Int)) = true) ∧ True) ∧ (let bz28 : Bool := (cond (iz4 == (0 : Int)) (iz10 == (0 : Int)) false);
 ((bz28 = true → bz28 = true) ∧ (((bz28 = true → bz28 = true) ∧ True) ∧ (let bz29 : Bool := (cond bz28 (iz15 == (0 : Int)) false);
 ((bz29 = true → bz29 = true) ∧ (((bz29 = true → bz29 = true) ∧ True) ∧ (let bz30 : Bool := (cond bz29 (iz21 == (0 : Int)) false);
 ((bz30 = true → bz30 = true) ∧ (((bz30 = true → bz30 = true) ∧ True) ∧ (let bz31 : Bool := (cond bz30 (iz26 == (0 : Int)) false);
 ((bz31 = true → bz31 = true) ∧ ((bz31 = true → (0 ≤ (0 : Int) ∧ (0 : Int) < 8)) ∧ ((bz31 = true → bz31 = true) ∧ ((bz31 = true → (0 + 6 ≤ (List.length cz27))) ∧ (let cz32 : List V := (List.take 6 (List.drop 0 cz27));
 ((bz31 = true → (True ∧ (True ∧ (True ∧ True)))) ∧ ((bz31 = true → bz31 = true) ∧ ((bz31 = true → bz31 = true) ∧ ((bz31 = true → (fits [(V.int Go.IntKind.i64 (0 : Int)), (V.int Go.IntKind.i64 (0 : Int)), (V.int Go.IntKind.i64 (0 : Int)), (V.int Go.IntKind.i64 (0 : Int)), (V.int Go.IntKind.i64 (0 : Int)), (V.int Go.IntKind.i64 (0 : Int))] cz32 = true ∧ fits [(V.int Go.IntKind.i64 (0 : Int)), (V.int Go.IntKind.i64 (0 : Int)), (V.int Go.IntKind.i64 (0 : Int)), (V.int Go.IntKind.i64 (0 : Int)), (V.int Go.IntKind.i64 (0 : Int)), (V.int Go.IntKind.i64 (0 : Int))] [(V.int Go.IntKind.i64 (60 : Int)), (V.int Go.IntKind.i64 (5 : Int)), (V.int Go.IntKind.i64 (0 : Int)), (V.int Go.IntKind.i64 (0 : Int)), (V.int Go.IntKind.i64 (0 : Int)), (V.int Go.IntKind.i64 (40 : Int))] = true)) ∧ (let bz33 : Bool := (eqlCells cz32 [(V.int Go.IntKind.i64 (60 : Int)), (V.int Go.IntKind.i64 (5 : Int)), (V.int Go.IntKind.i64 (0 : Int)), (V.int Go.IntKind.i64 (0 : Int)), (V.int Go.IntKind.i64 (0 : Int)), (V.int Go.IntKind.i64 (40 : Int))]);
 (((bz31 = true → bz31 = true) ∧ True) ∧ (((cond bz31 bz33 false) = true → (cond bz31 bz33 false) = true) ∧ (((cond bz31 bz33 false) = true → (0 ≤ (1 : Int) ∧ (1 : Int) < 8)) ∧ (((cond bz31 bz33 false) = true → (cond bz31 bz33 false) = true) ∧ (((cond bz31 bz33 false) = true → (6 + 6 ≤ (List.length cz27))) ∧ (let cz34 : List V := (List.take 6 (List.drop 6 cz27));
 (((cond bz31 bz33 false) = true → (True ∧ (True ∧ True))) ∧ (((cond bz31 bz33 false) = true → (cond bz31 bz33 false) = true) ∧ (((cond bz31 bz33 false) = true → (cond bz31 bz33 false) = true) ∧ (((cond bz31 bz33 false) = true → (fits [(V.int Go.IntKind.i64 (0 : Int)), (V.int Go.IntKind.i64 (0 : Int)), (V.int Go.IntKind.i64 (0 : Int)), (V.int Go.IntKind.i64 (0 : Int)), (V.int Go.IntKind.i64 (0 : Int)), (V.int Go.IntKind.i64 (0 : Int))] cz34 = true ∧ fits [(V.int Go.IntKind.i64 (0 : Int)), (V.int Go.IntKind.i64 (0 : Int)), (V.int Go.IntKind.i64 (0 : Int)), (V.int Go.IntKind.i64 (0 : Int)), (V.int Go.IntKind.i64 (0 : Int)), (V.int Go.IntKind.i64 (0 : Int))] [(V.int Go.IntKind.i64 (40 : Int)), (V.int Go.IntKind.i64 (0 : Int)), (V.int Go.IntKind.i64 (0 : Int)), (V.int Go.IntKind.i64 (0 : Int)), (V.int Go.IntKind.i64 (0 : Int)), (V.int Go.IntKind.i64 (40 : Int))] = true)) ∧ (let bz35 : Bool := (eqlCells cz34 [(V.int Go.IntKind.i64 (40 : Int)), (V.int Go.IntKind.i64 (0 : Int)), (V.int Go.IntKind.i64 (0 : Int)), (V.int Go.IntKind.i64 (0 : Int)), (V.int Go.IntKind.i64 (0 : Int)), (V.int Go.IntKind.i64 (40 : Int))]);
 ((((cond bz31 bz33 false) = true → (cond bz31 bz33 false) = true) ∧ True) ∧ (let bz36 : Bool := (cond (cond bz31 bz33 false) bz35 false);
 (Q Ex.ret ⟨[(V.bool bz36), V.undef, V.undef, V.undef, V.undef, V.undef, V.undef, V.undef, V.undef, V.undef, V.undef, V.undef, V.undef, V.undef, V.undef, V.undef, V.undef, V.undef, V.undef, V.undef, V.undef, V.undef, V.undef, V.undef, V.undef, V.undef, V.undef, V.undef, V.undef, V.undef, V.undef, V.undef, V.undef, V.undef, V.undef, V.undef, V.undef, V.undef, V.undef, V.undef, V.undef, V.undef, V.undef, V.undef, V.undef, V.undef, V.undef, V.undef, V.undef, V.undef, V.undef, V.undef, V.undef, V.undef, V.undef, V.undef, V.undef, V.undef, V.undef, V.undef, V.undef, V.undef, V.undef, V.undef, V.undef], []⟩ hz24)))))))))))))))))))))))))))))))))))))))))))))))))))))))))))))))))))))))))))))))))))))))))))))))))))) := wpA_at f10_n_plug (by kernel_rfl)
theorem f10_end1 (b0 : Bool) (h : Heap) (K : V → Heap → Prop) : bodyK Try.prog Try.f10 K Ex.ret ⟨[(V.bool b0), V.undef, V.undef, V.undef, V.undef, V.undef, V.undef, V.undef, V.undef, V.undef, V.undef, V.undef, V.undef, V.undef, V.undef, V.undef, V.undef, V.undef, V.undef, V.undef, V.undef, V.undef, V.undef, V.undef, V.undef, V.undef, V.undef, V.undef, V.undef, V.undef, V.undef, V.undef, V.undef, V.undef, V.undef, V.undef, V.undef, V.undef, V.undef, V.undef, V.undef, V.undef, V.undef, V.undef, V.undef, V.undef, V.undef, V.undef, V.undef, V.undef, V.undef, V.undef, V.undef, V.undef, V.undef, V.undef, V.undef, V.undef, V.undef, V.undef, V.undef, V.undef, V.undef, V.undef, V.undef], []⟩ h = (K (V.bool b0) h) := by kernel_rfl
end

section
open Go Go.Proofs Jb
set_option linter.unusedSimpArgs false
set_option maxRecDepth 8000

theorem e29 : enters Try.prog 29 = true := by kernel_rfl
theorem e30 : enters Try.prog 30 = true := by kernel_rfl
theorem e31 : enters Try.prog 31 = true := by kernel_rfl
theorem e7 : enters Try.prog 7 = true := by kernel_rfl
theorem e10 : enters Try.prog 10 = true := by kernel_rfl

theorem nilT : [(V.int Go.IntKind.i64 (0 : Int)), (V.int Go.IntKind.i64 (0 : Int)), (V.int Go.IntKind.i64 (0 : Int)), (V.int Go.IntKind.i64 (0 : Int)), (V.int Go.IntKind.i64 (0 : Int)), (V.int Go.IntKind.i64 (0 : Int)), (V.int Go.IntKind.i64 (0 : Int)), (V.int Go.IntKind.i64 (0 : Int)), (V.int Go.IntKind.i64 (0 : Int)), (V.int Go.IntKind.i64 (0 : Int)), (V.int Go.IntKind.i64 (0 : Int)), (V.int Go.IntKind.i64 (0 : Int)), (V.int Go.IntKind.i64 (0 : Int)), (V.int Go.IntKind.i64 (0 : Int)), (V.int Go.IntKind.i64 (0 : Int)), (V.int Go.IntKind.i64 (0 : Int)), (V.int Go.IntKind.i64 (0 : Int)), (V.int Go.IntKind.i64 (0 : Int)), (V.int Go.IntKind.i64 (0 : Int)), (V.int Go.IntKind.i64 (0 : Int)), (V.int Go.IntKind.i64 (0 : Int)), (V.int Go.IntKind.i64 (0 : Int)), (V.int Go.IntKind.i64 (0 : Int)), (V.int Go.IntKind.i64 (0 : Int)), (V.int Go.IntKind.i64 (0 : Int)), (V.int Go.IntKind.i64 (0 : Int)), (V.int Go.IntKind.i64 (0 : Int)), (V.int Go.IntKind.i64 (0 : Int)), (V.int Go.IntKind.i64 (0 : Int)), (V.int Go.IntKind.i64 (0 : Int)), (V.int Go.IntKind.i64 (0 : Int)), (V.int Go.IntKind.i64 (0 : Int)), (V.int Go.IntKind.i64 (0 : Int)), (V.int Go.IntKind.i64 (0 : Int)), (V.int Go.IntKind.i64 (0 : Int)), (V.int Go.IntKind.i64 (0 : Int)), (V.int Go.IntKind.i64 (0 : Int)), (V.int Go.IntKind.i64 (0 : Int)), (V.int Go.IntKind.i64 (0 : Int)), (V.int Go.IntKind.i64 (0 : Int)), (V.int Go.IntKind.i64 (0 : Int)), (V.int Go.IntKind.i64 (0 : Int)), (V.int Go.IntKind.i64 (0 : Int)), (V.int Go.IntKind.i64 (0 : Int)), (V.int Go.IntKind.i64 (0 : Int)), (V.int Go.IntKind.i64 (0 : Int)), (V.int Go.IntKind.i64 (0 : Int)), (V.int Go.IntKind.i64 (0 : Int)), (V.int Go.IntKind.i64 (0 : Int))] = ints (List.replicate 49 0) := rfl

theorem nilH (n : Int) : [(V.int Go.IntKind.i64 (0 : Int)), (V.int Go.IntKind.i64 (0 : Int)), (V.int Go.IntKind.i64 (0 : Int)), (V.int Go.IntKind.i64 (0 : Int)), (V.int Go.IntKind.i64 (0 : Int)), (V.int Go.IntKind.i64 (0 : Int)), (V.int Go.IntKind.i64 (0 : Int)), (V.int Go.IntKind.i64 (0 : Int)), (V.int Go.IntKind.i64 (0 : Int)), (V.int Go.IntKind.i64 (0 : Int)), (V.int Go.IntKind.i64 (0 : Int)), (V.int Go.IntKind.i64 (0 : Int)), (V.int Go.IntKind.i64 (0 : Int)), (V.int Go.IntKind.i64 (0 : Int)), (V.int Go.IntKind.i64 (0 : Int)), (V.int Go.IntKind.i64 (0 : Int)), (V.int Go.IntKind.i64 (0 : Int)), (V.int Go.IntKind.i64 (0 : Int)), (V.int Go.IntKind.i64 (0 : Int)), (V.int Go.IntKind.i64 (0 : Int)), (V.int Go.IntKind.i64 (0 : Int)), (V.int Go.IntKind.i64 (0 : Int)), (V.int Go.IntKind.i64 (0 : Int)), (V.int Go.IntKind.i64 (0 : Int)), (V.int Go.IntKind.i64 (0 : Int)), (V.int Go.IntKind.i64 (0 : Int)), (V.int Go.IntKind.i64 (0 : Int)), (V.int Go.IntKind.i64 (0 : Int)), (V.int Go.IntKind.i64 (0 : Int)), (V.int Go.IntKind.i64 (0 : Int)), (V.int Go.IntKind.i64 (0 : Int)), (V.int Go.IntKind.i64 (0 : Int)), (V.int Go.IntKind.i64 (0 : Int)), (V.int Go.IntKind.i64 (0 : Int)), (V.int Go.IntKind.i64 (0 : Int)), (V.int Go.IntKind.i64 (0 : Int)), (V.int Go.IntKind.i64 (0 : Int)), (V.int Go.IntKind.i64 (0 : Int)), (V.int Go.IntKind.i64 (0 : Int)), (V.int Go.IntKind.i64 (0 : Int)), (V.int Go.IntKind.i64 (0 : Int)), (V.int Go.IntKind.i64 (0 : Int)), (V.int Go.IntKind.i64 (0 : Int)), (V.int Go.IntKind.i64 (0 : Int)), (V.int Go.IntKind.i64 (0 : Int)), (V.int Go.IntKind.i64 (0 : Int)), (V.int Go.IntKind.i64 (0 : Int)), (V.int Go.IntKind.i64 (0 : Int)), (V.int Go.IntKind.i64 n)] = ints (List.replicate 48 0 ++ [n]) := rfl

/-- The till's copy behind so many rounds. -/
def copy (t : List Int) (i : Nat) : List Int := t.take (i * 6) ++ (List.replicate (48 - i * 6) 0 ++ [gi t 48])
theorem copy_len {t : List Int} (ht : t.length = 49) {i : Nat} (hi : i ≤ 8) : (copy t i).length = 49 := by simp [copy, ht]; omega
theorem plain_step (t : List Int) (ht : t.length = 49) {i : Nat} (hi : i < 8) : wrCells (ints (copy t i)) (i * 6) (ints (purse t i)) = ints (copy t (i + 1)) := by
  have hp := purse_len ht hi
  rw [ints_wr]
  congr 1
  have l1 : (t.take (i * 6)).length = i * 6 := by simp [ht]; omega
  unfold copy
  rw [List.take_append_of_le_length (by omega), List.take_of_length_le (by omega), hp, List.drop_append, List.drop_of_length_le (by omega), l1, List.nil_append, List.drop_append, List.drop_replicate]
  have e : t.take ((i + 1) * 6) = t.take (i * 6) ++ purse t i := by
    rw [purse, Nat.add_mul, Nat.one_mul, List.take_add]
  rw [e, show 48 - i * 6 - (i * 6 + 6 - i * 6) = 48 - (i + 1) * 6 from by omega, List.length_replicate, show i * 6 + 6 - i * 6 - (48 - i * 6) = 0 from by omega, List.drop_zero]
theorem copy_all {t : List Int} (ht : t.length = 49) : copy t 8 = t := by
  have : t = t.take 48 ++ [gi t 48] := by rw [← take_next t (by omega), List.take_of_length_le (by omega)]
  conv => rhs; rw [this]
  simp [copy]

theorem Plain_call (t : List Int) (ht : t.length = 49) (h : Heap) : CallW Try.prog 7 [.agg (ints t)] h (fun r h' => r = .agg (ints t) ∧ h' = h) := by
  refine CallW.body mix f7_cf Try.func7 (by rw [Try.ntmps7]; simp) ?_
  rw [f7_entry, f7_n_wp]
  refine ⟨by simp [ht], trivial, trivial, by simp [ht], trivial, by omega, ?_⟩
  rw [ints_num, nilT, nilH, f7_n111_eq, wpA_seq, f7_n1110_wp, f7_n111010_eq]
  refine wpA_loop (σ := Nat) (fun i => f7_n1110100_F i (ints t) (ints (List.replicate 49 0)) (ints (copy t i))) (fun _ => h) (fun i => 8 - i) (fun i => i ≤ 8) 0 rfl rfl (by omega) ?_
  intro i hi
  simp only [f7_n1110100_F]
  rw [f7_n1110100_wp]
  by_cases hlt : i < 8
  · have hp := purse_len ht hlt
    simp only [show ((i : Int) < 8) from by omega, decide_true, brW_true, Int.toNat_natCast, Nat.zero_add, ints_drop, ints_take, purse_at, ints_len, hp, ht, plain_step t ht hlt, copy_len ht hi, true_and, and_true, wrap_up i (by omega), seqK_normal]
    exact ⟨by omega, by omega, by omega, by omega, i + 1, rfl, by omega, by omega⟩
  · obtain rfl : i = 8 := by omega
    simp only [show ¬ (((8 : Nat) : Int) < 8) from by omega, decide_false, brW_false, seqK_exit, blockK_exit, if_true, seqK_normal, f7_n1111_wp, copy_all ht]
    simp [ht, take_all, wr_all, f7_end1]
theorem Plain_any {t : List Int} (ht : t.length = 49) {h : Heap} {K : V → Heap → Prop} (m : K (.agg (ints t)) h) : AnyW Try.prog 7 [.agg (ints t)] h K := AnyW.eq e7 (Plain_call t ht h) m

/-! The chapter's example. -/
def z0 : List Int := List.replicate 49 0
def z1 : List Int := z0.set 0 100
def z2 : List Int := z1.set 7 5
def z3 : List Int := z2.set 2 50
def z4 : List Int := z3.set 9 5
def zd : List Int := [0, 1, 40, 5, 50, 5, 0, 0]
def z5 : List Int := [60, 5, 0, 0, 0, 40, 40, 0, 0, 0, 0, 40] ++ List.replicate 37 0
theorem d1 : deposit z0 0 1 100 = (z1, 0) := by kernel_rfl
theorem d2 : deposit z1 1 2 5 = (z2, 0) := by kernel_rfl
theorem d3 : hold z2 0 1 50 = (z3, 0) := by kernel_rfl
theorem d4 : hold z3 1 2 5 = (z4, 0) := by kernel_rfl
theorem d5 : tradeT z4 zd = (z5, 0) := by kernel_rfl
theorem fits_of {t : List Int} (h : (decide (t.length = 49) && t.all fun n => decide (-9223372036854775808 ≤ n) && decide (n ≤ 9223372036854775807)) = true) : Fits t := by
  simp only [Bool.and_eq_true, decide_eq_true_eq, List.all_eq_true] at h
  exact ⟨h.1, fun n hn => h.2 n hn⟩

theorem lives_call (h : Heap) : CallW Try.prog 10 [] h (fun r h' => r = .bool true ∧ h' = h) := by
  refine CallW.body mix f10_cf Try.func10 (by rw [Try.ntmps10]; simp) ?_
  rw [f10_entry, f10_n_wp, nilT]
  have l0 : z0.length = 49 := rfl
  have l1 : z1.length = 49 := rfl
  have l2 : z2.length = 49 := rfl
  have l3 : z3.length = 49 := rfl
  have l4 : z4.length = 49 := rfl
  have l5 : z5.length = 49 := rfl
  have w1 : ∀ (m l : List Int), m.length = 49 → l.length = 49 → wrCells (ints m) 0 (ints l) = ints l := fun m l a b => wr_all l (by simp [a]) b
  refine ⟨trivial, by simp, AnyW.eq e29 (deposit_call z0 (fits_of (by decide)) 0 1 100 h) ?_⟩
  rw [d1, show List.replicate 49 (0 : Int) = z0 from rfl]
  simp only [isTup_tup, vs_tup, gv_zero, gv_succ, isInt_i64, num_int, cells_agg, isAgg_agg, true_and, List.length_cons, List.length_nil, decide_true, ints_len, l0, l1, w1 z0 z1 l0 l1, List.drop_zero, take_all l1]
  refine ⟨by simp, by simp, AnyW.eq e29 (deposit_call z1 (fits_of (by decide)) 1 2 5 h) ?_⟩
  rw [d2]
  simp only [isTup_tup, vs_tup, gv_zero, gv_succ, isInt_i64, num_int, cells_agg, isAgg_agg, true_and, List.length_cons, List.length_nil, decide_true, ints_len, l1, l2, w1 z1 z2 l1 l2, List.drop_zero, take_all l2]
  refine ⟨by simp, by simp, AnyW.eq e30 (hold_call z2 l2 0 1 50 h) ?_⟩
  rw [d3]
  simp only [isTup_tup, vs_tup, gv_zero, gv_succ, isInt_i64, num_int, cells_agg, isAgg_agg, true_and, List.length_cons, List.length_nil, decide_true, ints_len, l2, l3, w1 z2 z3 l2 l3, List.drop_zero, take_all l3]
  refine ⟨by simp, by simp, AnyW.eq e30 (hold_call z3 l3 1 2 5 h) ?_⟩
  rw [d4]
  simp only [isTup_tup, vs_tup, gv_zero, gv_succ, isInt_i64, num_int, cells_agg, isAgg_agg, true_and, List.length_cons, List.length_nil, decide_true, ints_len, l3, l4, w1 z3 z4 l3 l4, List.drop_zero, take_all l4]
  refine ⟨by simp, by simp, AnyW.eq e31 (trade_call z4 zd l4 rfl h) ?_⟩
  rw [d5]
  simp only [isTup_tup, vs_tup, gv_zero, gv_succ, isInt_i64, num_int, cells_agg, isAgg_agg, true_and, List.length_cons, List.length_nil, decide_true, ints_len, l4, l5, w1 z4 z5 l4 l5, List.drop_zero, take_all l5]
  have p1 : List.take 6 (ints z5) = ints [60, 5, 0, 0, 0, 40] := rfl
  have p2 : List.take 6 (List.drop 6 (ints z5)) = ints [40, 0, 0, 0, 0, 40] := rfl
  simp [p1, p2, l5, fits, eqlCells, eqlCell, kindEq, f10_end1]
theorem lives_any {h : Heap} {K : V → Heap → Prop} (m : K (.bool true) h) : AnyW Try.prog 10 [] h K := AnyW.eq e10 (lives_call h) m
end

section
set_option linter.all false
set_option maxRecDepth 100000
open Go Go.Proofs Jb
def f3_cf : Cfg := ⟨[], [(0, [0, 6]), (1, [12, 13]), (2, [14, 15, 16, 17]), (3, [1, 2, 3, 7, 18]), (4, [18, 19, 20]), (5, [1, 2, 3, 7, 21, 22]), (6, [21, 23, 24, 25, 26, 27]), (7, [28, 29, 30, 31, 32]), (8, [1, 2, 3, 7, 8, 9, 10, 11, 33, 34, 35, 36, 37, 38, 39, 40, 41, 42, 43, 44, 45, 46, 47, 48, 49, 50, 51, 52, 53, 54])]⟩
noncomputable def f3_b : Code := bodyOf Try.f3
noncomputable def f3_n : Code :=  (codeAt [] f3_b)
noncomputable def f3_n111111 : Code := hide (codeAt [1, 1, 1, 1, 1, 1] f3_b)
noncomputable def f3_n1111110 : Code := hide (codeAt [1, 1, 1, 1, 1, 1, 0] f3_b)
noncomputable def f3_n1111111 : Code := hide (codeAt [1, 1, 1, 1, 1, 1, 1] f3_b)
theorem f3_entry (t : List Int) (x : Int) (s : Int) (h : Heap) (K : V → Heap → Prop) : bodyW Try.prog f3_cf Try.f3 [(V.agg (ints t)), (V.int Go.IntKind.i64 x), (V.int Go.IntKind.i64 s)] h K = wpA Try.prog f3_cf f3_n ⟨[(V.agg (ints t)), (V.int Go.IntKind.i64 x), (V.int Go.IntKind.i64 s), V.undef, V.undef, V.undef, V.undef, V.undef, V.undef, V.undef, V.undef, V.undef, V.undef, V.undef, V.undef, V.undef, V.undef, V.undef, V.undef, V.undef, V.undef, V.undef, V.undef, V.undef, V.undef, V.undef, V.undef, V.undef, V.undef, V.undef, V.undef, V.undef, V.undef, V.undef, V.undef, V.undef, V.undef, V.undef, V.undef, V.undef, V.undef, V.undef, V.undef, V.undef, V.undef, V.undef, V.undef, V.undef, V.undef, V.undef, V.undef, V.undef, V.undef, V.undef, V.undef], []⟩ h (bodyK Try.prog Try.f3 K) := by kernel_rfl
theorem f3_n_plug : f3_n = (plug [1, 1, 1, 1, 1, 1] (codeAt [] f3_b) f3_n111111) := by
  simp only [f3_n, f3_n111111, hide_eq]
  try kernel_rfl
theorem f3_n_wp (t : List Int) (x : Int) (s : Int) (h : Heap) (Q : Ex → Fr → Heap → Prop) : wpA Try.prog f3_cf f3_n ⟨[(V.agg (ints t)), (V.int Go.IntKind.i64 x), (V.int Go.IntKind.i64 s), V.undef, V.undef, V.undef, V.undef, V.undef, V.undef, V.undef, V.undef, V.undef, V.undef, V.undef, V.undef, V.undef, V.undef, V.undef, V.undef, V.undef, V.undef, V.undef, V.undef, V.undef, V.undef, V.undef, V.undef, V.undef, V.undef, V.undef, V.undef, V.undef, V.undef, V.undef, V.undef, V.undef, V.undef, V.undef, V.undef, V.undef, V.undef, V.undef, V.undef, V.undef, V.undef, V.undef, V.undef, V.undef, V.undef, V.undef, V.undef, V.undef, V.undef, V.undef, V.undef], []⟩ h Q =
 (((List.length (ints t)) = 49) ∧ ((0 + 49 ≤ (List.length (ints t))) ∧ (let cz1 : List V := (List.take 49 (List.drop 0 (ints t)));
 (AnyW Try.prog 7 [(V.agg cz1)] h (fun (rz2 : V) (hz3 : Heap) =>
 ((True ∧ V.isAgg 49 rz2 = true) ∧ (True ∧ (((List.length (V.cells rz2)) = 49) ∧ 0 + 49 ≤ 49 ∧ (let cz4 : List V := (wrCells [(V.int Go.IntKind.i64 (0 : Int)), (V.int Go.IntKind.i64 (0 : Int)), (V.int Go.IntKind.i64 (0 : Int)), (V.int Go.IntKind.i64 (0 : Int)), (V.int Go.IntKind.i64 (0 : Int)), (V.int Go.IntKind.i64 (0 : Int)), (V.int Go.IntKind.i64 (0 : Int)), (V.int Go.IntKind.i64 (0 : Int)), (V.int Go.IntKind.i64 (0 : Int)), (V.int Go.IntKind.i64 (0 : Int)), (V.int Go.IntKind.i64 (0 : Int)), (V.int Go.IntKind.i64 (0 : Int)), (V.int Go.IntKind.i64 (0 : Int)), (V.int Go.IntKind.i64 (0 : Int)), (V.int Go.IntKind.i64 (0 : Int)), (V.int Go.IntKind.i64 (0 : Int)), (V.int Go.IntKind.i64 (0 : Int)), (V.int Go.IntKind.i64 (0 : Int)), (V.int Go.IntKind.i64 (0 : Int)), (V.int Go.IntKind.i64 (0 : Int)), (V.int Go.IntKind.i64 (0 : Int)), (V.int Go.IntKind.i64 (0 : Int)), (V.int Go.IntKind.i64 (0 : Int)), (V.int Go.IntKind.i64 (0 : Int)), (V.int Go.IntKind.i64 (0 : Int)), (V.int Go.IntKind.i64 (0 : Int)), (V.int Go.IntKind.i64 (0 : Int)), (V.int Go.IntKind.i64 (0 : Int)), (V.int Go.IntKind.i64 (0 : Int)), (V.int Go.IntKind.i64 (0 : Int)), (V.int Go.IntKind.i64 (0 : Int)), (V.int Go.IntKind.i64 (0 : Int)), (V.int Go.IntKind.i64 (0 : Int)), (V.int Go.IntKind.i64 (0 : Int)), (V.int Go.IntKind.i64 (0 : Int)), (V.int Go.IntKind.i64 (0 : Int)), (V.int Go.IntKind.i64 (0 : Int)), (V.int Go.IntKind.i64 (0 : Int)), (V.int Go.IntKind.i64 (0 : Int)), (V.int Go.IntKind.i64 (0 : Int)), (V.int Go.IntKind.i64 (0 : Int)), (V.int Go.IntKind.i64 (0 : Int)), (V.int Go.IntKind.i64 (0 : Int)), (V.int Go.IntKind.i64 (0 : Int)), (V.int Go.IntKind.i64 (0 : Int)), (V.int Go.IntKind.i64 (0 : Int)), (V.int Go.IntKind.i64 (0 : Int)), (V.int Go.IntKind.i64 (0 : Int)), (V.int Go.IntKind.i64 (0 : Int))] 0 (V.cells rz2));
 ((0 + 49 ≤ (List.length (ints t))) ∧ (let cz5 : List V := (List.take 49 (List.drop 0 (ints t)));
 ((0 + 49 ≤ (List.length cz4)) ∧ (let cz6 : List V := (List.take 49 (List.drop 0 cz4));
 (AnyW Try.prog 8 [(V.agg cz5)] hz3 (fun (rz7 : V) (hz8 : Heap) =>
 ((True ∧ V.isBool rz7 = true) ∧ (((0 + 49 ≤ (List.length cz4)) ∧ (V.agg (List.take 49 (List.drop 0 cz4))) = (V.agg cz6)) ∧ (AnyW Try.prog 9 [(V.agg cz6)] hz8 (fun (rz9 : V) (hz10 : Heap) =>
 ((True ∧ V.isBool rz9 = true) ∧ (let bz11 : Bool := (!((V.flag rz7) == (V.flag rz9)));
 (brW bz11
 (Q Ex.ret ⟨[V.undef, V.undef, V.undef, V.undef, V.undef, V.undef, (V.bool false), V.undef, V.undef, V.undef, V.undef, V.undef, V.undef, V.undef, V.undef, V.undef, V.undef, V.undef, V.undef, V.undef, V.undef, V.undef, V.undef, V.undef, V.undef, V.undef, V.undef, V.undef, V.undef, V.undef, V.undef, V.undef, V.undef, V.undef, V.undef, V.undef, V.undef, V.undef, V.undef, V.undef, V.undef, V.undef, V.undef, V.undef, V.undef, V.undef, V.undef, V.undef, V.undef, V.undef, V.undef, V.undef, V.undef, V.undef, V.undef], []⟩ hz10)
 ((0 + 49 ≤ (List.length cz4)) ∧ (let cz12 : List V := (List.take 49 (List.drop 0 cz4));
 (AnyW Try.prog 9 [(V.agg cz12)] hz10 (fun (rz13 : V) (hz14 : Heap) =>
 ((True ∧ V.isBool rz13 = true) ∧ (brW (!(V.flag rz13))
 (AnyW Try.prog 10 [] hz14 (fun (rz15 : V) (hz16 : Heap) =>
 ((True ∧ V.isBool rz15 = true) ∧ (Q Ex.ret ⟨[V.undef, V.undef, V.undef, V.undef, V.undef, V.undef, (V.bool (V.flag rz15)), V.undef, V.undef, V.undef, V.undef, V.undef, V.undef, V.undef, V.undef, V.undef, V.undef, V.undef, V.undef, V.undef, V.undef, V.undef, V.undef, V.undef, V.undef, V.undef, V.undef, V.undef, V.undef, V.undef, V.undef, V.undef, V.undef, V.undef, V.undef, V.undef, V.undef, V.undef, V.undef, V.undef, V.undef, V.undef, V.undef, V.undef, V.undef, V.undef, V.undef, V.undef, V.undef, V.undef, V.undef, V.undef, V.undef, V.undef, V.undef], []⟩ hz16))))
 ((0 + 49 ≤ (List.length (ints t))) ∧ (let cz17 : List V := (List.take 49 (List.drop 0 (ints t)));
 (AnyW Try.prog 11 [(V.agg cz17)] hz14 (fun (rz18 : V) (hz19 : Heap) =>
 (V.isTup 2 rz18 = true ∧ ((True ∧ V.isInt Go.IntKind.i64 (gv (V.vs rz18) 0) = true) ∧ (let iz20 : Int := (V.num (gv (V.vs rz18) 0));
 ((True ∧ V.isInt Go.IntKind.i64 (gv (V.vs rz18) 1) = true) ∧ (let iz21 : Int := (V.num (gv (V.vs rz18) 1));
 ((true = true) ∧ ((true = true) ∧ ((0 + 49 ≤ (List.length cz4)) ∧ (let cz22 : List V := (List.take 49 (List.drop 0 cz4));
 (AnyW Try.prog 12 [(V.agg cz22)] hz19 (fun (rz23 : V) (hz24 : Heap) =>
 (V.isTup 2 rz23 = true ∧ ((True ∧ V.isInt Go.IntKind.i64 (gv (V.vs rz23) 0) = true) ∧ (let iz25 : Int := (V.num (gv (V.vs rz23) 0));
 ((True ∧ V.isInt Go.IntKind.i64 (gv (V.vs rz23) 1) = true) ∧ (let iz26 : Int := (V.num (gv (V.vs rz23) 1));
 ((true = true) ∧ ((true = true) ∧ (wpA Try.prog f3_cf f3_n111111 ⟨[V.undef, (V.int Go.IntKind.i64 x), (V.int Go.IntKind.i64 s), (V.lp 3 0), V.undef, V.undef, V.undef, (V.lp 7 0), (V.int Go.IntKind.i64 iz20), (V.int Go.IntKind.i64 iz21), (V.int Go.IntKind.i64 iz25), (V.int Go.IntKind.i64 iz26), V.undef, V.undef, V.undef, V.undef, V.undef, V.undef, V.undef, V.undef, V.undef, V.undef, V.undef, V.undef, V.undef, V.undef, V.undef, V.undef, V.undef, V.undef, V.undef, V.undef, V.undef, V.undef, V.undef, V.undef, V.undef, V.undef, V.undef, V.undef, V.undef, V.undef, V.undef, V.undef, V.undef, V.undef, V.undef, V.undef, V.undef, V.undef, V.undef, V.undef, V.undef, V.undef, V.undef], [(3, (ints t)), (7, cz4)]⟩ hz24 Q))))))))))))))))))))))))))))))))))))))))))))))))))) := wpA_at f3_n_plug (by kernel_rfl)
theorem f3_n111111_eq : f3_n111111 = Code.seq f3_n1111110 f3_n1111111 := by
  simp only [f3_n111111, f3_n1111110, f3_n1111111, hide_eq]
  kernel_rfl
theorem f3_n1111110_plug : f3_n1111110 = (codeAt [1, 1, 1, 1, 1, 1, 0] f3_b) := by
  simp only [f3_n1111110, hide_eq]
  try kernel_rfl
theorem f3_n1111110_wp (x0 : Int) (x1 : Int) (x2 : Int) (x3 : Int) (x4 : Int) (x5 : Int) (c6 : List V) (c7 : List V) (h : Heap) (Q : Ex → Fr → Heap → Prop) : wpA Try.prog f3_cf f3_n1111110 ⟨[V.undef, (V.int Go.IntKind.i64 x0), (V.int Go.IntKind.i64 x1), (V.lp 3 0), V.undef, V.undef, V.undef, (V.lp 7 0), (V.int Go.IntKind.i64 x2), (V.int Go.IntKind.i64 x3), (V.int Go.IntKind.i64 x4), (V.int Go.IntKind.i64 x5), V.undef, V.undef, V.undef, V.undef, V.undef, V.undef, V.undef, V.undef, V.undef, V.undef, V.undef, V.undef, V.undef, V.undef, V.undef, V.undef, V.undef, V.undef, V.undef, V.undef, V.undef, V.undef, V.undef, V.undef, V.undef, V.undef, V.undef, V.undef, V.undef, V.undef, V.undef, V.undef, V.undef, V.undef, V.undef, V.undef, V.undef, V.undef, V.undef, V.undef, V.undef, V.undef, V.undef], [(3, c6), (7, c7)]⟩ h Q =
 (((x2 == x4) = true → (x2 == x4) = true) ∧ (((x2 == x4) = true → (x2 == x4) = true) ∧ ((((x2 == x4) = true → (x2 == x4) = true) ∧ True) ∧ (let bz27 : Bool := (cond (x2 == x4) (x3 == x5) false);
 ((bz27 = true → (0 + 49 ≤ (List.length c6))) ∧ (let cz28 : List V := (List.take 49 (List.drop 0 c6));
 ((bz27 = true → (0 + 49 ≤ (List.length c7))) ∧ (let cz29 : List V := (List.take 49 (List.drop 0 c7));
 (let kz30 : Int → Heap → Prop := fun (xz31 : Int) (hz32 : Heap) =>
 (((bz27 = true → (0 + 49 ≤ (List.length c7))) ∧ (V.opt bz27 (V.agg (List.take 49 (List.drop 0 c7)))) = (V.opt bz27 (V.agg cz29))) ∧ (let kz33 : Int → Heap → Prop := fun (xz34 : Int) (hz35 : Heap) =>
 ((bz27 = true → bz27 = true) ∧ ((bz27 = true → bz27 = true) ∧ (((bz27 = true → bz27 = true) ∧ True) ∧ (let bz36 : Bool := (cond bz27 (xz31 == xz34) false);
 (let kz37 : Bool → Heap → Prop := fun (xz38 : Bool) (hz39 : Heap) =>
 (((bz36 = true → bz36 = true) ∧ True) ∧ (Q Ex.normal ⟨[V.undef, V.undef, V.undef, V.undef, V.undef, V.undef, (V.bool (cond bz36 xz38 false)), V.undef, V.undef, V.undef, V.undef, V.undef, V.undef, V.undef, V.undef, V.undef, V.undef, V.undef, V.undef, V.undef, V.undef, V.undef, V.undef, V.undef, V.undef, V.undef, V.undef, V.undef, V.undef, V.undef, V.undef, V.undef, V.undef, V.undef, V.undef, V.undef, V.undef, V.undef, V.undef, V.undef, V.undef, V.undef, V.undef, V.undef, V.undef, V.undef, V.undef, V.undef, V.undef, V.undef, V.undef, V.undef, V.undef, V.undef, V.undef], []⟩ hz39));
 brW bz36
 (AnyW Try.prog 10 [] hz35 (fun (rz40 : V) (hz41 : Heap) =>
 ((True ∧ V.isBool rz40 = true) ∧ (kz37 (V.flag rz40) hz41))))
 (kz37 false hz35))))));
 brW bz27
 ((bz27 = true) ∧ ((bz27 = true) ∧ ((bz27 = true) ∧ (AnyW Try.prog 14 [(V.agg cz29), (V.int Go.IntKind.i64 x0), (V.int Go.IntKind.i64 x1)] hz32 (fun (rz42 : V) (hz43 : Heap) =>
 ((True ∧ V.isInt Go.IntKind.i64 rz42 = true) ∧ (kz33 (V.num rz42) hz43)))))))
 (kz33 (0 : Int) hz32)));
 brW bz27
 ((bz27 = true) ∧ ((bz27 = true) ∧ ((bz27 = true) ∧ (AnyW Try.prog 13 [(V.agg cz28), (V.int Go.IntKind.i64 x0), (V.int Go.IntKind.i64 x1)] h (fun (rz44 : V) (hz45 : Heap) =>
 ((True ∧ V.isInt Go.IntKind.i64 rz44 = true) ∧ (kz30 (V.num rz44) hz45)))))))
 (kz30 (0 : Int) h)))))))))) := wpA_at f3_n1111110_plug (by kernel_rfl)
theorem f3_n1111111_plug : f3_n1111111 = (codeAt [1, 1, 1, 1, 1, 1, 1] f3_b) := by
  simp only [f3_n1111111, hide_eq]
  try kernel_rfl
theorem f3_n1111111_wp (b0 : Bool) (h : Heap) (Q : Ex → Fr → Heap → Prop) : wpA Try.prog f3_cf f3_n1111111 ⟨[V.undef, V.undef, V.undef, V.undef, V.undef, V.undef, (V.bool b0), V.undef, V.undef, V.undef, V.undef, V.undef, V.undef, V.undef, V.undef, V.undef, V.undef, V.undef, V.undef, V.undef, V.undef, V.undef, V.undef, V.undef, V.undef, V.undef, V.undef, V.undef, V.undef, V.undef, V.undef, V.undef, V.undef, V.undef, V.undef, V.undef, V.undef, V.undef, V.undef, V.undef, V.undef, V.undef, V.undef, V.undef, V.undef, V.undef, V.undef, V.undef, V.undef, V.undef, V.undef, V.undef, V.undef, V.undef, V.undef], []⟩ h Q =
 (Q Ex.ret ⟨[V.undef, V.undef, V.undef, V.undef, V.undef, V.undef, (V.bool b0), V.undef, V.undef, V.undef, V.undef, V.undef, V.undef, V.undef, V.undef, V.undef, V.undef, V.undef, V.undef, V.undef, V.undef, V.undef, V.undef, V.undef, V.undef, V.undef, V.undef, V.undef, V.undef, V.undef, V.undef, V.undef, V.undef, V.undef, V.undef, V.undef, V.undef, V.undef, V.undef, V.undef, V.undef, V.undef, V.undef, V.undef, V.undef, V.undef, V.undef, V.undef, V.undef, V.undef, V.undef, V.undef, V.undef, V.undef, V.undef], []⟩ h) := wpA_at f3_n1111111_plug (by kernel_rfl)
theorem f3_end1 (b0 : Bool) (h : Heap) (K : V → Heap → Prop) : bodyK Try.prog Try.f3 K Ex.ret ⟨[V.undef, V.undef, V.undef, V.undef, V.undef, V.undef, (V.bool b0), V.undef, V.undef, V.undef, V.undef, V.undef, V.undef, V.undef, V.undef, V.undef, V.undef, V.undef, V.undef, V.undef, V.undef, V.undef, V.undef, V.undef, V.undef, V.undef, V.undef, V.undef, V.undef, V.undef, V.undef, V.undef, V.undef, V.undef, V.undef, V.undef, V.undef, V.undef, V.undef, V.undef, V.undef, V.undef, V.undef, V.undef, V.undef, V.undef, V.undef, V.undef, V.undef, V.undef, V.undef, V.undef, V.undef, V.undef, V.undef], []⟩ h = (K (V.bool b0) h) := by kernel_rfl
end

section
open Go Go.Proofs Jb
set_option linter.unusedSimpArgs false
set_option maxRecDepth 8000

theorem e8 : enters Try.prog 8 = true := by kernel_rfl
theorem e9 : enters Try.prog 9 = true := by kernel_rfl
theorem e12 : enters Try.prog 12 = true := by kernel_rfl
theorem Good_any {t : List Int} (F : Fits t) {h : Heap} {K : V → Heap → Prop} (m : K (.bool (goodT t)) h) : AnyW Try.prog 8 [.agg (ints t)] h K := AnyW.eq e8 (Good_call t F h) m
theorem refGood_any {t : List Int} (F : Fits t) {h : Heap} {K : V → Heap → Prop} (m : K (.bool (refGood t)) h) : AnyW Try.prog 9 [.agg (ints t)] h K := AnyW.eq e9 (refGood_call t F h) m
theorem refTotals_any {t : List Int} (F : Fits t) {h : Heap} {K : V → Heap → Prop} (m : K (.tup [.int .i64 (allR t 1 0).1, .int .i64 (allR t 2 0).1]) h) : AnyW Try.prog 12 [.agg (ints t)] h K := AnyW.eq e12 (refTotals_call t F h) m

/-! The plain law. -/
theorem sumR_cons0 (l : List Int) : sumR (0 :: l) = sumR l := by simp [sumR]
theorem all_1 (t : List Int) : (allR t 1 0) = ((sumR (gi t 48 :: cashes t 8)).1, decide ((sumR (gi t 48 :: cashes t 8)).2 = 0 ∧ (sumR (gi t 48 :: cashes t 8)).1 ≤ 4611686018427387904)) := by
  simp only [allR, if_true, List.cons_append, List.nil_append, sumR_cons0, fieldsT]
theorem all_2 (t : List Int) : (allR t 2 0) = ((sumR (stocks t 8)).1, decide ((sumR (stocks t 8)).2 = 0 ∧ (sumR (stocks t 8)).1 ≤ 4611686018427387904)) := by
  have : ¬ (2 : Int) = 1 := by omega
  simp only [allR, this, if_false, List.nil_append, sumR_cons0, fieldsT]

theorem sum_pos {l : List Int} (h : ∀ n ∈ l, 0 ≤ n) : 0 ≤ l.sum := by
  induction l with
  | nil => simp
  | cons a l ih =>
    have h1 := h a (by simp)
    have h2 := ih (fun n hn => h n (by simp [hn]))
    simp only [List.sum_cons]
    omega
theorem sumR_pos {l : List Int} (h : ∀ n ∈ l, 0 ≤ n) : 0 ≤ (sumR l).1 := by
  unfold sumR; split
  · exact sum_pos h
  · simp

theorem goodP_pos {p : List Int} (hp : p.length = 6) (h : goodP p = true) : ∀ n ∈ p, 0 ≤ n ∧ n ≤ 4611686018427387904 := by
  intro n hn
  unfold goodP at h
  simp only [Bool.and_eq_true, List.all_eq_true] at h
  exact (fine1_iff n).1 (h.1.1 n hn)

/-- What a good till's numbers are. -/
theorem good_field {t : List Int} (ht : t.length = 49) (h : (List.range 8).all (fun i => goodP (purse t i)) = true) {i j : Nat} (hi : i < 8) (hj : j < 6) : 0 ≤ gi t (i * 6 + j) ∧ gi t (i * 6 + j) ≤ 4611686018427387904 := by
  have hp := purse_len ht hi
  have := goodP_pos hp (List.all_eq_true.1 h i (by simp [hi])) (gi (purse t i) j) (gi_mem _ (by omega))
  rwa [purse_get t hj] at this

theorem good_same (t : List Int) (ht : t.length = 49) : goodT t = refGood t := by
  unfold goodT refGood
  cases h0 : fine1 (gi t 48) with
  | false => simp
  | true =>
    cases h1 : (List.range 8).all (fun i => goodP (purse t i)) with
    | false => simp
    | true =>
      simp only [Bool.true_and]
      rw [all_1, all_2]
      unfold totals
      simp only
      have p1 : 0 ≤ (sumR (gi t 48 :: cashes t 8)).1 := sumR_pos fun n hn => by
        rcases List.mem_cons.1 hn with rfl | hn
        · exact ((fine1_iff _).1 h0).1
        · obtain ⟨k, hk, rfl⟩ := List.mem_map.1 hn
          exact (good_field ht h1 (j := 0) (by simpa using hk) (by omega)).1
      have p2 : 0 ≤ (sumR (stocks t 8)).1 := sumR_pos fun n hn => by
        obtain ⟨k, hk, rfl⟩ := List.mem_map.1 hn
        exact (good_field ht h1 (j := 1) (by simpa using hk) (by omega)).1
      generalize sumR (gi t 48 :: cashes t 8) = a at *
      generalize sumR (stocks t 8) = b at *
      unfold fine1 Mx
      rw [Bool.eq_iff_iff]
      simp only [Bool.and_eq_true, decide_eq_true_eq]
      omega

theorem totals_same (t : List Int) : (totals t).1 = (allR t 1 0).1 ∧ (totals t).2.1 = (allR t 2 0).1 := by rw [all_1, all_2]; exact ⟨rfl, rfl⟩

theorem PurseTells_call (t : List Int) (F : Fits t) (x s : Int) (h : Heap) : CallW Try.prog 3 [.agg (ints t), .int .i64 x, .int .i64 s] h (fun r h' => r = .bool true ∧ h' = h) := by
  have ht := F.1
  refine CallW.body mix f3_cf Try.func3 (by rw [Try.ntmps3]; simp) ?_
  rw [f3_entry, f3_n_wp]
  simp only [ints_len, ht, List.drop_zero, take_all ht]
  refine ⟨trivial, by omega, Plain_any ht ?_⟩
  simp only [cells_agg, isAgg_agg, ints_len, ht, decide_true, true_and, wr_all (cs := [_, _, _, _, _, _, _, _, _, _, _, _, _, _, _, _, _, _, _, _, _, _, _, _, _, _, _, _, _, _, _, _, _, _, _, _, _, _, _, _, _, _, _, _, _, _, _, _, _]) t rfl ht, List.drop_zero, take_all ht]
  refine ⟨by omega, by omega, by omega, Good_any F ?_⟩
  simp only [isBool_bool, flag_bool, true_and]
  refine ⟨⟨by omega, trivial⟩, refGood_any F ?_⟩
  rw [good_same t ht]
  simp only [isBool_bool, flag_bool, true_and, beq_self_eq_true, Bool.not_true, brW_false]
  refine ⟨by omega, refGood_any F ?_⟩
  cases hg : refGood t with
  | false =>
    simp only [isBool_bool, flag_bool, true_and, Bool.not_false, brW_true]
    refine lives_any ?_
    simp [f3_end1]
  | true =>
    simp only [isBool_bool, flag_bool, true_and, Bool.not_true, brW_false]
    refine ⟨by omega, Totals_any F ?_⟩
    simp only [isTup_tup, vs_tup, gv_zero, gv_succ, isInt_i64, num_int, true_and, List.length_cons, List.length_nil, decide_true]
    refine ⟨by omega, refTotals_any F ?_⟩
    simp only [isTup_tup, vs_tup, gv_zero, gv_succ, isInt_i64, num_int, true_and, List.length_cons, List.length_nil, decide_true]
    rw [(totals_same t).1, (totals_same t).2, f3_n111111_eq, wpA_seq, f3_n1111110_wp]
    simp [ht, take_all]
    refine AnyW.eq e13 (free_call t ht x s h) ?_
    simp
    refine refFree_any ht ?_
    simp
    refine lives_any ?_
    simp [f3_n1111111_wp, f3_end1]
end

section
/- From what is claimed of a Go function to what is asked of a call. -/
namespace Jb
open Go Go.ChangeShapes

/-- Types whose cells are all whole numbers of 64 bits, with a sign. -/
def allInt (P : Program) : Nat → TypeId → Bool
  | 0, _ => false
  | n + 1, t => match P.underlying t with
    | some (.int .i64) => true
    | some (.struct fs) => (List.range (P.cellsOf t)).all fun i => fs.toList.any fun f => decide (f.offset ≤ i) && decide (i < f.offset + P.cellsOf f.type) && allInt P n f.type
    | some (.array k e) => decide (k * P.cellsOf e = P.cellsOf t) && decide (0 < P.cellsOf e) && allInt P n e
    | _ => false

theorem trod_array {H : Type} {enc : TypeId × Value → H} {P : Program} {w : World} {base : Nat} {spare : Nat → Bool} {held : Bool} {fuel : Nat} {t e : TypeId} {k : Nat} {cs : List Value} {x : DataW H × List MemPlace}
    (ht : P.underlying t = some (.array k e)) (h : DataW.trod enc P w base spare held fuel t cs = some x) :
    ∃ (xs : List (DataW H × List MemPlace)) (n : Nat), fuel = n + 1 ∧ cs.length = P.cellsOf t ∧ xs.length = k ∧
      ∀ i, i < k → DataW.trod enc P w base spare held n e ((cs.drop (i * P.cellsOf e)).take (P.cellsOf e)) = xs[i]? := by
  cases fuel with
  | zero => simp [DataW.trod] at h
  | succ n =>
    unfold DataW.trod at h
    rw [ht] at h
    split at h <;> simp_all
    obtain ⟨hl, xs, hp, hd⟩ := h
    exact ⟨xs, by simpa using mapM_some_length hp, fun i hi => mapM_some_get hp i i (by simp [hi])⟩

theorem trod_allInt {H : Type} {enc : TypeId × Value → H} {P : Program} {w : World} {base : Nat} {spare : Nat → Bool} {held : Bool} : ∀ (n : Nat) {fuel : Nat} {t : TypeId} {cs : List Value} {x : DataW H × List MemPlace},
    allInt P n t = true → DataW.trod enc P w base spare held fuel t cs = some x → ∀ c ∈ cs, ∃ z, c = .int .i64 z ∧ I64 z
  | 0, _, _, _, _, a, _ => by cases a
  | n + 1, fuel, t, cs, x, a, h => by
    unfold allInt at a
    split at a
    · rename_i ht
      obtain ⟨z, rfl, _, hw⟩ := DataW.trod_int ht h
      intro c hc
      simp only [List.mem_singleton] at hc
      refine ⟨z, hc, ?_⟩
      simp only [Lit.wf, Bool.and_eq_true, decide_eq_true_eq] at hw
      exact hw
    · rename_i fs ht
      obtain ⟨xs, m, rfl, _, hl, hx, hf⟩ := DataW.trod_struct ht h
      intro c hc
      obtain ⟨i, hi, rfl⟩ := List.mem_iff_getElem.1 hc
      have := List.all_eq_true.1 a i (by simp; omega)
      obtain ⟨f, hfm, hf'⟩ := List.any_eq_true.1 this
      simp only [Bool.and_eq_true, decide_eq_true_eq] at hf'
      obtain ⟨j, hj, hj'⟩ := List.mem_iff_getElem.1 hfm
      have hj2 : j < fs.size := by simpa using hj
      have hfj : fs[j]? = some f := by rw [← Array.getElem?_toList, List.getElem?_eq_getElem hj, hj']
      have := hf j f hfj
      rw [List.getElem?_eq_getElem (by omega)] at this
      refine trod_allInt n hf'.2 this _ ?_
      refine List.mem_iff_getElem.2 ⟨i - f.offset, by simp; omega, ?_⟩
      simp only [List.getElem_take, List.getElem_drop]
      congr 1; omega
    · rename_i k e ht
      simp only [Bool.and_eq_true, decide_eq_true_eq] at a
      obtain ⟨xs, m, rfl, hl, hx, hf⟩ := trod_array ht h
      intro c hc
      obtain ⟨i, hi, rfl⟩ := List.mem_iff_getElem.1 hc
      have hi2 : i / P.cellsOf e < k := by rw [Nat.div_lt_iff_lt_mul a.1.2]; omega
      have := hf _ hi2
      rw [List.getElem?_eq_getElem (by omega)] at this
      have d := Nat.div_add_mod i (P.cellsOf e)
      have l := Nat.mod_lt i a.1.2
      have hmul : i / P.cellsOf e * P.cellsOf e = P.cellsOf e * (i / P.cellsOf e) := Nat.mul_comm _ _
      refine trod_allInt n a.2 this _ ?_
      refine List.mem_iff_getElem.2 ⟨i % P.cellsOf e, by simp; omega, ?_⟩
      simp only [List.getElem_take, List.getElem_drop]
      congr 1; omega
    · cases a

/-- Values that are whole numbers, as a list of them. -/
theorem ints_of {xs : List Value} (h : ∀ c ∈ xs, ∃ z, c = .int .i64 z ∧ I64 z) : ∃ l : List Int, xs = l.map (.int .i64) ∧ (∀ z ∈ l, I64 z) := by
  induction xs with
  | nil => exact ⟨[], rfl, by simp⟩
  | cons a xs ih =>
    obtain ⟨z, rfl, hz⟩ := h a (by simp)
    obtain ⟨l, rfl, hl⟩ := ih (fun c hc => h c (by simp [hc]))
    exact ⟨z :: l, rfl, by simpa using ⟨hz, hl⟩⟩

theorem rel_ints {S : Sim} {w : World} (l : List Int) : RelL S w (ints l) (l.map (.int .i64)) := by
  induction l with
  | nil => exact RelL.nil
  | cons a l ih => exact RelL.cons (Rel.int _ _) ih
theorem rel_agg_ints {S : Sim} {w : World} (l : List Int) : Rel S w (.agg (ints l)) (.agg (l.map (.int .i64)).toArray) :=
  Rel.agg _ _ (rel_ints (S := S) (w := w) l).1 (by simp [Value.oneCell']) (rel_ints l).2

/-- Nothing is known of any block. -/
def S0 : Sim := ⟨fun _ => none, fun _ => none, fun _ => (0, 0, 0)⟩
def h0 : Heap := fun _ => none
theorem hr0 (w : World) : HR S0 w h0 := ⟨fun l o h => (by cases h), fun l _ => ⟨rfl, rfl⟩⟩

/-- A slice of rows of whole numbers. -/
theorem rel_rows {H : Type} {enc : TypeId × Value → H} {P : Program} {w : World} {spare : Nat → Bool} {held : Bool} {r : Reach} {base : Nat} {t e : TypeId} {v : Value} {d : DataW H} {ps : List MemPlace} (ht : P.underlying t = some (.slice e)) (n : Nat) (he : allInt P n e = true) (hpos : 0 < P.cellsOf e)
    (hval : Value.okWide P w r base t v) (h : DataW.Trod enc P w 0 spare held t v d ps) : ∃ L : List (List Int), L.length ≤ maxLen ∧ (∀ l ∈ L, l.length = P.cellsOf e ∧ ∀ z ∈ l, I64 z) ∧ Rel S0 w (.sl (P.cellsOf e) (L.map ints) .no) v := by
  have hv : (v = .slice none 0 0) ∨ ∃ b o len cap, v = .slice (some ⟨b, o, none⟩) len cap := by
    unfold Value.okWide at hval
    rw [ht] at hval
    simp only [Cell.okWide, ht] at hval
    unfold Cell.ok at hval
    rw [ht] at hval
    cases v with
    | slice a len cap =>
      cases a with
      | none => cases len <;> cases cap <;> simp_all
      | some a =>
        obtain ⟨b, o, sp⟩ := a
        have : sp = none := hval.2.2.2.1
        subst this
        exact .inr ⟨b, o, len, cap, rfl⟩
    | _ => simp at hval
  obtain ⟨fuel, h⟩ := h
  rcases hv with rfl | ⟨b, o, len, cap, rfl⟩
  · exact ⟨[], by simp, by simp, Rel.slnil _ _ (by simp)⟩
  · have hc : (Value.slice (some ⟨b, o, none⟩) len cap).cells.toList = [.slice (some ⟨b, o, none⟩) len cap] := rfl
    rw [hc] at h
    rcases DataW.trod_slice ht h with ⟨e1, _⟩ | ⟨a, len', cap', elems, rest, m, rfl, e1, _, _, hle, hcap, hel, hget, _, _⟩
    · simp at e1
    simp only [List.cons.injEq, Value.slice.injEq, Option.some.injEq, and_true] at e1
    obtain ⟨rfl, rfl, rfl⟩ := e1
    have each : ∀ i, i < len → ∃ l : List Int, w.cells? 0 (Addr.add ⟨b, o, none⟩ (i * P.cellsOf e)) (P.cellsOf e) = some (l.map (.int .i64)) ∧ ∀ z ∈ l, I64 z := by
      intro i hi
      have := hget i hi
      rw [List.getElem?_eq_getElem (by omega)] at this
      obtain ⟨cs, h1, h2⟩ := Option.bind_eq_some_iff.1 this
      obtain ⟨l, rfl, hl⟩ := ints_of (trod_allInt n he h2)
      exact ⟨l, h1, hl⟩
    have : ∃ f : Nat → List Int, ∀ i, i < len → w.cells? 0 (Addr.add ⟨b, o, none⟩ (i * P.cellsOf e)) (P.cellsOf e) = some ((f i).map (.int .i64)) ∧ ∀ z ∈ f i, I64 z := by
      refine ⟨fun i => if h : i < len then (each i h).choose else [], fun i hi => ?_⟩
      simp only [hi, dite_true]
      exact (each i hi).choose_spec
    obtain ⟨f, hf⟩ := this
    have flen : ∀ i, i < len → (f i).length = P.cellsOf e := fun i hi => by have := (World.cells?_some (hf i hi).1).2.1; simpa using this
    have geti : ∀ (i : Nat) (x : List V), (List.map ints ((List.range len).map f))[i]? = some x → i < len ∧ x = ints (f i) := by
      intro i x hx
      simp only [List.getElem?_map, Option.map_eq_some_iff, List.getElem?_range] at hx
      obtain ⟨l, ⟨a, ha, rfl⟩, rfl⟩ := hx
      obtain ⟨hi, rfl⟩ := List.getElem?_eq_some_iff.1 ha
      simp only [List.length_range] at hi
      simp [hi]
    refine ⟨(List.range len).map f, by simp; omega, fun l hl => ?_, ?_⟩
    · obtain ⟨i, hi, rfl⟩ := List.mem_map.1 hl
      have hi : i < len := by simpa using hi
      exact ⟨flen i hi, (hf i hi).2⟩
    · have hk : ∀ (i : Nat) (x : List V), (List.map ints ((List.range len).map f))[i]? = some x → ∀ (j : Nat) (c : V), x[j]? = some c → c = .int .i64 (gi (f i) j) ∧ w.cell? ⟨b, o + i * P.cellsOf e + j, none⟩ = some (.int .i64 (gi (f i) j)) := by
        intro i x hx j c hc
        obtain ⟨hi, rfl⟩ := geti i x hx
        have hj : j < (f i).length := by
          have := (List.getElem?_eq_some_iff.1 hc).1
          simpa using this
        have e1 := (World.cells?_some (hf i hi).1).2.2 j (by rw [← flen i hi]; exact hj)
        have e2 : c = .int .i64 (gi (f i) j) := by
          have := ints_get (f i) hj
          unfold gv List.getD at this
          rw [hc] at this
          exact this
        refine ⟨e2, ?_⟩
        rw [show (⟨b, o + i * P.cellsOf e + j, none⟩ : Addr) = (Addr.add ⟨b, o, none⟩ (i * P.cellsOf e)).add j from by simp only [Addr.add]; split <;> split <;> simp_all <;> omega, e1, gi_lt _ hj]
        simp [hj]
      have := Rel.sl (S := S0) (w := w) (P.cellsOf e) (List.map ints ((List.range len).map f)) .no b o cap (fun i j => .int .i64 (gi (f i) j)) hpos (by simp; omega) trivial
        (fun i x hx => by obtain ⟨hi, rfl⟩ := geti i x hx; simp [flen i hi])
        (fun i x hx j c hc => ⟨trivial, (hk i x hx j c hc).2, rfl⟩)
        (fun i x hx j c hc => by rw [(hk i x hx j c hc).1]; exact Rel.int _ _)
      simpa using this

/-- A struct, an array, of whole numbers. -/
theorem rel_flat {H : Type} {enc : TypeId × Value → H} {P : Program} {w : World} {spare : Nat → Bool} {held : Bool} {r : Reach} {base b0 : Nat} {t : TypeId} {v : Value} {d : DataW H} {ps : List MemPlace} (ha : aggT P t = true) (n : Nat) (he : allInt P n t = true)
    (hval : Value.okWide P w r base t v) (h : DataW.Trod enc P w b0 spare held t v d ps) : ∃ l : List Int, l.length = P.cellsOf t ∧ (∀ z ∈ l, I64 z) ∧ v = .agg (l.map (.int .i64)).toArray := by
  obtain ⟨fuel, h⟩ := h
  have : ∃ cs, v = .agg cs ∧ cs.size = P.cellsOf t := by
    unfold Value.okWide at hval
    unfold aggT at ha
    split at hval
    · obtain ⟨cs, h1, h2, _⟩ := hval; exact ⟨cs, h1, h2⟩
    · obtain ⟨cs, h1, h2, _⟩ := hval; exact ⟨cs, h1, h2⟩
    · split at ha <;> simp_all
  obtain ⟨cs, rfl, hl⟩ := this
  obtain ⟨l, e, hz⟩ := ints_of (trod_allInt n he h)
  have e' : cs.toList = l.map (.int .i64) := e
  refine ⟨l, ?_, hz, ?_⟩
  · rw [← hl, ← Array.length_toList, e']; simp
  · rw [← e']

theorem kept_of {h h' : Heap} {S S' : Sim} {w w' : World} (L : Le (fun _ => False) h S w h' S' w') (hn : ∀ rb, S.own rb = none) (may : MemPlace → Prop) : w.keptBut w' may := by
  refine World.keptBut_mono (fun _ f => f.elim) (may := fun _ => False) ⟨L.os, L.output, fun i hi => ?_⟩
  rw [(L.un i hi (hn i)).1]
  exact (World.keptBut_refl w (fun _ => False)).2.2 i hi

theorem same_at {h h' : Heap} {S S' : Sim} {w w' : World} (L : Le (fun _ => False) h S w h' S' w') (hn : ∀ rb, S.own rb = none) (p : MemPlace) (hp : p.block < w.heap.size) : w.sameAt w' p := by
  have e := (L.un p.block hp (hn _)).1
  cases p with
  | cell b off => simp only [MemPlace.block] at e; simp only [World.sameAt, World.cell?, e]
  | map b => exact e

theorem args_again {H : Type} {enc : TypeId × Value → H} {P : Program} (hl : laidOutB P = true) {W W' : World} {sp : Nat → Bool} : ∀ {ts : List TypeId} {vs : List Value} {ds : List (DataW H)} {ps : List MemPlace}, (∀ t ∈ ts, P.readableRec t = true ∧ t < P.types.size) →
    DataW.TrodAll enc P W 0 (fun _ => true) true ts vs ds ps → (∀ p ∈ ps, W.sameAt W' p) → (∀ p ∈ ps, sp p.block = true) → DataW.TrodAll enc P W' 0 sp true ts vs ds ps
  | [], [], [], _, _, h, _, _ => h
  | t :: ts, v :: vs, d :: ds, ps, hts, ⟨p, q, h1, h2, e⟩, hs, hb => by
    subst e
    refine ⟨p, q, ?_, args_again hl (fun t ht => hts t (by simp [ht])) h2 (fun x hx => hs x (by simp [hx])) (fun x hx => hb x (by simp [hx])), rfl⟩
    exact Go.WideElems.Trod_stays hl (hts t (by simp)).1 (hts t (by simp)).2 h1 (fun x hx => hs x (by simp [hx])) (fun x hx => hb x (by simp [hx]))
  | [], _ :: _, _, _, _, h, _, _ => h.elim
  | [], [], _ :: _, _, _, h, _, _ => h.elim
  | _ :: _, [], _, _, _, h, _, _ => h.elim
  | _ :: _, _ :: _, [], _, _, h, _, _ => h.elim

/-- What is claimed of a law that answers true, and leaves all as it was. -/
theorem post_law {H : Type} {enc : TypeId × Value → H} {P : Program} {f : Func} {s : ChangeSpec} {apart fresh handsOn again : Bool} {W W' : World} {args : Array Value} {ds gs : List (DataW H)} {before : List MemPlace} {h h' : Heap} {S S' : Sim}
    (hW : DataW.Whole enc P f.params.toList s.vars apart W args.toList ds gs before) (hv : s.vars = []) (hs : (s.fn H (ds ++ gs)).results = [.lit (.bool true)] ∧ (s.fn H (ds ++ gs)).args = ds ∧ (s.fn H (ds ++ gs)).vars = [])
    {b : TypeId} (hr : f.resultTypes = #[b]) (hb : P.underlying b = some .bool) (hl : laidOutB P = true) (hts : ∀ t ∈ f.params.toList, P.readableRec t = true ∧ t < P.types.size)
    (L : Le (fun _ => False) h S W h' S' W') (hn : ∀ rb, S.own rb = none) : s.post enc P f apart fresh handsOn again W args (.bool true) W' := by
  have hlt := hW.lt
  have hsame : ∀ p ∈ before, W.sameAt W' p := fun p hp => same_at L hn p (hlt p hp)
  obtain ⟨s1, s2, s3⟩ := hs
  have hres : ∀ (b' : Nat) (sp : Nat → Bool) (hd : Bool), DataW.TrodAll enc P W' b' sp hd f.resultTypes.toList ((Value.bool true).resultList f.resultTypes.size) [.lit (.bool true)] [] := by
    intro b' sp hd
    rw [hr]
    exact trodAll_cons_mk (Go.RowKit.shut_bool hb true) trodAll_mk0
  have hok : ∀ (j : Nat) (t : TypeId) (r : Value), f.resultTypes[j]? = some t → ((Value.bool true).resultList f.resultTypes.size)[j]? = some r → Value.okWide P W' .any 0 t r :=
    Go.RowKit.ok_one hr rfl (Go.RowKit.okWide_bool_mk hb true)
  have hW0 := hW
  obtain ⟨p, q, hA, hV, rfl, hz, hnd⟩ := hW
  rw [hv] at hV
  obtain ⟨rfl, rfl⟩ := trodVars_none hV
  simp only [List.append_nil] at hsame hlt hz hnd hW0 s1 s2 s3
  have hargs : ∀ sp : Nat → Bool, (∀ x ∈ p, sp x.block = true) → DataW.TrodAll enc P W' 0 sp true f.params.toList args.toList ds p := fun sp hsp => args_again hl hts hA hsame hsp
  have hvars : ∀ sp : Nat → Bool, DataW.TrodVars enc P W' sp s.vars [] [] := fun sp => by rw [hv]; rfl
  refine ⟨ds, [], p, [], p, [], hW0, ?_, ?_, ?_, kept_of L hn _, fun _ => ⟨hok, .lit (.bool true) :: ds, [], p, ⟨[] ++ p, [], ?_, hvars _, by simp, ?_, ?_⟩, fun x hx _ => hx⟩⟩
  · rw [List.append_nil, s1]; exact hres _ _ _
  · rw [List.append_nil, s2]; exact hargs _ (fun x hx => by simpa using hlt x hx)
  · rw [List.append_nil, s3]; exact hvars _
  · exact trodAll_append (hargs _ (fun _ _ => rfl)) (hres _ _ _)
  · intro b off hp
    have e := (L.un b (hlt (.cell b off) hp) (hn _)).1
    have := hz b off hp
    simpa only [World.frozen?, e] using this
  · intro ha
    simpa using hnd ha
end Jb
end
