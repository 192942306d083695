/- Proved here: of Keeps6, that what the Go functions of this part compute is as their contracts say (texts S10, Cp, S3, Cq, Pl, Pm, Pn, S15, Po, S4, Pp), for every input; no condition beyond those that each theorem states. -/
import Derived.Test.YtmcmknjoegjalaaKeeps2
import Derived.KernelRfl
import Derived.Test.YtmcmknjoegjalaaProg
import Derived.Test.YtmcmknjoegjalaaKeeps5
set_option linter.all false
section
set_option linter.all false
set_option maxRecDepth 100000
open Go Go.Proofs Jb
def f10_cf : Cfg := ⟨[], [(0, [0]), (2, [7, 8, 9, 10, 11]), (3, [12, 13, 14, 15, 16]), (4, [17, 18, 19, 20, 21]), (5, [22, 23, 24, 25, 26]), (6, [27, 28, 29, 30, 31, 32]), (7, [1, 2, 3, 4, 5, 6, 33, 34, 35, 36, 37, 38, 39, 40, 41, 42, 43, 44, 45, 46, 47, 48, 49, 50, 51, 52, 53, 54, 55, 56, 57, 58, 59, 60, 61, 62, 63, 64])]⟩
noncomputable def f10_b : Code := bodyOf Try.f10
noncomputable def f10_n : Code :=  (codeAt [] f10_b)
theorem f10_entry (h : Heap) (K : V → Heap → Prop) : bodyW Try.prog f10_cf Try.f10 [] h K = wpA Try.prog f10_cf f10_n ⟨[V.undef, V.undef, V.undef, V.undef, V.undef, V.undef, V.undef, V.undef, V.undef, V.undef, V.undef, V.undef, V.undef, V.undef, V.undef, V.undef, V.undef, V.undef, V.undef, V.undef, V.undef, V.undef, V.undef, V.undef, V.undef, V.undef, V.undef, V.undef, V.undef, V.undef, V.undef, V.undef, V.undef, V.undef, V.undef, V.undef, V.undef, V.undef, V.undef, V.undef, V.undef, V.undef, V.undef, V.undef, V.undef, V.undef, V.undef, V.undef, V.undef, V.undef, V.undef, V.undef, V.undef, V.undef, V.undef, V.undef, V.undef, V.undef, V.undef, V.undef, V.undef, V.undef, V.undef, V.undef, V.undef], []⟩ h (bodyK Try.prog Try.f10 K) := by kernel_rfl
theorem f10_n_plug : f10_n = (codeAt [] f10_b) := by
  simp only [f10_n, hide_eq]
  try kernel_rfl
theorem f10_n_wp (h : Heap) (Q : Ex → Fr → Heap → Prop) : wpA Try.prog f10_cf f10_n ⟨[V.undef, V.undef, V.undef, V.undef, V.undef, V.undef, V.undef, V.undef, V.undef, V.undef, V.undef, V.undef, V.undef, V.undef, V.undef, V.undef, V.undef, V.undef, V.undef, V.undef, V.undef, V.undef, V.undef, V.undef, V.undef, V.undef, V.undef, V.undef, V.undef, V.undef, V.undef, V.undef, V.undef, V.undef, V.undef, V.undef, V.undef, V.undef, V.undef, V.undef, V.undef, V.undef, V.undef, V.undef, V.undef, V.undef, V.undef, V.undef, V.undef, V.undef, V.undef, V.undef, V.undef, V.undef, V.undef, V.undef, V.undef, V.undef, V.undef, V.undef, V.undef, V.undef, V.undef, V.undef, V.undef], []⟩ h Q =
 (True ∧ ((0 + 49 ≤ 49) ∧ (AnyW Try.prog 29 [(V.agg [(V.int Go.IntKind.i64 (0 : Int)), (V.int Go.IntKind.i64 (0 : Int)), (V.int Go.IntKind.i64 (0 : Int)), (V.int Go.IntKind.i64 (0 : Int)), (V.int Go.IntKind.i64 (0 : Int)), (V.int Go.IntKind.i64 (0 : Int)), (V.int Go.IntKind.i64 (0 : Int)), (V.int Go.IntKind.i64 (0 : Int)), (V.int Go.IntKind.i64 (0 : Int)), (V.int Go.IntKind.i64 (0 : Int)), (V.int Go.IntKind.i64 (0 : Int)), (V.int Go.IntKind.i64 (0 : Int)), (V.int Go.IntKind.i64 (0 : Int)), (V.int Go.IntKind.i64 (0 : Int)), (V.int Go.IntKind.i64 (0 : Int)), (V.int Go.IntKind.i64 (0 : Int)), (V.int Go.IntKind.i64 (0 : Int)), (V.int Go.IntKind.i64 (0 : Int)), (V.int Go.IntKind.i64 (0 : Int)), (V.int Go.IntKind.i64 (0 : Int)), (V.int Go.IntKind.i64 (0 : Int)), (V.int Go.IntKind.i64 (0 : Int)), (V.int Go.IntKind.i64 (0 : Int)), (V.int Go.IntKind.i64 (0 : Int)), (V.int Go.IntKind.i64 (0 : Int)), (V.int Go.IntKind.i64 (0 : Int)), (V.int Go.IntKind.i64 (0 : Int)), (V.int Go.IntKind.i64 (0 : Int)), (V.int Go.IntKind.i64 (0 : Int)), (V.int Go.IntKind.i64 (0 : Int)), (V.int Go.IntKind.i64 (0 : Int)), (V.int Go.IntKind.i64 (0 : Int)), (V.int Go.IntKind.i64 (0 : Int)), (V.int Go.IntKind.i64 (0 : Int)), (V.int Go.IntKind.i64 (0 : Int)), (V.int Go.IntKind.i64 (0 : Int)), (V.int Go.IntKind.i64 (0 : Int)), (V.int Go.IntKind.i64 (0 : Int)), (V.int Go.IntKind.i64 (0 : Int)), (V.int Go.IntKind.i64 (0 : Int)), (V.int Go.IntKind.i64 (0 : Int)), (V.int Go.IntKind.i64 (0 : Int)), (V.int Go.IntKind.i64 (0 : Int)), (V.int Go.IntKind.i64 (0 : Int)), (V.int Go.IntKind.i64 (0 : Int)), (V.int Go.IntKind.i64 (0 : Int)), (V.int Go.IntKind.i64 (0 : Int)), (V.int Go.IntKind.i64 (0 : Int)), (V.int Go.IntKind.i64 (0 : Int))]), (V.int Go.IntKind.i64 (0 : Int)), (V.int Go.IntKind.i64 (1 : Int)), (V.int Go.IntKind.i64 (100 : Int))] h (fun (rz1 : V) (hz2 : Heap) =>
 (V.isTup 2 rz1 = true ∧ ((True ∧ V.isAgg 49 (gv (V.vs rz1) 0) = true) ∧ (let cz3 : List V := (V.cells (gv (V.vs rz1) 0));
 ((True ∧ V.isInt Go.IntKind.i64 (gv (V.vs rz1) 1) = true) ∧ (let iz4 : Int := (V.num (gv (V.vs rz1) 1));
 ((true = true) ∧ ((true = true) ∧ (((List.length cz3) = 49) ∧ 0 + 49 ≤ 49 ∧ (let cz5 : List V := (wrCells [(V.int Go.IntKind.i64 (0 : Int)), (V.int Go.IntKind.i64 (0 : Int)), (V.int Go.IntKind.i64 (0 : Int)), (V.int Go.IntKind.i64 (0 : Int)), (V.int Go.IntKind.i64 (0 : Int)), (V.int Go.IntKind.i64 (0 : Int)), (V.int Go.IntKind.i64 (0 : Int)), (V.int Go.IntKind.i64 (0 : Int)), (V.int Go.IntKind.i64 (0 : Int)), (V.int Go.IntKind.i64 (0 : Int)), (V.int Go.IntKind.i64 (0 : Int)), (V.int Go.IntKind.i64 (0 : Int)), (V.int Go.IntKind.i64 (0 : Int)), (V.int Go.IntKind.i64 (0 : Int)), (V.int Go.IntKind.i64 (0 : Int)), (V.int Go.IntKind.i64 (0 : Int)), (V.int Go.IntKind.i64 (0 : Int)), (V.int Go.IntKind.i64 (0 : Int)), (V.int Go.IntKind.i64 (0 : Int)), (V.int Go.IntKind.i64 (0 : Int)), (V.int Go.IntKind.i64 (0 : Int)), (V.int Go.IntKind.i64 (0 : Int)), (V.int Go.IntKind.i64 (0 : Int)), (V.int Go.IntKind.i64 (0 : Int)), (V.int Go.IntKind.i64 (0 : Int)), (V.int Go.IntKind.i64 (0 : Int)), (V.int Go.IntKind.i64 (0 : Int)), (V.int Go.IntKind.i64 (0 : Int)), (V.int Go.IntKind.i64 (0 : Int)), (V.int Go.IntKind.i64 (0 : Int)), (V.int Go.IntKind.i64 (0 : Int)), (V.int Go.IntKind.i64 (0 : Int)), (V.int Go.IntKind.i64 (0 : Int)), (V.int Go.IntKind.i64 (0 : Int)), (V.int Go.IntKind.i64 (0 : Int)), (V.int Go.IntKind.i64 (0 : Int)), (V.int Go.IntKind.i64 (0 : Int)), (V.int Go.IntKind.i64 (0 : Int)), (V.int Go.IntKind.i64 (0 : Int)), (V.int Go.IntKind.i64 (0 : Int)), (V.int Go.IntKind.i64 (0 : Int)), (V.int Go.IntKind.i64 (0 : Int)), (V.int Go.IntKind.i64 (0 : Int)), (V.int Go.IntKind.i64 (0 : Int)), (V.int Go.IntKind.i64 (0 : Int)), (V.int Go.IntKind.i64 (0 : Int)), (V.int Go.IntKind.i64 (0 : Int)), (V.int Go.IntKind.i64 (0 : Int)), (V.int Go.IntKind.i64 (0 : Int))] 0 cz3);
 ((0 + 49 ≤ (List.length cz5)) ∧ (let cz6 : List V := (List.take 49 (List.drop 0 cz5));
 (AnyW Try.prog 29 [(V.agg cz6), (V.int Go.IntKind.i64 (1 : Int)), (V.int Go.IntKind.i64 (2 : Int)), (V.int Go.IntKind.i64 (5 : Int))] hz2 (fun (rz7 : V) (hz8 : Heap) =>
 (V.isTup 2 rz7 = true ∧ ((True ∧ V.isAgg 49 (gv (V.vs rz7) 0) = true) ∧ (let cz9 : List V := (V.cells (gv (V.vs rz7) 0));
 ((True ∧ V.isInt Go.IntKind.i64 (gv (V.vs rz7) 1) = true) ∧ (let iz10 : Int := (V.num (gv (V.vs rz7) 1));
 ((true = true) ∧ ((true = true) ∧ (((List.length cz9) = 49) ∧ 0 + 49 ≤ (List.length cz5) ∧ ((0 + 49 ≤ (List.length (wrCells cz5 0 cz9))) ∧ (let cz11 : List V := (List.take 49 (List.drop 0 (wrCells cz5 0 cz9)));
 (AnyW Try.prog 30 [(V.agg cz11), (V.int Go.IntKind.i64 (0 : Int)), (V.int Go.IntKind.i64 (1 : Int)), (V.int Go.IntKind.i64 (50 : Int))] hz8 (fun (rz12 : V) (hz13 : Heap) =>
 (V.isTup 2 rz12 = true ∧ ((True ∧ V.isAgg 49 (gv (V.vs rz12) 0) = true) ∧ (let cz14 : List V := (V.cells (gv (V.vs rz12) 0));
 ((True ∧ V.isInt Go.IntKind.i64 (gv (V.vs rz12) 1) = true) ∧ (let iz15 : Int := (V.num (gv (V.vs rz12) 1));
 ((true = true) ∧ ((true = true) ∧ (((List.length cz14) = 49) ∧ 0 + 49 ≤ (List.length (wrCells cz5 0 cz9)) ∧ (let cz16 : List V := (wrCells (wrCells cz5 0 cz9) 0 cz14);
 ((0 + 49 ≤ (List.length cz16)) ∧ (let cz17 : List V := (List.take 49 (List.drop 0 cz16));
 (AnyW Try.prog 30 [(V.agg cz17), (V.int Go.IntKind.i64 (1 : Int)), (V.int Go.IntKind.i64 (2 : Int)), (V.int Go.IntKind.i64 (5 : Int))] hz13 (fun (rz18 : V) (hz19 : Heap) =>
 (V.isTup 2 rz18 = true ∧ ((True ∧ V.isAgg 49 (gv (V.vs rz18) 0) = true) ∧ (let cz20 : List V := (V.cells (gv (V.vs rz18) 0));
 ((True ∧ V.isInt Go.IntKind.i64 (gv (V.vs rz18) 1) = true) ∧ (let iz21 : Int := (V.num (gv (V.vs rz18) 1));
 ((true = true) ∧ ((true = true) ∧ (((List.length cz20) = 49) ∧ 0 + 49 ≤ (List.length cz16) ∧ ((0 + 49 ≤ (List.length (wrCells cz16 0 cz20))) ∧ (let cz22 : List V := (List.take 49 (List.drop 0 (wrCells cz16 0 cz20)));
 ((True ∧ (True ∧ (True ∧ (True ∧ (True ∧ (True ∧ True)))))) ∧ (AnyW Try.prog 31 [(V.agg cz22), (V.agg [(V.int Go.IntKind.i64 (0 : Int)), (V.int Go.IntKind.i64 (1 : Int)), (V.int Go.IntKind.i64 (40 : Int)), (V.int Go.IntKind.i64 (5 : Int)), (V.int Go.IntKind.i64 (50 : Int)), (V.int Go.IntKind.i64 (5 : Int)), (V.int Go.IntKind.i64 (0 : Int)), (V.int Go.IntKind.i64 (0 : Int))])] hz19 (fun (rz23 : V) (hz24 : Heap) =>
 (V.isTup 2 rz23 = true ∧ ((True ∧ V.isAgg 49 (gv (V.vs rz23) 0) = true) ∧ (let cz25 : List V := (V.cells (gv (V.vs rz23) 0));
 ((True ∧ V.isInt Go.IntKind.i64 (gv (V.vs rz23) 1) = true) ∧ (let iz26 : Int := (V.num (gv (V.vs rz23) 1));
 ((true = true) ∧ ((true = true) ∧ (((List.length cz25) = 49) ∧ 0 + 49 ≤ (List.length (wrCells cz16 0 cz20)) ∧ (let cz27 : List V := (wrCells (wrCells cz16 0 cz20) 0 cz25);
 (((iz4 == (0 : Int)) = true → (iz4 == (0 : Int)) = true) ∧ ((((iz4 == (0 : Int)) = true → (iz4 == (0 : Int)) = true) ∧ True) ∧ (let bz28 : Bool := (cond (iz4 == (0 : Int)) (iz10 == (0 : Int)) false);
 ((bz28 = true → bz28 = true) ∧ (((bz28 = true → bz28 = true) ∧ True) ∧ (let bz29 : Bool := (cond bz28 (iz15 == (0 : Int)) false);
 ((bz29 = true → bz29 = true) ∧ (((bz29 = true → bz29 = true) ∧ True) ∧ (let bz30 : Bool := (cond bz29 (iz21 == (0 : Int)) false);
 ((bz30 = true → bz30 = true) ∧ (((bz30 = true → bz30 = true) ∧ True) ∧ (let bz31 : Bool := (cond bz30 (iz26 == (0 : Int)) false);
 ((bz31 = true → bz31 = true) ∧ ((bz31 = true → (0 ≤ (0 : Int) ∧ (0 : Int) < 8)) ∧ ((bz31 = true → bz31 = true) ∧ ((bz31 = true → (0 + 6 ≤ (List.length cz27))) ∧ (let cz32 : List V := (List.take 6 (List.drop 0 cz27));
 ((bz31 = true → (True ∧ (True ∧ (True ∧ True)))) ∧ ((bz31 = true → bz31 = true) ∧ ((bz31 = true → bz31 = true) ∧ ((bz31 = true → (fits [(V.int Go.IntKind.i64 (0 : Int)), (V.int Go.IntKind.i64 (0 : Int)), (V.int Go.IntKind.i64 (0 : Int)), (V.int Go.IntKind.i64 (0 : Int)), (V.int Go.IntKind.i64 (0 : Int)), (V.int Go.IntKind.i64 (0 : Int))] cz32 = true ∧ fits [(V.int Go.IntKind.i64 (0 : Int)), (V.int Go.IntKind.i64 (0 : Int)), (V.int Go.IntKind.i64 (0 : Int)), (V.int Go.IntKind.i64 (0 : Int)), (V.int Go.IntKind.i64 (0 : Int)), (V.int Go.IntKind.i64 (0 : Int))] [(V.int Go.IntKind.i64 (60 : Int)), (V.int Go.IntKind.i64 (5 : Int)), (V.int Go.IntKind.i64 (0 : Int)), (V.int Go.IntKind.i64 (0 : Int)), (V.int Go.IntKind.i64 (0 : Int)), (V.int Go.IntKind.i64 (40 : Int))] = true)) ∧ (let bz33 : Bool := (eqlCells cz32 [(V.int Go.IntKind.i64 (60 : Int)), (V.int Go.IntKind.i64 (5 : Int)), (V.int Go.IntKind.i64 (0 : Int)), (V.int Go.IntKind.i64 (0 : Int)), (V.int Go.IntKind.i64 (0 : Int)), (V.int Go.IntKind.i64 (40 : Int))]);
 (((bz31 = true → bz31 = true) ∧ True) ∧ (((cond bz31 bz33 false) = true → (cond bz31 bz33 false) = true) ∧ (((cond bz31 bz33 false) = true → (0 ≤ (1 : Int) ∧ (1 : Int) < 8)) ∧ (((cond bz31 bz33 false) = true → (cond bz31 bz33 false) = true) ∧ (((cond bz31 bz33 false) = true → (6 + 6 ≤ (List.length cz27))) ∧ (let cz34 : List V := (List.take 6 (List.drop 6 cz27));
 (((cond bz31 bz33 false) = true → (True ∧ (True ∧ True))) ∧ (((cond bz31 bz33 false) = true → (cond bz31 bz33 false) = true) ∧ (((cond bz31 bz33 false) = true → (cond bz31 bz33 false) = true) ∧ (((cond bz31 bz33 false) = true → (fits [(V.int Go.IntKind.i64 (0 : Int)), (V.int Go.IntKind.i64 (0 : Int)), (V.int Go.IntKind.i64 (0 : Int)), (V.int Go.IntKind.i64 (0 : Int)), (V.int Go.IntKind.i64 (0 : Int)), (V.int Go.IntKind.i64 (0 : Int))] cz34 = true ∧ fits [(V.int Go.IntKind.i64 (0 : Int)), (V.int Go.IntKind.i64 (0 : Int)), (V.int Go.IntKind.i64 (0 : Int)), (V.int Go.IntKind.i64 (0 : Int)), (V.int Go.IntKind.i64 (0 : Int)), (V.int Go.IntKind.i64 (0 : Int))] [(V.int Go.IntKind.i64 (40 : Int)), (V.int Go.IntKind.i64 (0 : Int)), (V.int Go.IntKind.i64 (0 : Int)), (V.int Go.IntKind.i64 (0 : Int)), (V.int Go.IntKind.i64 (0 : Int)), (V.int Go.IntKind.i64 (40 : Int))] = true)) ∧ (let bz35 : Bool := (eqlCells cz34 [(V.int Go.IntKind.i64 (40 : Int)), (V.int Go.IntKind.i64 (0 : Int)), (V.int Go.IntKind.i64 (0 : Int)), (V.int Go.IntKind.i64 (0 : Int)), (V.int Go.IntKind.i64 (0 : Int)), (V.int Go.IntKind.i64 (40 : Int))]);
 ((((cond bz31 bz33 false) = true → (cond bz31 bz33 false) = true) ∧ True) ∧ (let bz36 : Bool := (cond (cond bz31 bz33 false) bz35 false);
 (Q Ex.ret ⟨[(V.bool bz36), V.undef, V.undef, V.undef, V.undef, V.undef, V.undef, V.undef, V.undef, V.undef, V.undef, V.undef, V.undef, V.undef, V.undef, V.undef, V.undef, V.undef, V.undef, V.undef, V.undef, V.undef, V.undef, V.undef, V.undef, V.undef, V.undef, V.undef, V.undef, V.undef, V.undef, V.undef, V.undef, V.undef, V.undef, V.undef, V.undef, V.undef, V.undef, V.undef, V.undef, V.undef, V.undef, V.undef, V.undef, V.undef, V.undef, V.undef, V.undef, V.undef, V.undef, V.undef, V.undef, V.undef, V.undef, V.undef, V.undef, V.undef, V.undef, V.undef, V.undef, V.undef, V.undef, V.undef, V.undef], []⟩ hz24)))))))))))))))))))))))))))))))))))))))))))))))))))))))))))))))))))))))))))))))))))))))))))))))))))) := wpA_at f10_n_plug (by kernel_rfl)
theorem f10_end1 (b0 : Bool) (h : Heap) (K : V → Heap → Prop) : bodyK Try.prog Try.f10 K Ex.ret ⟨[(V.bool b0), V.undef, V.undef, V.undef, V.undef, V.undef, V.undef, V.undef, V.undef, V.undef, V.undef, V.undef, V.undef, V.undef, V.undef, V.undef, V.undef, V.undef, V.undef, V.undef, V.undef, V.undef, V.undef, V.undef, V.undef, V.undef, V.undef, V.undef, V.undef, V.undef, V.undef, V.undef, V.undef, V.undef, V.undef, V.undef, V.undef, V.undef, V.undef, V.undef, V.undef, V.undef, V.undef, V.undef, V.undef, V.undef, V.undef, V.undef, V.undef, V.undef, V.undef, V.undef, V.undef, V.undef, V.undef, V.undef, V.undef, V.undef, V.undef, V.undef, V.undef, V.undef, V.undef, V.undef, V.undef], []⟩ h = (K (V.bool b0) h) := by kernel_rfl
end

section
open Go Go.Proofs Jb
set_option linter.unusedSimpArgs false
set_option maxRecDepth 8000

theorem e29 : enters Try.prog 29 = true := by kernel_rfl
theorem e30 : enters Try.prog 30 = true := by kernel_rfl
theorem e31 : enters Try.prog 31 = true := by kernel_rfl
theorem e7 : enters Try.prog 7 = true := by kernel_rfl
theorem e10 : enters Try.prog 10 = true := by kernel_rfl

theorem nilT : [(V.int Go.IntKind.i64 (0 : Int)), (V.int Go.IntKind.i64 (0 : Int)), (V.int Go.IntKind.i64 (0 : Int)), (V.int Go.IntKind.i64 (0 : Int)), (V.int Go.IntKind.i64 (0 : Int)), (V.int Go.IntKind.i64 (0 : Int)), (V.int Go.IntKind.i64 (0 : Int)), (V.int Go.IntKind.i64 (0 : Int)), (V.int Go.IntKind.i64 (0 : Int)), (V.int Go.IntKind.i64 (0 : Int)), (V.int Go.IntKind.i64 (0 : Int)), (V.int Go.IntKind.i64 (0 : Int)), (V.int Go.IntKind.i64 (0 : Int)), (V.int Go.IntKind.i64 (0 : Int)), (V.int Go.IntKind.i64 (0 : Int)), (V.int Go.IntKind.i64 (0 : Int)), (V.int Go.IntKind.i64 (0 : Int)), (V.int Go.IntKind.i64 (0 : Int)), (V.int Go.IntKind.i64 (0 : Int)), (V.int Go.IntKind.i64 (0 : Int)), (V.int Go.IntKind.i64 (0 : Int)), (V.int Go.IntKind.i64 (0 : Int)), (V.int Go.IntKind.i64 (0 : Int)), (V.int Go.IntKind.i64 (0 : Int)), (V.int Go.IntKind.i64 (0 : Int)), (V.int Go.IntKind.i64 (0 : Int)), (V.int Go.IntKind.i64 (0 : Int)), (V.int Go.IntKind.i64 (0 : Int)), (V.int Go.IntKind.i64 (0 : Int)), (V.int Go.IntKind.i64 (0 : Int)), (V.int Go.IntKind.i64 (0 : Int)), (V.int Go.IntKind.i64 (0 : Int)), (V.int Go.IntKind.i64 (0 : Int)), (V.int Go.IntKind.i64 (0 : Int)), (V.int Go.IntKind.i64 (0 : Int)), (V.int Go.IntKind.i64 (0 : Int)), (V.int Go.IntKind.i64 (0 : Int)), (V.int Go.IntKind.i64 (0 : Int)), (V.int Go.IntKind.i64 (0 : Int)), (V.int Go.IntKind.i64 (0 : Int)), (V.int Go.IntKind.i64 (0 : Int)), (V.int Go.IntKind.i64 (0 : Int)), (V.int Go.IntKind.i64 (0 : Int)), (V.int Go.IntKind.i64 (0 : Int)), (V.int Go.IntKind.i64 (0 : Int)), (V.int Go.IntKind.i64 (0 : Int)), (V.int Go.IntKind.i64 (0 : Int)), (V.int Go.IntKind.i64 (0 : Int)), (V.int Go.IntKind.i64 (0 : Int))] = ints (List.replicate 49 0) := rfl

theorem nilH (n : Int) : [(V.int Go.IntKind.i64 (0 : Int)), (V.int Go.IntKind.i64 (0 : Int)), (V.int Go.IntKind.i64 (0 : Int)), (V.int Go.IntKind.i64 (0 : Int)), (V.int Go.IntKind.i64 (0 : Int)), (V.int Go.IntKind.i64 (0 : Int)), (V.int Go.IntKind.i64 (0 : Int)), (V.int Go.IntKind.i64 (0 : Int)), (V.int Go.IntKind.i64 (0 : Int)), (V.int Go.IntKind.i64 (0 : Int)), (V.int Go.IntKind.i64 (0 : Int)), (V.int Go.IntKind.i64 (0 : Int)), (V.int Go.IntKind.i64 (0 : Int)), (V.int Go.IntKind.i64 (0 : Int)), (V.int Go.IntKind.i64 (0 : Int)), (V.int Go.IntKind.i64 (0 : Int)), (V.int Go.IntKind.i64 (0 : Int)), (V.int Go.IntKind.i64 (0 : Int)), (V.int Go.IntKind.i64 (0 : Int)), (V.int Go.IntKind.i64 (0 : Int)), (V.int Go.IntKind.i64 (0 : Int)), (V.int Go.IntKind.i64 (0 : Int)), (V.int Go.IntKind.i64 (0 : Int)), (V.int Go.IntKind.i64 (0 : Int)), (V.int Go.IntKind.i64 (0 : Int)), (V.int Go.IntKind.i64 (0 : Int)), (V.int Go.IntKind.i64 (0 : Int)), (V.int Go.IntKind.i64 (0 : Int)), (V.int Go.IntKind.i64 (0 : Int)), (V.int Go.IntKind.i64 (0 : Int)), (V.int Go.IntKind.i64 (0 : Int)), (V.int Go.IntKind.i64 (0 : Int)), (V.int Go.IntKind.i64 (0 : Int)), (V.int Go.IntKind.i64 (0 : Int)), (V.int Go.IntKind.i64 (0 : Int)), (V.int Go.IntKind.i64 (0 : Int)), (V.int Go.IntKind.i64 (0 : Int)), (V.int Go.IntKind.i64 (0 : Int)), (V.int Go.IntKind.i64 (0 : Int)), (V.int Go.IntKind.i64 (0 : Int)), (V.int Go.IntKind.i64 (0 : Int)), (V.int Go.IntKind.i64 (0 : Int)), (V.int Go.IntKind.i64 (0 : Int)), (V.int Go.IntKind.i64 (0 : Int)), (V.int Go.IntKind.i64 (0 : Int)), (V.int Go.IntKind.i64 (0 : Int)), (V.int Go.IntKind.i64 (0 : Int)), (V.int Go.IntKind.i64 (0 : Int)), (V.int Go.IntKind.i64 n)] = ints (List.replicate 48 0 ++ [n]) := rfl

/-- The till's copy behind so many rounds. -/
def copy (t : List Int) (i : Nat) : List Int := t.take (i * 6) ++ (List.replicate (48 - i * 6) 0 ++ [gi t 48])
theorem copy_len {t : List Int} (ht : t.length = 49) {i : Nat} (hi : i ≤ 8) : (copy t i).length = 49 := by simp [copy, ht]; omega
theorem plain_step (t : List Int) (ht : t.length = 49) {i : Nat} (hi : i < 8) : wrCells (ints (copy t i)) (i * 6) (ints (purse t i)) = ints (copy t (i + 1)) := by
  have hp := purse_len ht hi
  rw [ints_wr]
  congr 1
  have l1 : (t.take (i * 6)).length = i * 6 := by simp [ht]; omega
  unfold copy
  rw [List.take_append_of_le_length (by omega), List.take_of_length_le (by omega), hp, List.drop_append, List.drop_of_length_le (by omega), l1, List.nil_append, List.drop_append, List.drop_replicate]
  have e : t.take ((i + 1) * 6) = t.take (i * 6) ++ purse t i := by
    rw [purse, Nat.add_mul, Nat.one_mul, List.take_add]
  rw [e, show 48 - i * 6 - (i * 6 + 6 - i * 6) = 48 - (i + 1) * 6 from by omega, List.length_replicate, show i * 6 + 6 - i * 6 - (48 - i * 6) = 0 from by omega, List.drop_zero]
theorem copy_all {t : List Int} (ht : t.length = 49) : copy t 8 = t := by
  have : t = t.take 48 ++ [gi t 48] := by rw [← take_next t (by omega), List.take_of_length_le (by omega)]
  conv => rhs; rw [this]
  simp [copy]

theorem Plain_call (t : List Int) (ht : t.length = 49) (h : Heap) : CallW Try.prog 7 [.agg (ints t)] h (fun r h' => r = .agg (ints t) ∧ h' = h) := by
  refine CallW.body mix f7_cf Try.func7 (by rw [Try.ntmps7]; simp) ?_
  rw [f7_entry, f7_n_wp]
  refine ⟨by simp [ht], trivial, trivial, by simp [ht], trivial, by omega, ?_⟩
  rw [ints_num, nilT, nilH, f7_n111_eq, wpA_seq, f7_n1110_wp, f7_n111010_eq]
  refine wpA_loop (σ := Nat) (fun i => f7_n1110100_F i (ints t) (ints (List.replicate 49 0)) (ints (copy t i))) (fun _ => h) (fun i => 8 - i) (fun i => i ≤ 8) 0 rfl rfl (by omega) ?_
  intro i hi
  simp only [f7_n1110100_F]
  rw [f7_n1110100_wp]
  by_cases hlt : i < 8
  · have hp := purse_len ht hlt
    simp only [show ((i : Int) < 8) from by omega, decide_true, brW_true, Int.toNat_natCast, Nat.zero_add, ints_drop, ints_take, purse_at, ints_len, hp, ht, plain_step t ht hlt, copy_len ht hi, true_and, and_true, wrap_up i (by omega), seqK_normal]
    exact ⟨by omega, by omega, by omega, by omega, i + 1, rfl, by omega, by omega⟩
  · obtain rfl : i = 8 := by omega
    simp only [show ¬ (((8 : Nat) : Int) < 8) from by omega, decide_false, brW_false, seqK_exit, blockK_exit, if_true, seqK_normal, f7_n1111_wp, copy_all ht]
    simp [ht, take_all, wr_all, f7_end1]
theorem Plain_any {t : List Int} (ht : t.length = 49) {h : Heap} {K : V → Heap → Prop} (m : K (.agg (ints t)) h) : AnyW Try.prog 7 [.agg (ints t)] h K := AnyW.eq e7 (Plain_call t ht h) m

/-! The chapter's example. -/
def z0 : List Int := List.replicate 49 0
def z1 : List Int := z0.set 0 100
def z2 : List Int := z1.set 7 5
def z3 : List Int := z2.set 2 50
def z4 : List Int := z3.set 9 5
def zd : List Int := [0, 1, 40, 5, 50, 5, 0, 0]
def z5 : List Int := [60, 5, 0, 0, 0, 40, 40, 0, 0, 0, 0, 40] ++ List.replicate 37 0
theorem d1 : deposit z0 0 1 100 = (z1, 0) := by kernel_rfl
theorem d2 : deposit z1 1 2 5 = (z2, 0) := by kernel_rfl
theorem d3 : hold z2 0 1 50 = (z3, 0) := by kernel_rfl
theorem d4 : hold z3 1 2 5 = (z4, 0) := by kernel_rfl
theorem d5 : tradeT z4 zd = (z5, 0) := by kernel_rfl
theorem fits_of {t : List Int} (h : (decide (t.length = 49) && t.all fun n => decide (-9223372036854775808 ≤ n) && decide (n ≤ 9223372036854775807)) = true) : Fits t := by
  simp only [Bool.and_eq_true, decide_eq_true_eq, List.all_eq_true] at h
  exact ⟨h.1, fun n hn => h.2 n hn⟩

theorem lives_call (h : Heap) : CallW Try.prog 10 [] h (fun r h' => r = .bool true ∧ h' = h) := by
  refine CallW.body mix f10_cf Try.func10 (by rw [Try.ntmps10]; simp) ?_
  rw [f10_entry, f10_n_wp, nilT]
  have l0 : z0.length = 49 := rfl
  have l1 : z1.length = 49 := rfl
  have l2 : z2.length = 49 := rfl
  have l3 : z3.length = 49 := rfl
  have l4 : z4.length = 49 := rfl
  have l5 : z5.length = 49 := rfl
  have w1 : ∀ (m l : List Int), m.length = 49 → l.length = 49 → wrCells (ints m) 0 (ints l) = ints l := fun m l a b => wr_all l (by simp [a]) b
  refine ⟨trivial, by simp, AnyW.eq e29 (deposit_call z0 (fits_of (by decide)) 0 1 100 h) ?_⟩
  rw [d1, show List.replicate 49 (0 : Int) = z0 from rfl]
  simp only [isTup_tup, vs_tup, gv_zero, gv_succ, isInt_i64, num_int, cells_agg, isAgg_agg, true_and, List.length_cons, List.length_nil, decide_true, ints_len, l0, l1, w1 z0 z1 l0 l1, List.drop_zero, take_all l1]
  refine ⟨by simp, by simp, AnyW.eq e29 (deposit_call z1 (fits_of (by decide)) 1 2 5 h) ?_⟩
  rw [d2]
  simp only [isTup_tup, vs_tup, gv_zero, gv_succ, isInt_i64, num_int, cells_agg, isAgg_agg, true_and, List.length_cons, List.length_nil, decide_true, ints_len, l1, l2, w1 z1 z2 l1 l2, List.drop_zero, take_all l2]
  refine ⟨by simp, by simp, AnyW.eq e30 (hold_call z2 l2 0 1 50 h) ?_⟩
  rw [d3]
  simp only [isTup_tup, vs_tup, gv_zero, gv_succ, isInt_i64, num_int, cells_agg, isAgg_agg, true_and, List.length_cons, List.length_nil, decide_true, ints_len, l2, l3, w1 z2 z3 l2 l3, List.drop_zero, take_all l3]
  refine ⟨by simp, by simp, AnyW.eq e30 (hold_call z3 l3 1 2 5 h) ?_⟩
  rw [d4]
  simp only [isTup_tup, vs_tup, gv_zero, gv_succ, isInt_i64, num_int, cells_agg, isAgg_agg, true_and, List.length_cons, List.length_nil, decide_true, ints_len, l3, l4, w1 z3 z4 l3 l4, List.drop_zero, take_all l4]
  refine ⟨by simp, by simp, AnyW.eq e31 (trade_call z4 zd l4 rfl h) ?_⟩
  rw [d5]
  simp only [isTup_tup, vs_tup, gv_zero, gv_succ, isInt_i64, num_int, cells_agg, isAgg_agg, true_and, List.length_cons, List.length_nil, decide_true, ints_len, l4, l5, w1 z4 z5 l4 l5, List.drop_zero, take_all l5]
  have p1 : List.take 6 (ints z5) = ints [60, 5, 0, 0, 0, 40] := rfl
  have p2 : List.take 6 (List.drop 6 (ints z5)) = ints [40, 0, 0, 0, 0, 40] := rfl
  simp [p1, p2, l5, fits, eqlCells, eqlCell, kindEq, f10_end1]
theorem lives_any {h : Heap} {K : V → Heap → Prop} (m : K (.bool true) h) : AnyW Try.prog 10 [] h K := AnyW.eq e10 (lives_call h) m
end

section
set_option linter.all false
set_option maxRecDepth 100000
open Go Go.Proofs Jb
def f3_cf : Cfg := ⟨[], [(0, [0, 6]), (1, [12, 13]), (2, [14, 15, 16, 17]), (3, [1, 2, 3, 7, 18]), (4, [18, 19, 20]), (5, [1, 2, 3, 7, 21, 22]), (6, [21, 23, 24, 25, 26, 27]), (7, [28, 29, 30, 31, 32]), (8, [1, 2, 3, 7, 8, 9, 10, 11, 33, 34, 35, 36, 37, 38, 39, 40, 41, 42, 43, 44, 45, 46, 47, 48, 49, 50, 51, 52, 53, 54])]⟩
noncomputable def f3_b : Code := bodyOf Try.f3
noncomputable def f3_n : Code :=  (codeAt [] f3_b)
noncomputable def f3_n111111 : Code := hide (codeAt [1, 1, 1, 1, 1, 1] f3_b)
noncomputable def f3_n1111110 : Code := hide (codeAt [1, 1, 1, 1, 1, 1, 0] f3_b)
noncomputable def f3_n1111111 : Code := hide (codeAt [1, 1, 1, 1, 1, 1, 1] f3_b)
theorem f3_entry (t : List Int) (x : Int) (s : Int) (h : Heap) (K : V → Heap → Prop) : bodyW Try.prog f3_cf Try.f3 [(V.agg (ints t)), (V.int Go.IntKind.i64 x), (V.int Go.IntKind.i64 s)] h K = wpA Try.prog f3_cf f3_n ⟨[(V.agg (ints t)), (V.int Go.IntKind.i64 x), (V.int Go.IntKind.i64 s), V.undef, V.undef, V.undef, V.undef, V.undef, V.undef, V.undef, V.undef, V.undef, V.undef, V.undef, V.undef, V.undef, V.undef, V.undef, V.undef, V.undef, V.undef, V.undef, V.undef, V.undef, V.undef, V.undef, V.undef, V.undef, V.undef, V.undef, V.undef, V.undef, V.undef, V.undef, V.undef, V.undef, V.undef, V.undef, V.undef, V.undef, V.undef, V.undef, V.undef, V.undef, V.undef, V.undef, V.undef, V.undef, V.undef, V.undef, V.undef, V.undef, V.undef, V.undef, V.undef], []⟩ h (bodyK Try.prog Try.f3 K) := by kernel_rfl
theorem f3_n_plug : f3_n = (plug [1, 1, 1, 1, 1, 1] (codeAt [] f3_b) f3_n111111) := by
  simp only [f3_n, f3_n111111, hide_eq]
  try kernel_rfl
theorem f3_n_wp (t : List Int) (x : Int) (s : Int) (h : Heap) (Q : Ex → Fr → Heap → Prop) : wpA Try.prog f3_cf f3_n ⟨[(V.agg (ints t)), (V.int Go.IntKind.i64 x), (V.int Go.IntKind.i64 s), V.undef, V.undef, V.undef, V.undef, V.undef, V.undef, V.undef, V.undef, V.undef, V.undef, V.undef, V.undef, V.undef, V.undef, V.undef, V.undef, V.undef, V.undef, V.undef, V.undef, V.undef, V.undef, V.undef, V.undef, V.undef, V.undef, V.undef, V.undef, V.undef, V.undef, V.undef, V.undef, V.undef, V.undef, V.undef, V.undef, V.undef, V.undef, V.undef, V.undef, V.undef, V.undef, V.undef, V.undef, V.undef, V.undef, V.undef, V.undef, V.undef, V.undef, V.undef, V.undef], []⟩ h Q =
 (((List.length (ints t)) = 49) ∧ ((0 + 49 ≤ (List.length (ints t))) ∧ (let cz1 : List V := (List.take 49 (List.drop 0 (ints t)));
 (AnyW Try.prog 7 [(V.agg cz1)] h (fun (rz2 : V) (hz3 : Heap) =>
 ((True ∧ V.isAgg 49 rz2 = true) ∧ (True ∧ (((List.length (V.cells rz2)) = 49) ∧ 0 + 49 ≤ 49 ∧ (let cz4 : List V := (wrCells [(V.int Go.IntKind.i64 (0 : Int)), (V.int Go.IntKind.i64 (0 : Int)), (V.int Go.IntKind.i64 (0 : Int)), (V.int Go.IntKind.i64 (0 : Int)), (V.int Go.IntKind.i64 (0 : Int)), (V.int Go.IntKind.i64 (0 : Int)), (V.int Go.IntKind.i64 (0 : Int)), (V.int Go.IntKind.i64 (0 : Int)), (V.int Go.IntKind.i64 (0 : Int)), (V.int Go.IntKind.i64 (0 : Int)), (V.int Go.IntKind.i64 (0 : Int)), (V.int Go.IntKind.i64 (0 : Int)), (V.int Go.IntKind.i64 (0 : Int)), (V.int Go.IntKind.i64 (0 : Int)), (V.int Go.IntKind.i64 (0 : Int)), (V.int Go.IntKind.i64 (0 : Int)), (V.int Go.IntKind.i64 (0 : Int)), (V.int Go.IntKind.i64 (0 : Int)), (V.int Go.IntKind.i64 (0 : Int)), (V.int Go.IntKind.i64 (0 : Int)), (V.int Go.IntKind.i64 (0 : Int)), (V.int Go.IntKind.i64 (0 : Int)), (V.int Go.IntKind.i64 (0 : Int)), (V.int Go.IntKind.i64 (0 : Int)), (V.int Go.IntKind.i64 (0 : Int)), (V.int Go.IntKind.i64 (0 : Int)), (V.int Go.IntKind.i64 (0 : Int)), (V.int Go.IntKind.i64 (0 : Int)), (V.int Go.IntKind.i64 (0 : Int)), (V.int Go.IntKind.i64 (0 : Int)), (V.int Go.IntKind.i64 (0 : Int)), (V.int Go.IntKind.i64 (0 : Int)), (V.int Go.IntKind.i64 (0 : Int)), (V.int Go.IntKind.i64 (0 : Int)), (V.int Go.IntKind.i64 (0 : Int)), (V.int Go.IntKind.i64 (0 : Int)), (V.int Go.IntKind.i64 (0 : Int)), (V.int Go.IntKind.i64 (0 : Int)), (V.int Go.IntKind.i64 (0 : Int)), (V.int Go.IntKind.i64 (0 : Int)), (V.int Go.IntKind.i64 (0 : Int)), (V.int Go.IntKind.i64 (0 : Int)), (V.int Go.IntKind.i64 (0 : Int)), (V.int Go.IntKind.i64 (0 : Int)), (V.int Go.IntKind.i64 (0 : Int)), (V.int Go.IntKind.i64 (0 : Int)), (V.int Go.IntKind.i64 (0 : Int)), (V.int Go.IntKind.i64 (0 : Int)), (V.int Go.IntKind.i64 (0 : Int))] 0 (V.cells rz2));
 ((0 + 49 ≤ (List.length (ints t))) ∧ (let cz5 : List V := (List.take 49 (List.drop 0 (ints t)));
 ((0 + 49 ≤ (List.length cz4)) ∧ (let cz6 : List V := (List.take 49 (List.drop 0 cz4));
 (AnyW Try.prog 8 [(V.agg cz5)] hz3 (fun (rz7 : V) (hz8 : Heap) =>
 ((True ∧ V.isBool rz7 = true) ∧ (((0 + 49 ≤ (List.length cz4)) ∧ (V.agg (List.take 49 (List.drop 0 cz4))) = (V.agg cz6)) ∧ (AnyW Try.prog 9 [(V.agg cz6)] hz8 (fun (rz9 : V) (hz10 : Heap) =>
 ((True ∧ V.isBool rz9 = true) ∧ (let bz11 : Bool := (!((V.flag rz7) == (V.flag rz9)));
 (brW bz11
 (Q Ex.ret ⟨[V.undef, V.undef, V.undef, V.undef, V.undef, V.undef, (V.bool false), V.undef, V.undef, V.undef, V.undef, V.undef, V.undef, V.undef, V.undef, V.undef, V.undef, V.undef, V.undef, V.undef, V.undef, V.undef, V.undef, V.undef, V.undef, V.undef, V.undef, V.undef, V.undef, V.undef, V.undef, V.undef, V.undef, V.undef, V.undef, V.undef, V.undef, V.undef, V.undef, V.undef, V.undef, V.undef, V.undef, V.undef, V.undef, V.undef, V.undef, V.undef, V.undef, V.undef, V.undef, V.undef, V.undef, V.undef, V.undef], []⟩ hz10)
 ((0 + 49 ≤ (List.length cz4)) ∧ (let cz12 : List V := (List.take 49 (List.drop 0 cz4));
 (AnyW Try.prog 9 [(V.agg cz12)] hz10 (fun (rz13 : V) (hz14 : Heap) =>
 ((True ∧ V.isBool rz13 = true) ∧ (brW (!(V.flag rz13))
 (AnyW Try.prog 10 [] hz14 (fun (rz15 : V) (hz16 : Heap) =>
 ((True ∧ V.isBool rz15 = true) ∧ (Q Ex.ret ⟨[V.undef, V.undef, V.undef, V.undef, V.undef, V.undef, (V.bool (V.flag rz15)), V.undef, V.undef, V.undef, V.undef, V.undef, V.undef, V.undef, V.undef, V.undef, V.undef, V.undef, V.undef, V.undef, V.undef, V.undef, V.undef, V.undef, V.undef, V.undef, V.undef, V.undef, V.undef, V.undef, V.undef, V.undef, V.undef, V.undef, V.undef, V.undef, V.undef, V.undef, V.undef, V.undef, V.undef, V.undef, V.undef, V.undef, V.undef, V.undef, V.undef, V.undef, V.undef, V.undef, V.undef, V.undef, V.undef, V.undef, V.undef], []⟩ hz16))))
 ((0 + 49 ≤ (List.length (ints t))) ∧ (let cz17 : List V := (List.take 49 (List.drop 0 (ints t)));
 (AnyW Try.prog 11 [(V.agg cz17)] hz14 (fun (rz18 : V) (hz19 : Heap) =>
 (V.isTup 2 rz18 = true ∧ ((True ∧ V.isInt Go.IntKind.i64 (gv (V.vs rz18) 0) = true) ∧ (let iz20 : Int := (V.num (gv (V.vs rz18) 0));
 ((True ∧ V.isInt Go.IntKind.i64 (gv (V.vs rz18) 1) = true) ∧ (let iz21 : Int := (V.num (gv (V.vs rz18) 1));
 ((true = true) ∧ ((true = true) ∧ ((0 + 49 ≤ (List.length cz4)) ∧ (let cz22 : List V := (List.take 49 (List.drop 0 cz4));
 (AnyW Try.prog 12 [(V.agg cz22)] hz19 (fun (rz23 : V) (hz24 : Heap) =>
 (V.isTup 2 rz23 = true ∧ ((True ∧ V.isInt Go.IntKind.i64 (gv (V.vs rz23) 0) = true) ∧ (let iz25 : Int := (V.num (gv (V.vs rz23) 0));
 ((True ∧ V.isInt Go.IntKind.i64 (gv (V.vs rz23) 1) = true) ∧ (let iz26 : Int := (V.num (gv (V.vs rz23) 1));
 ((true = true) ∧ ((true = true) ∧ (wpA Try.prog f3_cf f3_n111111 ⟨[V.undef, (V.int Go.IntKind.i64 x), (V.int Go.IntKind.i64 s), (V.lp 3 0), V.undef, V.undef, V.undef, (V.lp 7 0), (V.int Go.IntKind.i64 iz20), (V.int Go.IntKind.i64 iz21), (V.int Go.IntKind.i64 iz25), (V.int Go.IntKind.i64 iz26), V.undef, V.undef, V.undef, V.undef, V.undef, V.undef, V.undef, V.undef, V.undef, V.undef, V.undef, V.undef, V.undef, V.undef, V.undef, V.undef, V.undef, V.undef, V.undef, V.undef, V.undef, V.undef, V.undef, V.undef, V.undef, V.undef, V.undef, V.undef, V.undef, V.undef, V.undef, V.undef, V.undef, V.undef, V.undef, V.undef, V.undef, V.undef, V.undef, V.undef, V.undef, V.undef, V.undef], [(3, (ints t)), (7, cz4)]⟩ hz24 Q))))))))))))))))))))))))))))))))))))))))))))))))))) := wpA_at f3_n_plug (by kernel_rfl)
theorem f3_n111111_eq : f3_n111111 = Code.seq f3_n1111110 f3_n1111111 := by
  simp only [f3_n111111, f3_n1111110, f3_n1111111, hide_eq]
  kernel_rfl
theorem f3_n1111110_plug : f3_n1111110 = (codeAt [1, 1, 1, 1, 1, 1, 0] f3_b) := by
  simp only [f3_n1111110, hide_eq]
  try kernel_rfl
theorem f3_n1111110_wp (x0 : Int) (x1 : Int) (x2 : Int) (x3 : Int) (x4 : Int) (x5 : Int) (c6 : List V) (c7 : List V) (h : Heap) (Q : Ex → Fr → Heap → Prop) : wpA Try.prog f3_cf f3_n1111110 ⟨[V.undef, (V.int Go.IntKind.i64 x0), (V.int Go.IntKind.i64 x1), (V.lp 3 0), V.undef, V.undef, V.undef, (V.lp 7 0), (V.int Go.IntKind.i64 x2), (V.int Go.IntKind.i64 x3), (V.int Go.IntKind.i64 x4), (V.int Go.IntKind.i64 x5), V.undef, V.undef, V.undef, V.undef, V.undef, V.undef, V.undef, V.undef, V.undef, V.undef, V.undef, V.undef, V.undef, V.undef, V.undef, V.undef, V.undef, V.undef, V.undef, V.undef, V.undef, V.undef, V.undef, V.undef, V.undef, V.undef, V.undef, V.undef, V.undef, V.undef, V.undef, V.undef, V.undef, V.undef, V.undef, V.undef, V.undef, V.undef, V.undef, V.undef, V.undef, V.undef, V.undef], [(3, c6), (7, c7)]⟩ h Q =
 (((x2 == x4) = true → (x2 == x4) = true) ∧ (((x2 == x4) = true → (x2 == x4) = true) ∧ ((((x2 == x4) = true → (x2 == x4) = true) ∧ True) ∧ (let bz27 : Bool := (cond (x2 == x4) (x3 == x5) false);
 ((bz27 = true → (0 + 49 ≤ (List.length c6))) ∧ (let cz28 : List V := (List.take 49 (List.drop 0 c6));
 ((bz27 = true → (0 + 49 ≤ (List.length c7))) ∧ (let cz29 : List V := (List.take 49 (List.drop 0 c7));
 (let kz30 : Int → Heap → Prop := fun (xz31 : Int) (hz32 : Heap) =>
 (((bz27 = true → (0 + 49 ≤ (List.length c7))) ∧ (V.opt bz27 (V.agg (List.take 49 (List.drop 0 c7)))) = (V.opt bz27 (V.agg cz29))) ∧ (let kz33 : Int → Heap → Prop := fun (xz34 : Int) (hz35 : Heap) =>
 ((bz27 = true → bz27 = true) ∧ ((bz27 = true → bz27 = true) ∧ (((bz27 = true → bz27 = true) ∧ True) ∧ (let bz36 : Bool := (cond bz27 (xz31 == xz34) false);
 (let kz37 : Bool → Heap → Prop := fun (xz38 : Bool) (hz39 : Heap) =>
 (((bz36 = true → bz36 = true) ∧ True) ∧ (Q Ex.normal ⟨[V.undef, V.undef, V.undef, V.undef, V.undef, V.undef, (V.bool (cond bz36 xz38 false)), V.undef, V.undef, V.undef, V.undef, V.undef, V.undef, V.undef, V.undef, V.undef, V.undef, V.undef, V.undef, V.undef, V.undef, V.undef, V.undef, V.undef, V.undef, V.undef, V.undef, V.undef, V.undef, V.undef, V.undef, V.undef, V.undef, V.undef, V.undef, V.undef, V.undef, V.undef, V.undef, V.undef, V.undef, V.undef, V.undef, V.undef, V.undef, V.undef, V.undef, V.undef, V.undef, V.undef, V.undef, V.undef, V.undef, V.undef, V.undef], []⟩ hz39));
 brW bz36
 (AnyW Try.prog 10 [] hz35 (fun (rz40 : V) (hz41 : Heap) =>
 ((True ∧ V.isBool rz40 = true) ∧ (kz37 (V.flag rz40) hz41))))
 (kz37 false hz35))))));
 brW bz27
 ((bz27 = true) ∧ ((bz27 = true) ∧ ((bz27 = true) ∧ (AnyW Try.prog 14 [(V.agg cz29), (V.int Go.IntKind.i64 x0), (V.int Go.IntKind.i64 x1)] hz32 (fun (rz42 : V) (hz43 : Heap) =>
 ((True ∧ V.isInt Go.IntKind.i64 rz42 = true) ∧ (kz33 (V.num rz42) hz43)))))))
 (kz33 (0 : Int) hz32)));
 brW bz27
 ((bz27 = true) ∧ ((bz27 = true) ∧ ((bz27 = true) ∧ (AnyW Try.prog 13 [(V.agg cz28), (V.int Go.IntKind.i64 x0), (V.int Go.IntKind.i64 x1)] h (fun (rz44 : V) (hz45 : Heap) =>
 ((True ∧ V.isInt Go.IntKind.i64 rz44 = true) ∧ (kz30 (V.num rz44) hz45)))))))
 (kz30 (0 : Int) h)))))))))) := wpA_at f3_n1111110_plug (by kernel_rfl)
theorem f3_n1111111_plug : f3_n1111111 = (codeAt [1, 1, 1, 1, 1, 1, 1] f3_b) := by
  simp only [f3_n1111111, hide_eq]
  try kernel_rfl
theorem f3_n1111111_wp (b0 : Bool) (h : Heap) (Q : Ex → Fr → Heap → Prop) : wpA Try.prog f3_cf f3_n1111111 ⟨[V.undef, V.undef, V.undef, V.undef, V.undef, V.undef, (V.bool b0), V.undef, V.undef, V.undef, V.undef, V.undef, V.undef, V.undef, V.undef, V.undef, V.undef, V.undef, V.undef, V.undef, V.undef, V.undef, V.undef, V.undef, V.undef, V.undef, V.undef, V.undef, V.undef, V.undef, V.undef, V.undef, V.undef, V.undef, V.undef, V.undef, V.undef, V.undef, V.undef, V.undef, V.undef, V.undef, V.undef, V.undef, V.undef, V.undef, V.undef, V.undef, V.undef, V.undef, V.undef, V.undef, V.undef, V.undef, V.undef], []⟩ h Q =
 (Q Ex.ret ⟨[V.undef, V.undef, V.undef, V.undef, V.undef, V.undef, (V.bool b0), V.undef, V.undef, V.undef, V.undef, V.undef, V.undef, V.undef, V.undef, V.undef, V.undef, V.undef, V.undef, V.undef, V.undef, V.undef, V.undef, V.undef, V.undef, V.undef, V.undef, V.undef, V.undef, V.undef, V.undef, V.undef, V.undef, V.undef, V.undef, V.undef, V.undef, V.undef, V.undef, V.undef, V.undef, V.undef, V.undef, V.undef, V.undef, V.undef, V.undef, V.undef, V.undef, V.undef, V.undef, V.undef, V.undef, V.undef, V.undef], []⟩ h) := wpA_at f3_n1111111_plug (by kernel_rfl)
theorem f3_end1 (b0 : Bool) (h : Heap) (K : V → Heap → Prop) : bodyK Try.prog Try.f3 K Ex.ret ⟨[V.undef, V.undef, V.undef, V.undef, V.undef, V.undef, (V.bool b0), V.undef, V.undef, V.undef, V.undef, V.undef, V.undef, V.undef, V.undef, V.undef, V.undef, V.undef, V.undef, V.undef, V.undef, V.undef, V.undef, V.undef, V.undef, V.undef, V.undef, V.undef, V.undef, V.undef, V.undef, V.undef, V.undef, V.undef, V.undef, V.undef, V.undef, V.undef, V.undef, V.undef, V.undef, V.undef, V.undef, V.undef, V.undef, V.undef, V.undef, V.undef, V.undef, V.undef, V.undef, V.undef, V.undef, V.undef, V.undef], []⟩ h = (K (V.bool b0) h) := by kernel_rfl
end

section
open Go Go.Proofs Jb
set_option linter.unusedSimpArgs false
set_option maxRecDepth 8000

theorem e8 : enters Try.prog 8 = true := by kernel_rfl
theorem e9 : enters Try.prog 9 = true := by kernel_rfl
theorem e12 : enters Try.prog 12 = true := by kernel_rfl
theorem Good_any {t : List Int} (F : Fits t) {h : Heap} {K : V → Heap → Prop} (m : K (.bool (goodT t)) h) : AnyW Try.prog 8 [.agg (ints t)] h K := AnyW.eq e8 (Good_call t F h) m
theorem refGood_any {t : List Int} (F : Fits t) {h : Heap} {K : V → Heap → Prop} (m : K (.bool (refGood t)) h) : AnyW Try.prog 9 [.agg (ints t)] h K := AnyW.eq e9 (refGood_call t F h) m
theorem refTotals_any {t : List Int} (F : Fits t) {h : Heap} {K : V → Heap → Prop} (m : K (.tup [.int .i64 (allR t 1 0).1, .int .i64 (allR t 2 0).1]) h) : AnyW Try.prog 12 [.agg (ints t)] h K := AnyW.eq e12 (refTotals_call t F h) m

/-! The plain law. -/
theorem sumR_cons0 (l : List Int) : sumR (0 :: l) = sumR l := by simp [sumR]
theorem all_1 (t : List Int) : (allR t 1 0) = ((sumR (gi t 48 :: cashes t 8)).1, decide ((sumR (gi t 48 :: cashes t 8)).2 = 0 ∧ (sumR (gi t 48 :: cashes t 8)).1 ≤ 4611686018427387904)) := by
  simp only [allR, if_true, List.cons_append, List.nil_append, sumR_cons0, fieldsT]
theorem all_2 (t : List Int) : (allR t 2 0) = ((sumR (stocks t 8)).1, decide ((sumR (stocks t 8)).2 = 0 ∧ (sumR (stocks t 8)).1 ≤ 4611686018427387904)) := by
  have : ¬ (2 : Int) = 1 := by omega
  simp only [allR, this, if_false, List.nil_append, sumR_cons0, fieldsT]

theorem sum_pos {l : List Int} (h : ∀ n ∈ l, 0 ≤ n) : 0 ≤ l.sum := by
  induction l with
  | nil => simp
  | cons a l ih =>
    have h1 := h a (by simp)
    have h2 := ih (fun n hn => h n (by simp [hn]))
    simp only [List.sum_cons]
    omega
theorem sumR_pos {l : List Int} (h : ∀ n ∈ l, 0 ≤ n) : 0 ≤ (sumR l).1 := by
  unfold sumR; split
  · exact sum_pos h
  · simp

theorem goodP_pos {p : List Int} (hp : p.length = 6) (h : goodP p = true) : ∀ n ∈ p, 0 ≤ n ∧ n ≤ 4611686018427387904 := by
  intro n hn
  unfold goodP at h
  simp only [Bool.and_eq_true, List.all_eq_true] at h
  exact (fine1_iff n).1 (h.1.1 n hn)

/-- What a good till's numbers are. -/
theorem good_field {t : List Int} (ht : t.length = 49) (h : (List.range 8).all (fun i => goodP (purse t i)) = true) {i j : Nat} (hi : i < 8) (hj : j < 6) : 0 ≤ gi t (i * 6 + j) ∧ gi t (i * 6 + j) ≤ 4611686018427387904 := by
  have hp := purse_len ht hi
  have := goodP_pos hp (List.all_eq_true.1 h i (by simp [hi])) (gi (purse t i) j) (gi_mem _ (by omega))
  rwa [purse_get t hj] at this

theorem good_same (t : List Int) (ht : t.length = 49) : goodT t = refGood t := by
  unfold goodT refGood
  cases h0 : fine1 (gi t 48) with
  | false => simp
  | true =>
    cases h1 : (List.range 8).all (fun i => goodP (purse t i)) with
    | false => simp
    | true =>
      simp only [Bool.true_and]
      rw [all_1, all_2]
      unfold totals
      simp only
      have p1 : 0 ≤ (sumR (gi t 48 :: cashes t 8)).1 := sumR_pos fun n hn => by
        rcases List.mem_cons.1 hn with rfl | hn
        · exact ((fine1_iff _).1 h0).1
        · obtain ⟨k, hk, rfl⟩ := List.mem_map.1 hn
          exact (good_field ht h1 (j := 0) (by simpa using hk) (by omega)).1
      have p2 : 0 ≤ (sumR (stocks t 8)).1 := sumR_pos fun n hn => by
        obtain ⟨k, hk, rfl⟩ := List.mem_map.1 hn
        exact (good_field ht h1 (j := 1) (by simpa using hk) (by omega)).1
      generalize sumR (gi t 48 :: cashes t 8) = a at *
      generalize sumR (stocks t 8) = b at *
      unfold fine1 Mx
      rw [Bool.eq_iff_iff]
      simp only [Bool.and_eq_true, decide_eq_true_eq]
      omega

theorem totals_same (t : List Int) : (totals t).1 = (allR t 1 0).1 ∧ (totals t).2.1 = (allR t 2 0).1 := by rw [all_1, all_2]; exact ⟨rfl, rfl⟩

theorem PurseTells_call (t : List Int) (F : Fits t) (x s : Int) (h : Heap) : CallW Try.prog 3 [.agg (ints t), .int .i64 x, .int .i64 s] h (fun r h' => r = .bool true ∧ h' = h) := by
  have ht := F.1
  refine CallW.body mix f3_cf Try.func3 (by rw [Try.ntmps3]; simp) ?_
  rw [f3_entry, f3_n_wp]
  simp only [ints_len, ht, List.drop_zero, take_all ht]
  refine ⟨trivial, by omega, Plain_any ht ?_⟩
  simp only [cells_agg, isAgg_agg, ints_len, ht, decide_true, true_and, wr_all (cs := [_, _, _, _, _, _, _, _, _, _, _, _, _, _, _, _, _, _, _, _, _, _, _, _, _, _, _, _, _, _, _, _, _, _, _, _, _, _, _, _, _, _, _, _, _, _, _, _, _]) t rfl ht, List.drop_zero, take_all ht]
  refine ⟨by omega, by omega, by omega, Good_any F ?_⟩
  simp only [isBool_bool, flag_bool, true_and]
  refine ⟨⟨by omega, trivial⟩, refGood_any F ?_⟩
  rw [good_same t ht]
  simp only [isBool_bool, flag_bool, true_and, beq_self_eq_true, Bool.not_true, brW_false]
  refine ⟨by omega, refGood_any F ?_⟩
  cases hg : refGood t with
  | false =>
    simp only [isBool_bool, flag_bool, true_and, Bool.not_false, brW_true]
    refine lives_any ?_
    simp [f3_end1]
  | true =>
    simp only [isBool_bool, flag_bool, true_and, Bool.not_true, brW_false]
    refine ⟨by omega, Totals_any F ?_⟩
    simp only [isTup_tup, vs_tup, gv_zero, gv_succ, isInt_i64, num_int, true_and, List.length_cons, List.length_nil, decide_true]
    refine ⟨by omega, refTotals_any F ?_⟩
    simp only [isTup_tup, vs_tup, gv_zero, gv_succ, isInt_i64, num_int, true_and, List.length_cons, List.length_nil, decide_true]
    rw [(totals_same t).1, (totals_same t).2, f3_n111111_eq, wpA_seq, f3_n1111110_wp]
    simp [ht, take_all]
    refine AnyW.eq e13 (free_call t ht x s h) ?_
    simp
    refine refFree_any ht ?_
    simp
    refine lives_any ?_
    simp [f3_n1111111_wp, f3_end1]
end

section
open Go Go.Proofs Jb
set_option linter.unusedSimpArgs false

/-- What a good till's numbers are. -/
structure GoodI (t : List Int) : Prop where
  len : t.length = 49
  rng : ∀ k, k < 49 → 0 ≤ gi t k ∧ gi t k ≤ 4611686018427387904
  held : ∀ k, k < 48 → (k % 6 = 2 ∨ k % 6 = 3) → gi t k ≤ gi t (k - 2)
  cash : gi t 48 + (cashes t 8).sum ≤ 4611686018427387904
  stock : (stocks t 8).sum ≤ 4611686018427387904

theorem cashes_set (t : List Int) (k : Nat) (v : Int) (hk : k < t.length) (n : Nat) : (cashes (t.set k v) n).sum = (cashes t n).sum + if k % 6 = 0 ∧ k < n * 6 then v - gi t k else 0 := by
  induction n with
  | zero => simp [cashes]
  | succ n ih =>
    rw [cashes_succ, cashes_succ, List.sum_append, List.sum_append, ih, gi_set]
    simp only [List.sum_cons, List.sum_nil]
    by_cases e : k = n * 6
    · subst e
      simp only [hk, and_true, if_true, show ¬ (n * 6 < n * 6) from by omega, and_false, if_false, show n * 6 % 6 = 0 ∧ n * 6 < (n + 1) * 6 from by omega]
      omega
    · simp only [e, false_and, if_false]
      by_cases c : k % 6 = 0 ∧ k < n * 6
      · simp only [c, and_self, if_true, show k < (n + 1) * 6 from by omega]; omega
      · simp only [c, if_false, show ¬ (k % 6 = 0 ∧ k < (n + 1) * 6) from by omega]; omega

theorem stocks_set (t : List Int) (k : Nat) (v : Int) (hk : k < t.length) (n : Nat) : (stocks (t.set k v) n).sum = (stocks t n).sum + if k % 6 = 1 ∧ k < n * 6 then v - gi t k else 0 := by
  induction n with
  | zero => simp [stocks]
  | succ n ih =>
    rw [stocks_succ, stocks_succ, List.sum_append, List.sum_append, ih, gi_set]
    simp only [List.sum_cons, List.sum_nil]
    by_cases e : k = n * 6 + 1
    · subst e
      simp only [hk, and_true, if_true, show ¬ ((n * 6 + 1) % 6 = 1 ∧ n * 6 + 1 < n * 6) from by omega, if_false, show (n * 6 + 1) % 6 = 1 ∧ n * 6 + 1 < (n + 1) * 6 from by omega]
      omega
    · simp only [e, false_and, if_false]
      by_cases c : k % 6 = 1 ∧ k < n * 6
      · simp only [c, and_self, if_true, show k < (n + 1) * 6 from by omega]; omega
      · simp only [c, if_false, show ¬ (k % 6 = 1 ∧ k < (n + 1) * 6) from by omega]; omega

theorem GoodI.fits {t : List Int} (g : GoodI t) : Fits t := ⟨g.len, fun n hn => by
  obtain ⟨k, hk, rfl⟩ := List.mem_iff_getElem.1 hn
  have := g.rng k (by rw [← g.len]; exact hk)
  rw [gi_lt t hk] at this
  unfold I64; omega⟩

theorem GoodI.sums {t : List Int} (g : GoodI t) : 0 ≤ (cashes t 8).sum ∧ 0 ≤ (stocks t 8).sum := by
  refine ⟨sum_pos fun n hn => ?_, sum_pos fun n hn => ?_⟩
  · obtain ⟨k, hk, rfl⟩ := List.mem_map.1 hn; exact (g.rng _ (by have h := List.mem_range.1 hk; omega)).1
  · obtain ⟨k, hk, rfl⟩ := List.mem_map.1 hn; exact (g.rng _ (by have h := List.mem_range.1 hk; omega)).1

theorem GoodI.totals {t : List Int} (g : GoodI t) : totals t = (gi t 48 + (cashes t 8).sum, (stocks t 8).sum, true) := by
  have s := g.sums
  have h := g.rng 48 (by omega)
  have c := g.cash
  have d := g.stock
  unfold _root_.totals
  have e1 : sumR (gi t 48 :: cashes t 8) = (gi t 48 + (cashes t 8).sum, 0) := by
    unfold sumR; rw [List.sum_cons, if_pos (by omega)]
  have e2 : sumR (stocks t 8) = ((stocks t 8).sum, 0) := by unfold sumR; rw [if_pos (by omega)]
  simp only [e1, e2]
  have f1 : fine1 (gi t 48 + (cashes t 8).sum) = true := (fine1_iff _).2 (by omega)
  have f2 : fine1 (stocks t 8).sum = true := (fine1_iff _).2 (by omega)
  simp [f1, f2]

theorem goodT_iff {t : List Int} (ht : t.length = 49) : goodT t = true ↔ GoodI t := by
  constructor
  · intro h
    unfold goodT at h
    simp only [Bool.and_eq_true] at h
    obtain ⟨⟨h0, h1⟩, h2⟩ := h
    have h0 := (fine1_iff _).1 h0
    have f : ∀ i j, i < 8 → j < 6 → 0 ≤ gi t (i * 6 + j) ∧ gi t (i * 6 + j) ≤ 4611686018427387904 := fun i j hi hj => good_field ht h1 hi hj
    have rng : ∀ k, k < 49 → 0 ≤ gi t k ∧ gi t k ≤ 4611686018427387904 := fun k hk => by
      by_cases e : k = 48
      · subst e; exact h0
      · have := f (k / 6) (k % 6) (by omega) (by omega)
        rwa [show k / 6 * 6 + k % 6 = k from by omega] at this
    have p1 : 0 ≤ (cashes t 8).sum := sum_pos fun n hn => by obtain ⟨k, hk, rfl⟩ := List.mem_map.1 hn; exact (rng _ (by have h := List.mem_range.1 hk; omega)).1
    have p2 : 0 ≤ (stocks t 8).sum := sum_pos fun n hn => by obtain ⟨k, hk, rfl⟩ := List.mem_map.1 hn; exact (rng _ (by have h := List.mem_range.1 hk; omega)).1
    unfold totals at h2
    simp only [Bool.and_eq_true, decide_eq_true_eq] at h2
    obtain ⟨⟨z1, z2⟩, q1, q2⟩ := h2
    have q1 := (fine1_iff _).1 q1
    have q2 := (fine1_iff _).1 q2
    unfold sumR at z1 z2 q1 q2
    rw [List.sum_cons] at z1 q1
    refine ⟨ht, rng, fun k hk hm => ?_, ?_, ?_⟩
    · have := List.all_eq_true.1 h1 (k / 6) (by simp; omega)
      unfold goodP at this
      simp only [Bool.and_eq_true, decide_eq_true_eq] at this
      rw [purse_get t (by omega), purse_get t (by omega), purse_get t (by omega), purse_get t (by omega)] at this
      rcases hm with e | e
      · have := this.1.2
        rwa [show k / 6 * 6 + 2 = k from by omega, show k / 6 * 6 + 0 = k - 2 from by omega] at this
      · have := this.2
        rwa [show k / 6 * 6 + 3 = k from by omega, show k / 6 * 6 + 1 = k - 2 from by omega] at this
    · split at q1
      · exact q1.2
      · rename_i c; rw [if_neg c] at z1; simp at z1
    · split at q2
      · exact q2.2
      · rename_i c; rw [if_neg c] at z2; simp at z2
  · intro g
    unfold goodT
    rw [g.totals]
    simp only [Bool.and_true, Bool.and_eq_true, List.all_eq_true]
    refine ⟨(fine1_iff _).2 (g.rng 48 (by omega)), fun i hi => ?_⟩
    have hi : i < 8 := by simpa using hi
    unfold goodP
    simp only [Bool.and_eq_true, decide_eq_true_eq, List.all_eq_true]
    rw [purse_get t (by omega), purse_get t (by omega), purse_get t (by omega), purse_get t (by omega)]
    refine ⟨⟨fun n hn => ?_, ?_⟩, ?_⟩
    · obtain ⟨j, hj, rfl⟩ := List.mem_iff_getElem.1 hn
      have hp := purse_len ht hi
      rw [← gi_lt _ hj, purse_get t (by omega)]
      exact (fine1_iff _).2 (g.rng _ (by omega))
    · have := g.held (i * 6 + 2) (by omega) (by omega)
      rwa [show i * 6 + 2 - 2 = i * 6 + 0 from by omega] at this
    · have := g.held (i * 6 + 3) (by omega) (by omega)
      rwa [show i * 6 + 3 - 2 = i * 6 + 1 from by omega] at this

/-! Wraps. -/
theorem wrap_add (x y : Int) : IntKind.i64.wrap (x + IntKind.i64.wrap y) = IntKind.i64.wrap (x + y) := by simp only [wrap_i64]; omega
theorem set_same (t : List Int) (k : Nat) : t.set k (gi t k) = t := by
  by_cases h : k < t.length
  · rw [gi_lt t h]; exact List.set_getElem_self h
  · exact List.set_eq_of_length_le (by omega)
theorem Fits.wrap {t : List Int} (F : Fits t) (k : Nat) : IntKind.i64.wrap (gi t k) = gi t k := by
  have := F.get k; unfold I64 at this; exact Go.IntWalk.i64_in _ this
theorem Fits.set {t : List Int} (F : Fits t) (k : Nat) {v : Int} (hv : I64 v) : Fits (t.set k v) := by
  refine ⟨by simp [F.1], fun n hn => ?_⟩
  rcases List.mem_or_eq_of_mem_set hn with h | h
  · exact F.2 n h
  · rw [h]; exact hv
theorem wrap_I64 (n : Int) : I64 (IntKind.i64.wrap n) := by unfold I64; rw [wrap_i64]; omega
/-- So much more there, and nothing held. -/
theorem putT_there {t : List Int} (F : Fits t) (x s n : Int) : putT t x s n 0 = t.set (at_ x s) (IntKind.i64.wrap (gi t (at_ x s) + n)) := by
  unfold putT
  rw [Int.add_zero, F.wrap]
  have : gi t (at_ x s + 2) = gi (t.set (at_ x s) (IntKind.i64.wrap (gi t (at_ x s) + n))) (at_ x s + 2) := by rw [gi_set, if_neg (by omega)]
  rw [this, set_same]
theorem putT_held {t : List Int} (F : Fits t) (x s m : Int) : putT t x s 0 m = t.set (at_ x s + 2) (IntKind.i64.wrap (gi t (at_ x s + 2) + m)) := by
  unfold putT
  rw [Int.add_zero, F.wrap, set_same]
theorem putT_fits {t : List Int} (F : Fits t) (x s n m : Int) : Fits (putT t x s n m) := (F.set _ (wrap_I64 _)).set _ (wrap_I64 _)
theorem wrap_sub' (x n : Int) : IntKind.i64.wrap (x + IntKind.i64.wrap (0 - n)) = IntKind.i64.wrap (x - n) := by rw [wrap_add]; congr 1; omega

theorem at_facts {x s : Int} (hi : isA x s = true) : at_ x s + 2 < 48 ∧ (at_ x s % 6 = if s = 1 then 0 else 1) ∧ (s = 1 ∨ s = 2) := by
  have h := isA_iff.1 hi
  unfold at_
  refine ⟨?_, ?_, h.2.2⟩ <;> split <;> omega

theorem hold_same {t : List Int} (F : Fits t) (x s n : Int) : hold t x s n = refHold t x s n := by
  unfold hold refHold; rw [putT_held F]
theorem release_same {t : List Int} (F : Fits t) (x s n : Int) : release t x s n = refRelease t x s n := by
  unfold release refRelease; rw [putT_held F, wrap_sub']
theorem withdraw_same {t : List Int} (F : Fits t) (x s n : Int) : withdraw t x s n = refWithdraw t x s n := by
  unfold withdraw refWithdraw
  rw [putT_there F, wrap_sub']
  have e : IntKind.i64.wrap (free t x s - if s = 1 then gi t (x.toNat * 6 + 4) else 0) = if s = 1 then IntKind.i64.wrap (free t x s - gi t (x.toNat * 6 + 4)) else free t x s := by
    split
    · rfl
    · rw [Int.sub_zero]; unfold free; split
      · exact Go.IntWalk.i64_in _ (wrap_I64 _)
      · rfl
  rw [e]
  have c : (isA x s = false ∨ n < 1 ∨ fine1 n = false) ↔ (isA x s = false ∨ n < 1 ∨ 4611686018427387904 < n) := by
    rw [fine1_no]
    by_cases h : n < 1
    · simp [h]
    · have : ¬ n < 0 := by omega
      simp [h, this]
  by_cases h : isA x s = false ∨ n < 1 ∨ fine1 n = false
  · rw [if_pos h, if_pos (c.1 h)]
  · rw [if_neg h, if_neg (mt c.2 h)]
theorem deposit_same {t : List Int} (g : GoodI t) (x s n : Int) : deposit t x s n = refDeposit t x s n := by
  have F := g.fits
  unfold deposit refDeposit
  rw [putT_there F]
  have c : (isA x s = false ∨ n < 1 ∨ fine1 n = false) ↔ (isA x s = false ∨ n < 1 ∨ 4611686018427387904 < n) := by
    rw [fine1_no]
    by_cases h : n < 1
    · simp [h]
    · have : ¬ n < 0 := by omega
      simp [h, this]
  by_cases h : isA x s = false ∨ n < 1 ∨ fine1 n = false
  · rw [if_pos h, if_pos (c.1 h)]
  · rw [if_neg h, if_neg (mt c.2 h)]
    have h' := mt c.2 h
    have hi : isA x s = true := by cases hi : isA x s with | true => rfl | false => exact (h (.inl hi)).elim
    have hs := (at_facts hi).2.2
    have su := g.sums
    have hc := g.rng 48 (by omega)
    have cc := g.cash
    have ss := g.stock
    rw [g.totals]
    have key : (IntKind.i64.wrap (4611686018427387904 - n) < (if s = 2 then (stocks t 8).sum else gi t 48 + (cashes t 8).sum)) ↔ (allR t s n).2 = false := by
      rw [Go.IntWalk.i64_in _ (by omega)]
      unfold allR sumR fieldsT
      simp only [decide_eq_false_iff_not]
      rcases hs with rfl | rfl
      · simp only [if_true, show ¬ ((1 : Int) = 2) from by omega, if_false, List.sum_cons, List.cons_append, List.nil_append]
        split <;> simp <;> omega
      · simp only [if_true, show ¬ ((2 : Int) = 1) from by omega, if_false, List.sum_cons, List.nil_append]
        split <;> simp <;> omega
    by_cases k : (allR t s n).2 = false
    · rw [if_pos (key.2 k), if_pos k]
    · rw [if_neg (mt key.1 k), if_neg k]
end

section
open Go Go.Proofs Jb
set_option linter.unusedSimpArgs false

def tc (t : List Int) : Int := gi t 48 + (cashes t 8).sum
def ts (t : List Int) : Int := (stocks t 8).sum

theorem cash_le {t : List Int} (g : GoodI t) {p : Nat} (hp : p < 48) (hm : p % 6 = 0) : gi t p ≤ (cashes t 8).sum := by
  have h := cashes_set t p 0 (by rw [g.len]; omega) 8
  rw [if_pos ⟨hm, by omega⟩] at h
  have : 0 ≤ (cashes (t.set p 0) 8).sum := sum_pos fun n hn => by
    obtain ⟨k, hk, rfl⟩ := List.mem_map.1 hn
    have hk := List.mem_range.1 hk
    rw [gi_set]
    split
    · omega
    · exact (g.rng _ (by omega)).1
  omega
theorem stock_le {t : List Int} (g : GoodI t) {p : Nat} (hp : p < 48) (hm : p % 6 = 1) : gi t p ≤ (stocks t 8).sum := by
  have h := stocks_set t p 0 (by rw [g.len]; omega) 8
  rw [if_pos ⟨hm, by omega⟩] at h
  have : 0 ≤ (stocks (t.set p 0) 8).sum := sum_pos fun n hn => by
    obtain ⟨k, hk, rfl⟩ := List.mem_map.1 hn
    have hk := List.mem_range.1 hk
    rw [gi_set]
    split
    · omega
    · exact (g.rng _ (by omega)).1
  omega

/-- One number is another one. -/
theorem good_put {t : List Int} (g : GoodI t) {p : Nat} {v : Int} (hp : p < 49) (hv : 0 ≤ v ∧ v ≤ 4611686018427387904) (h1 : p < 48 → p % 6 = 2 ∨ p % 6 = 3 → v ≤ gi t (p - 2)) (h2 : p < 48 → p % 6 = 0 ∨ p % 6 = 1 → gi t (p + 2) ≤ v)
    (h3 : p = 48 ∨ p % 6 = 0 → tc t + (v - gi t p) ≤ 4611686018427387904) (h4 : p < 48 → p % 6 = 1 → ts t + (v - gi t p) ≤ 4611686018427387904) :
    GoodI (t.set p v) ∧ tc (t.set p v) = tc t + (if p = 48 ∨ p % 6 = 0 then v - gi t p else 0) ∧ ts (t.set p v) = ts t + (if p < 48 ∧ p % 6 = 1 then v - gi t p else 0) := by
  have hl : p < t.length := by rw [g.len]; exact hp
  have e1 : tc (t.set p v) = tc t + (if p = 48 ∨ p % 6 = 0 then v - gi t p else 0) := by
    unfold tc
    rw [cashes_set t p v hl, gi_set]
    by_cases e : p = 48
    · subst e; simp [hl]; omega
    · have : (p % 6 = 0 ∧ p < 8 * 6) ↔ (p = 48 ∨ p % 6 = 0) := by omega
      simp only [e, false_and, if_false, this, false_or]
      omega
  have e2 : ts (t.set p v) = ts t + (if p < 48 ∧ p % 6 = 1 then v - gi t p else 0) := by
    unfold ts
    rw [stocks_set t p v hl]
    have : (p % 6 = 1 ∧ p < 8 * 6) ↔ (p < 48 ∧ p % 6 = 1) := by omega
    simp only [this]
  refine ⟨⟨by simp [g.len], fun k hk => ?_, fun k hk hm => ?_, ?_, ?_⟩, e1, e2⟩
  · rw [gi_set]; split
    · exact hv
    · exact g.rng k hk
  · have gk := g.held k hk hm
    rw [gi_set, gi_set]
    by_cases a : p = k
    · subst a
      rw [if_pos ⟨rfl, hl⟩, if_neg (by omega)]
      exact h1 hk hm
    · rw [if_neg (fun h => a h.1)]
      by_cases b : p = k - 2
      · subst b
        rw [if_pos ⟨rfl, hl⟩]
        have := h2 (by omega) (by omega)
        rwa [show k - 2 + 2 = k from by omega] at this
      · rw [if_neg (fun h => b h.1)]; exact gk
  · have := g.cash
    change tc (t.set p v) ≤ _
    rw [e1]
    split
    · rename_i c; exact h3 c
    · unfold tc; omega
  · have := g.stock
    change ts (t.set p v) ≤ _
    rw [e2]
    split
    · rename_i c; exact h4 c.1 c.2
    · unfold ts; omega

/-- Held. -/
theorem good_held {t : List Int} (g : GoodI t) {p : Nat} {v : Int} (hp : p < 48) (hm : p % 6 = 2 ∨ p % 6 = 3) (hv : 0 ≤ v ∧ v ≤ gi t (p - 2)) : GoodI (t.set p v) ∧ tc (t.set p v) = tc t ∧ ts (t.set p v) = ts t := by
  have := g.rng (p - 2) (by omega)
  obtain ⟨a, b, c⟩ := good_put g (p := p) (v := v) (by omega) ⟨hv.1, by omega⟩ (fun _ _ => hv.2) (fun _ h => by omega) (fun h => by omega) (fun _ h => by omega)
  rw [if_neg (by omega)] at b c
  exact ⟨a, by omega, by omega⟩
/-- Owed, traded for. -/
theorem good_owed {t : List Int} (g : GoodI t) {p : Nat} {v : Int} (hp : p < 48) (hm : p % 6 = 4 ∨ p % 6 = 5) (hv : 0 ≤ v ∧ v ≤ 4611686018427387904) : GoodI (t.set p v) ∧ tc (t.set p v) = tc t ∧ ts (t.set p v) = ts t := by
  obtain ⟨a, b, c⟩ := good_put g (p := p) (v := v) (by omega) hv (fun _ h => by omega) (fun _ h => by omega) (fun h => by omega) (fun _ h => by omega)
  rw [if_neg (by omega)] at b c
  exact ⟨a, by omega, by omega⟩
/-- There: cash. -/
theorem good_cash {t : List Int} (g : GoodI t) {p : Nat} {d : Int} (hp : p < 48) (hm : p % 6 = 0) (h1 : gi t (p + 2) ≤ gi t p + d) (h2 : tc t + d ≤ 4611686018427387904) : GoodI (t.set p (gi t p + d)) ∧ tc (t.set p (gi t p + d)) = tc t + d ∧ ts (t.set p (gi t p + d)) = ts t := by
  have r := g.rng (p + 2) (by omega)
  have r0 := g.rng p (by omega)
  have le := cash_le g hp hm
  have h48 := g.rng 48 (by omega)
  have : gi t p ≤ tc t := by unfold tc; omega
  obtain ⟨a, b, c⟩ := good_put g (p := p) (v := gi t p + d) (by omega) ⟨by omega, by omega⟩ (fun _ h => by omega) (fun _ _ => h1) (fun h => by omega) (fun _ h => by omega)
  rw [if_pos (.inr hm)] at b
  rw [if_neg (by omega)] at c
  exact ⟨a, by omega, by omega⟩
/-- There: stock. -/
theorem good_stock {t : List Int} (g : GoodI t) {p : Nat} {d : Int} (hp : p < 48) (hm : p % 6 = 1) (h1 : gi t (p + 2) ≤ gi t p + d) (h2 : ts t + d ≤ 4611686018427387904) : GoodI (t.set p (gi t p + d)) ∧ tc (t.set p (gi t p + d)) = tc t ∧ ts (t.set p (gi t p + d)) = ts t + d := by
  have r := g.rng (p + 2) (by omega)
  have r0 := g.rng p (by omega)
  have le := stock_le g hp hm
  have : gi t p ≤ ts t := le
  obtain ⟨a, b, c⟩ := good_put g (p := p) (v := gi t p + d) (by omega) ⟨by omega, by omega⟩ (fun _ h => by omega) (fun _ _ => h1) (fun h => by omega) (fun _ h => by omega)
  rw [if_neg (by omega)] at b
  rw [if_pos ⟨hp, hm⟩] at c
  exact ⟨a, by omega, by omega⟩
/-- The house's. -/
theorem good_house {t : List Int} (g : GoodI t) {d : Int} (h0 : 0 ≤ d) (h2 : tc t + d ≤ 4611686018427387904) : GoodI (t.set 48 (gi t 48 + d)) ∧ tc (t.set 48 (gi t 48 + d)) = tc t + d ∧ ts (t.set 48 (gi t 48 + d)) = ts t := by
  have r0 := g.rng 48 (by omega)
  have su := g.sums
  have : gi t 48 ≤ tc t := by unfold tc; omega
  obtain ⟨a, b, c⟩ := good_put g (p := 48) (v := gi t 48 + d) (by omega) ⟨by omega, by omega⟩ (fun h => by omega) (fun h => by omega) (fun h => by omega) (fun h => by omega)
  rw [if_pos (.inl rfl)] at b
  rw [if_neg (by omega)] at c
  exact ⟨a, by omega, by omega⟩

theorem free_eq {t : List Int} (g : GoodI t) {x s : Int} (hi : isA x s = true) : free t x s = gi t (at_ x s) - gi t (at_ x s + 2) ∧ gi t (at_ x s + 2) ≤ gi t (at_ x s) := by
  have f := at_facts hi
  have a := g.rng (at_ x s) (by omega)
  have b := g.rng (at_ x s + 2) (by omega)
  have h := g.held (at_ x s + 2) (by omega) (by have := f.2.1; split at this <;> omega)
  rw [show at_ x s + 2 - 2 = at_ x s from by omega] at h
  unfold free
  rw [if_pos hi, Go.IntWalk.i64_in _ (by omega)]
  exact ⟨rfl, h⟩

/-- A till behind a call: good; its totals. -/
def After (t t' : List Int) (a b : Int) : Prop := GoodI t' ∧ tc t' = tc t + a ∧ ts t' = ts t + b

theorem After.refl {t : List Int} (g : GoodI t) : After t t 0 0 := ⟨g, by omega, by omega⟩

theorem hold_after {t : List Int} (g : GoodI t) (x s n : Int) : After t (hold t x s n).1 0 0 := by
  unfold hold
  split
  · exact .refl g
  split
  · exact .refl g
  rename_i h1 h2
  have hi : isA x s = true := by cases h : isA x s with | true => rfl | false => exact (h1 (.inl h)).elim
  have hn := (fine1_iff n).1 (by cases h : fine1 n with | true => rfl | false => exact (h1 (.inr h)).elim)
  have f := at_facts hi
  have fr := free_eq g hi
  have a := g.rng (at_ x s) (by omega)
  have b := g.rng (at_ x s + 2) (by omega)
  rw [Go.IntWalk.i64_in _ (by omega)]
  obtain ⟨p, q, r⟩ := good_held g (p := at_ x s + 2) (v := gi t (at_ x s + 2) + n) (by omega) (by have := f.2.1; split at this <;> omega) ⟨by omega, by rw [show at_ x s + 2 - 2 = at_ x s from by omega]; omega⟩
  exact ⟨p, by simp only; omega, by simp only; omega⟩

theorem release_after {t : List Int} (g : GoodI t) (x s n : Int) : After t (release t x s n).1 0 0 := by
  unfold release
  split
  · exact .refl g
  split
  · exact .refl g
  rename_i h1 h2
  have hi : isA x s = true := by cases h : isA x s with | true => rfl | false => exact (h1 (.inl h)).elim
  have hn := (fine1_iff n).1 (by cases h : fine1 n with | true => rfl | false => exact (h1 (.inr h)).elim)
  have f := at_facts hi
  have fr := free_eq g hi
  have b := g.rng (at_ x s + 2) (by omega)
  rw [Go.IntWalk.i64_in _ (by omega)]
  obtain ⟨p, q, r⟩ := good_held g (p := at_ x s + 2) (v := gi t (at_ x s + 2) - n) (by omega) (by have := f.2.1; split at this <;> omega) ⟨by omega, by rw [show at_ x s + 2 - 2 = at_ x s from by omega]; omega⟩
  exact ⟨p, by simp only; omega, by simp only; omega⟩

/-- So much more there. -/
theorem there_after {t : List Int} (g : GoodI t) {x s d : Int} (hi : isA x s = true) (h1 : gi t (at_ x s + 2) ≤ gi t (at_ x s) + d) (h2 : (if s = 1 then tc t else ts t) + d ≤ 4611686018427387904) : After t (t.set (at_ x s) (gi t (at_ x s) + d)) (if s = 1 then d else 0) (if s = 1 then 0 else d) := by
  have f := at_facts hi
  rcases f.2.2 with rfl | rfl
  · obtain ⟨p, q, r⟩ := good_cash g (p := at_ x 1) (d := d) (by omega) (by have := f.2.1; simpa using this) h1 (by simpa using h2)
    exact ⟨p, by simpa using q, by simp [r]⟩
  · obtain ⟨p, q, r⟩ := good_stock g (p := at_ x 2) (d := d) (by omega) (by have := f.2.1; simpa using this) h1 (by simpa using h2)
    exact ⟨p, by simp [q], by simpa using r⟩

theorem withdraw_after {t : List Int} (g : GoodI t) (x s n : Int) : After t (withdraw t x s n).1 0 0 ∧ (withdraw t x s n).1 = t ∨ (1 ≤ n ∧ isA x s = true ∧ After t (withdraw t x s n).1 (if s = 1 then -n else 0) (if s = 1 then 0 else -n)) := by
  unfold withdraw
  by_cases h1 : isA x s = false ∨ n < 1 ∨ fine1 n = false
  · rw [if_pos h1]; exact .inl ⟨.refl g, rfl⟩
  rw [if_neg h1]
  by_cases h2 : IntKind.i64.wrap (free t x s - if s = 1 then gi t (x.toNat * 6 + 4) else 0) < n
  · rw [if_pos h2]; exact .inl ⟨.refl g, rfl⟩
  rw [if_neg h2]
  right
  have hi : isA x s = true := by cases h : isA x s with | true => rfl | false => exact (h1 (.inl h)).elim
  have hn := (fine1_iff n).1 (by cases h : fine1 n with | true => rfl | false => exact (h1 (.inr (.inr h))).elim)
  have hn1 : 1 ≤ n := by have := fun h => h1 (.inr (.inl h)); omega
  have f := at_facts hi
  have fr := free_eq g hi
  have a := g.rng (at_ x s) (by omega)
  have b := g.rng (at_ x s + 2) (by omega)
  have k : 0 ≤ (if s = 1 then gi t (x.toNat * 6 + 4) else 0) ∧ (if s = 1 then gi t (x.toNat * 6 + 4) else 0) ≤ 4611686018427387904 := by
    split
    · exact g.rng _ (by have := isA_iff.1 hi; omega)
    · omega
  rw [fr.1, Go.IntWalk.i64_in _ (by omega)] at h2
  rw [Go.IntWalk.i64_in _ (by omega)]
  have le : (if s = 1 then tc t else ts t) ≤ 4611686018427387904 := by
    split
    · exact g.cash
    · exact g.stock
  have := there_after g (x := x) (s := s) (d := -n) hi (by omega) (by omega)
  rw [show gi t (at_ x s) + -n = gi t (at_ x s) - n from by omega] at this
  exact ⟨hn1, hi, this⟩

theorem deposit_after {t : List Int} (g : GoodI t) (x s n : Int) : After t (deposit t x s n).1 0 0 ∧ (deposit t x s n).1 = t ∨ (1 ≤ n ∧ isA x s = true ∧ After t (deposit t x s n).1 (if s = 1 then n else 0) (if s = 1 then 0 else n)) := by
  unfold deposit
  by_cases h1 : isA x s = false ∨ n < 1 ∨ fine1 n = false
  · rw [if_pos h1]; exact .inl ⟨.refl g, rfl⟩
  rw [if_neg h1]
  by_cases h2 : IntKind.i64.wrap (4611686018427387904 - n) < (if s = 2 then (totals t).2.1 else (totals t).1)
  · rw [if_pos h2]; exact .inl ⟨.refl g, rfl⟩
  rw [if_neg h2]
  right
  have hi : isA x s = true := by cases h : isA x s with | true => rfl | false => exact (h1 (.inl h)).elim
  have hn := (fine1_iff n).1 (by cases h : fine1 n with | true => rfl | false => exact (h1 (.inr (.inr h))).elim)
  have hn1 : 1 ≤ n := by have := fun h => h1 (.inr (.inl h)); omega
  have f := at_facts hi
  have fr := free_eq g hi
  have a := g.rng (at_ x s) (by omega)
  rw [g.totals, Go.IntWalk.i64_in _ (by omega)] at h2
  have h2 : (if s = 1 then tc t else ts t) + n ≤ 4611686018427387904 := by
    rcases f.2.2 with rfl | rfl
    · simp at h2; unfold tc; simp; omega
    · simp at h2; unfold ts; simp; omega
  have le : gi t (at_ x s) ≤ (if s = 1 then tc t else ts t) := by
    rcases f.2.2 with rfl | rfl
    · have := cash_le g (p := at_ x 1) (by omega) (by have := f.2.1; simpa using this)
      have := g.rng 48 (by omega)
      simp [tc]; omega
    · have := stock_le g (p := at_ x 2) (by omega) (by have := f.2.1; simpa using this)
      simpa [ts] using this
  rw [Go.IntWalk.i64_in _ (by omega)]
  exact ⟨hn1, hi, there_after g hi (by omega) h2⟩

theorem settle_same {t : List Int} (F : Fits t) (x : Int) : settleT t x = refSettle t x := by
  unfold settleT refSettle
  by_cases h1 : isA x 1 = false
  · rw [if_pos h1, if_pos h1]
  have hi : isA x 1 = true := by cases h : isA x 1 with | true => rfl | false => exact (h1 h).elim
  have hx := isA_iff.1 hi
  rw [if_neg h1, if_neg h1]
  have ef : free t x 1 = IntKind.i64.wrap (gi t (x.toNat * 6) - gi t (x.toNat * 6 + 2)) := by unfold free; rw [if_pos hi]; rfl
  rw [ef]
  simp only
  have ea : at_ x 1 = x.toNat * 6 := rfl
  have hb : x.toNat * 6 + 5 < 48 := by omega
  rw [putT_there F, wrap_sub', ea]
  have hl := F.1
  generalize x.toNat * 6 = b at *
  by_cases h2 : gi t (b + 4) = 0
  · rw [if_pos h2, if_pos h2]
  rw [if_neg h2, if_neg h2]
  generalize (if IntKind.i64.wrap (gi t b - gi t (b + 2)) < gi t (b + 4) then IntKind.i64.wrap (gi t b - gi t (b + 2)) else gi t (b + 4)) = n
  by_cases h3 : n = 0
  · rw [if_pos h3, if_pos h3]
  rw [if_neg h3, if_neg h3]
  simp only [gi_set, show ¬ (b = b + 4) from by omega, show ¬ (b + 4 = 48) from by omega, show ¬ (b = 48) from by omega, false_and, if_false]
  rw [List.set_comm _ _ (show b + 4 ≠ b by omega)]

theorem settle_after {t : List Int} (g : GoodI t) (x : Int) : After t (settleT t x).1 0 0 := by
  unfold settleT
  by_cases h1 : isA x 1 = false
  · rw [if_pos h1]; exact .refl g
  have hi : isA x 1 = true := by cases h : isA x 1 with | true => rfl | false => exact (h1 h).elim
  have hx := isA_iff.1 hi
  rw [if_neg h1]
  simp only
  have hb : x.toNat * 6 + 5 < 48 := by omega
  have hm : x.toNat * 6 % 6 = 0 := by omega
  generalize x.toNat * 6 = b at *
  by_cases h2 : gi t (b + 4) = 0
  · rw [if_pos h2]; exact .refl g
  rw [if_neg h2]
  have r0 := g.rng b (by omega)
  have r2 := g.rng (b + 2) (by omega)
  have r4 := g.rng (b + 4) (by omega)
  have h48 := g.rng 48 (by omega)
  have hh := g.held (b + 2) (by omega) (by omega)
  rw [show b + 2 - 2 = b from by omega] at hh
  rw [Go.IntWalk.i64_in (gi t b - gi t (b + 2)) (by omega)]
  have hn : 0 ≤ (if gi t b - gi t (b + 2) < gi t (b + 4) then gi t b - gi t (b + 2) else gi t (b + 4)) ∧ (if gi t b - gi t (b + 2) < gi t (b + 4) then gi t b - gi t (b + 2) else gi t (b + 4)) ≤ gi t b - gi t (b + 2) ∧ (if gi t b - gi t (b + 2) < gi t (b + 4) then gi t b - gi t (b + 2) else gi t (b + 4)) ≤ gi t (b + 4) := by split <;> omega
  generalize (if gi t b - gi t (b + 2) < gi t (b + 4) then gi t b - gi t (b + 2) else gi t (b + 4)) = n at *
  by_cases h3 : n = 0
  · rw [if_pos h3]; exact .refl g
  rw [if_neg h3]
  have cc := g.cash
  have le := cash_le g (p := b) (by omega) hm
  rw [Go.IntWalk.i64_in (gi t (b + 4) - n) (by omega), Go.IntWalk.i64_in (gi t b - n) (by omega), Go.IntWalk.i64_in (gi t 48 + n) (by omega)]
  obtain ⟨g1, c1, s1⟩ := good_owed g (p := b + 4) (v := gi t (b + 4) - n) (by omega) (by omega) (by omega)
  generalize hT : t.set (b + 4) (gi t (b + 4) - n) = t1 at *
  have e0 : gi t1 b = gi t b := by rw [← hT, gi_set, if_neg (by omega)]
  have e2 : gi t1 (b + 2) = gi t (b + 2) := by rw [← hT, gi_set, if_neg (by omega)]
  have e48 : gi t1 48 = gi t 48 := by rw [← hT, gi_set, if_neg (by omega)]
  have tt : tc t ≤ 4611686018427387904 := cc
  obtain ⟨g2, c2, s2⟩ := good_cash g1 (p := b) (d := -n) (by omega) hm (by omega) (by omega)
  rw [e0, show gi t b + -n = gi t b - n from by omega] at g2 c2 s2
  have e48' : gi (t1.set b (gi t b - n)) 48 = gi t 48 := by rw [gi_set, if_neg (by omega), e48]
  obtain ⟨g3, c3, s3⟩ := good_house g2 (d := n) hn.1 (by omega)
  rw [e48'] at g3 c3 s3
  exact ⟨g3, by simp only; omega, by simp only; omega⟩
end

section
open Go Go.Proofs Jb
set_option linter.unusedSimpArgs false

theorem capped_rng (a b : Int) : 0 ≤ capped a b ∧ capped a b ≤ 4611686018427387904 := by
  unfold capped Mx
  split
  · omega
  · split <;> omega

theorem fineD_all {d : List Int} (hd : d.length = 8) (h : fineD d = true) : ∀ k, 2 ≤ k → k < 8 → 0 ≤ gi d k ∧ gi d k ≤ 4611686018427387904 := by
  intro k h1 h2
  unfold fineD at h
  have := List.all_eq_true.1 h (gi d k) (by
    have := gi_drop d (k - 2) 2
    rw [show 2 + (k - 2) = k from by omega] at this
    rw [← this]
    exact gi_mem _ (by simp [hd]; omega))
  exact (fine1_iff _).1 this

/-- A deal's three tills. -/
def tr1 (t d : List Int) : List Int := t.set ((gi d 0).toNat * 6 + 2) (gi t ((gi d 0).toNat * 6 + 2) - gi d 4)
def tr2 (t d : List Int) : List Int := (tr1 t d).set ((gi d 1).toNat * 6 + 3) (gi (tr1 t d) ((gi d 1).toNat * 6 + 3) - gi d 5)

theorem owe_good {t : List Int} (g : GoodI t) {b : Nat} (hb : b + 5 < 48) (hm : b % 6 = 0) (f v : Int) : GoodI (oweT t b f v) ∧ tc (oweT t b f v) = tc t ∧ ts (oweT t b f v) = ts t := by
  unfold oweT
  obtain ⟨g1, c1, s1⟩ := good_owed g (p := b + 4) (v := capped (gi t (b + 4)) f) (by omega) (by omega) (capped_rng _ _)
  obtain ⟨g2, c2, s2⟩ := good_owed g1 (p := b + 5) (v := capped (gi t (b + 5)) v) (by omega) (by omega) (capped_rng _ _)
  exact ⟨g2, by omega, by omega⟩

theorem trade_both {t d : List Int} (g : GoodI t) (hd : d.length = 8) : tradeT t d = refTrade t d ∧ After t (tradeT t d).1 0 0 := by
  unfold tradeT refTrade
  by_cases h1 : isA (gi d 0) 1 = false ∨ isA (gi d 1) 1 = false ∨ fineD d = false
  · rw [if_pos h1, if_pos h1]; exact ⟨rfl, .refl g⟩
  rw [if_neg h1, if_neg h1]
  have hi0 : isA (gi d 0) 1 = true := by cases h : isA (gi d 0) 1 with | true => rfl | false => exact (h1 (.inl h)).elim
  have hi1 : isA (gi d 1) 1 = true := by cases h : isA (gi d 1) 1 with | true => rfl | false => exact (h1 (.inr (.inl h))).elim
  have hf : fineD d = true := by cases h : fineD d with | true => rfl | false => exact (h1 (.inr (.inr h))).elim
  have x0 := isA_iff.1 hi0
  have x1 := isA_iff.1 hi1
  have hj0 : isA (gi d 0) 2 = true := isA_iff.2 ⟨x0.1, x0.2.1, .inr rfl⟩
  have hj1 : isA (gi d 1) 2 = true := isA_iff.2 ⟨x1.1, x1.2.1, .inr rfl⟩
  have fd := fineD_all hd hf
  have f2 := fd 2 (by omega) (by omega)
  have f3 := fd 3 (by omega) (by omega)
  have f4 := fd 4 (by omega) (by omega)
  have f5 := fd 5 (by omega) (by omega)
  have e4 : fine1 (gi d 4) = true := (fine1_iff _).2 f4
  have e5 : fine1 (gi d 5) = true := (fine1_iff _).2 f5
  have ab : at_ (gi d 0) 1 = (gi d 0).toNat * 6 := rfl
  have ab2 : at_ (gi d 0) 2 = (gi d 0).toNat * 6 + 1 := rfl
  have as1 : at_ (gi d 1) 1 = (gi d 1).toNat * 6 := rfl
  have as2 : at_ (gi d 1) 2 = (gi d 1).toNat * 6 + 1 := rfl
  have bb : (gi d 0).toNat * 6 + 5 < 48 := by omega
  have ss : (gi d 1).toNat * 6 + 5 < 48 := by omega
  have mb : (gi d 0).toNat * 6 % 6 = 0 := by omega
  have ms : (gi d 1).toNat * 6 % 6 = 0 := by omega
  -- the releases
  have r1 : refRelease t (gi d 0) 1 (gi d 4) = if gi t ((gi d 0).toNat * 6 + 2) < gi d 4 then (t, 53) else (t.set ((gi d 0).toNat * 6 + 2) (IntKind.i64.wrap (gi t ((gi d 0).toNat * 6 + 2) - gi d 4)), 0) := by
    unfold refRelease; rw [if_neg (by simp [hi0, e4]), putT_held g.fits, wrap_sub', ab]
  rw [r1]
  have hfree : ∀ (t : List Int), free t (gi d 0) 1 = IntKind.i64.wrap (gi t ((gi d 0).toNat * 6) - gi t ((gi d 0).toNat * 6 + 2)) := fun t => by unfold free; rw [if_pos hi0]; rfl
  have hfree2 : ∀ (t : List Int), free t (gi d 1) 2 = IntKind.i64.wrap (gi t ((gi d 1).toNat * 6 + 1) - gi t ((gi d 1).toNat * 6 + 3)) := fun t => by unfold free; rw [if_pos hj1]; rfl
  have hrel : ∀ (t : List Int), Fits t → refRelease t (gi d 1) 2 (gi d 5) = if gi t ((gi d 1).toNat * 6 + 3) < gi d 5 then (t, 53) else (t.set ((gi d 1).toNat * 6 + 3) (IntKind.i64.wrap (gi t ((gi d 1).toNat * 6 + 3) - gi d 5)), 0) := fun t F => by
    unfold refRelease; rw [if_neg (by simp [hj1, e5]), putT_held F, wrap_sub', as2]
  have hput0 : ∀ (t : List Int) (n : Int), Fits t → putT t (gi d 0) 1 (IntKind.i64.wrap (0 - n)) 0 = t.set ((gi d 0).toNat * 6) (IntKind.i64.wrap (gi t ((gi d 0).toNat * 6) - n)) := fun t n F => by rw [putT_there F, wrap_sub', ab]
  have hput1 : ∀ (t : List Int) (n : Int), Fits t → putT t (gi d 1) 1 n 0 = t.set ((gi d 1).toNat * 6) (IntKind.i64.wrap (gi t ((gi d 1).toNat * 6) + n)) := fun t n F => by rw [putT_there F, as1]
  have hput2 : ∀ (t : List Int) (n : Int), Fits t → putT t (gi d 1) 2 (IntKind.i64.wrap (0 - n)) 0 = t.set ((gi d 1).toNat * 6 + 1) (IntKind.i64.wrap (gi t ((gi d 1).toNat * 6 + 1) - n)) := fun t n F => by rw [putT_there F, wrap_sub', as2]
  have hput3 : ∀ (t : List Int) (n : Int), Fits t → putT t (gi d 0) 2 n 0 = t.set ((gi d 0).toNat * 6 + 1) (IntKind.i64.wrap (gi t ((gi d 0).toNat * 6 + 1) + n)) := fun t n F => by rw [putT_there F, ab2]
  clear r1 ab ab2 as1 as2
  generalize (gi d 0).toNat * 6 = b at *
  generalize (gi d 1).toNat * 6 = s at *
  have hb2 := g.rng (b + 2) (by omega)
  have hs3 := g.rng (s + 3) (by omega)
  have hl := g.len
  by_cases c1 : gi t (b + 2) < gi d 4
  · rw [if_pos c1, if_pos (show (53 : Int) ≠ 0 by omega)]
    rw [if_pos]
    · exact ⟨rfl, .refl g⟩
    · left
      rw [gi_set, if_neg (by omega), gi_set, if_pos ⟨rfl, by omega⟩, Go.IntWalk.i64_in _ (by omega)]; omega
  rw [if_neg c1, if_neg (show ¬ ((0 : Int) ≠ 0) by omega)]
  simp only
  have hh2 := g.held (b + 2) (by omega) (by omega)
  rw [show b + 2 - 2 = b from by omega] at hh2
  have w1 : IntKind.i64.wrap (gi t (b + 2) - gi d 4) = gi t (b + 2) - gi d 4 := Go.IntWalk.i64_in _ (by omega)
  obtain ⟨g1, q1, p1⟩ := good_held g (p := b + 2) (v := gi t (b + 2) - gi d 4) (by omega) (by omega) ⟨by omega, by rw [show b + 2 - 2 = b from by omega]; omega⟩
  rw [w1]
  have eb2 : gi (t.set (b + 2) (gi t (b + 2) - gi d 4)) (b + 2) = gi t (b + 2) - gi d 4 := by rw [gi_set, if_pos ⟨rfl, by omega⟩]
  have es3 : gi (t.set (b + 2) (gi t (b + 2) - gi d 4)) (s + 3) = gi t (s + 3) := by rw [gi_set, if_neg (by omega)]
  generalize t.set (b + 2) (gi t (b + 2) - gi d 4) = t1 at *
  rw [hrel t1 g1.fits]
  have hl1 := g1.len
  by_cases c2 : gi t1 (s + 3) < gi d 5
  · rw [if_pos c2, if_pos (show (53 : Int) ≠ 0 by omega)]
    rw [if_pos]
    · exact ⟨rfl, .refl g⟩
    · right; left
      rw [gi_set, if_pos ⟨rfl, by omega⟩, Go.IntWalk.i64_in _ (by omega)]; omega
  rw [if_neg c2, if_neg (show ¬ ((0 : Int) ≠ 0) by omega)]
  simp only
  have hh3 := g1.held (s + 3) (by omega) (by omega)
  rw [show s + 3 - 2 = s + 1 from by omega] at hh3
  have w2 : IntKind.i64.wrap (gi t1 (s + 3) - gi d 5) = gi t1 (s + 3) - gi d 5 := Go.IntWalk.i64_in _ (by omega)
  obtain ⟨g2, q2, p2⟩ := good_held g1 (p := s + 3) (v := gi t1 (s + 3) - gi d 5) (by omega) (by omega) ⟨by omega, by rw [show s + 3 - 2 = s + 1 from by omega]; omega⟩
  rw [w2]
  generalize t1.set (s + 3) (gi t1 (s + 3) - gi d 5) = t2 at *
  have k2 := g2.rng (b + 2) (by omega)
  have k3 := g2.rng (s + 3) (by omega)
  have kb := g2.rng b (by omega)
  have ks1 := g2.rng (s + 1) (by omega)
  rw [hfree, hfree2]
  by_cases c3 : IntKind.i64.wrap (gi t2 b - gi t2 (b + 2)) < gi d 2 ∨ IntKind.i64.wrap (gi t2 (s + 1) - gi t2 (s + 3)) < gi d 3
  · rw [if_pos c3, if_pos (.inr (.inr c3))]
    exact ⟨rfl, .refl g⟩
  rw [if_neg c3, if_neg (by rintro (h | h | h); exact absurd h (by omega); exact absurd h (by omega); exact c3 h)]
  have c4 : ¬ (IntKind.i64.wrap (gi t2 b - gi t2 (b + 2)) < gi d 2) := fun h => c3 (.inl h)
  have c5 : ¬ (IntKind.i64.wrap (gi t2 (s + 1) - gi t2 (s + 3)) < gi d 3) := fun h => c3 (.inr h)
  rw [Go.IntWalk.i64_in _ (by omega)] at c4 c5
  have F2 := g2.fits
  rw [hput0 t2 _ F2, hput1 _ _ (F2.set _ (wrap_I64 _)), hput2 _ _ ((F2.set _ (wrap_I64 _)).set _ (wrap_I64 _)), hput3 _ _ (((F2.set _ (wrap_I64 _)).set _ (wrap_I64 _)).set _ (wrap_I64 _))]
  refine ⟨rfl, ?_⟩
  clear hput0 hput1 hput2 hput3 hrel hfree hfree2
  have cc := g.cash
  have sc := g.stock
  have tt : tc t ≤ 4611686018427387904 := cc
  have tt' : ts t ≤ 4611686018427387904 := sc
  -- cash goes
  have v1 : IntKind.i64.wrap (gi t2 b - gi d 2) = gi t2 b + -gi d 2 := by rw [Go.IntWalk.i64_in _ (by omega)]; omega
  obtain ⟨g3, q3, p3⟩ := good_cash g2 (p := b) (d := -gi d 2) (by omega) mb (by omega) (by omega)
  rw [v1]
  have es1 : gi (t2.set b (gi t2 b + -gi d 2)) (s + 1) = gi t2 (s + 1) ∧ gi (t2.set b (gi t2 b + -gi d 2)) (s + 3) = gi t2 (s + 3) := by
    constructor <;> rw [gi_set, if_neg (by omega)]
  generalize t2.set b (gi t2 b + -gi d 2) = t3 at *
  have k4 := g3.rng s (by omega)
  have le3 := cash_le g3 (p := s) (by omega) ms
  have k48 := g3.rng 48 (by omega)
  have hs2 := g3.held (s + 2) (by omega) (by omega)
  rw [show s + 2 - 2 = s from by omega] at hs2
  have tcs : gi t3 s ≤ tc t3 := by unfold tc; omega
  have v2 : IntKind.i64.wrap (gi t3 s + gi d 2) = gi t3 s + gi d 2 := Go.IntWalk.i64_in _ (by omega)
  obtain ⟨g4, q4, p4⟩ := good_cash g3 (p := s) (d := gi d 2) (by omega) ms (by omega) (by omega)
  rw [v2]
  have es2 : gi (t3.set s (gi t3 s + gi d 2)) (s + 1) = gi t3 (s + 1) ∧ gi (t3.set s (gi t3 s + gi d 2)) (s + 3) = gi t3 (s + 3) := by
    constructor <;> rw [gi_set, if_neg (by omega)]
  generalize t3.set s (gi t3 s + gi d 2) = t4 at *
  -- stock goes
  have v3 : IntKind.i64.wrap (gi t4 (s + 1) - gi d 3) = gi t4 (s + 1) + -gi d 3 := by rw [Go.IntWalk.i64_in _ (by omega)]; omega
  obtain ⟨g5, q5, p5⟩ := good_stock g4 (p := s + 1) (d := -gi d 3) (by omega) (by omega) (by rw [show s + 1 + 2 = s + 3 from by omega]; omega) (by omega)
  rw [v3]
  generalize t4.set (s + 1) (gi t4 (s + 1) + -gi d 3) = t5 at *
  have k5 := g5.rng (b + 1) (by omega)
  have le5 : gi t5 (b + 1) ≤ ts t5 := stock_le g5 (p := b + 1) (by omega) (by omega)
  have hb3 := g5.held (b + 3) (by omega) (by omega)
  rw [show b + 3 - 2 = b + 1 from by omega] at hb3
  have v4 : IntKind.i64.wrap (gi t5 (b + 1) + gi d 3) = gi t5 (b + 1) + gi d 3 := Go.IntWalk.i64_in _ (by omega)
  obtain ⟨g6, q6, p6⟩ := good_stock g5 (p := b + 1) (d := gi d 3) (by omega) (by omega) (by rw [show b + 1 + 2 = b + 3 from by omega]; omega) (by omega)
  rw [v4]
  generalize t5.set (b + 1) (gi t5 (b + 1) + gi d 3) = t6 at *
  obtain ⟨g7, q7, p7⟩ := owe_good g6 (b := b) (by omega) mb (gi d 6) (gi d 2)
  obtain ⟨g8, q8, p8⟩ := owe_good g7 (b := s) (by omega) ms (gi d 7) (gi d 2)
  exact ⟨g8, by simp only; omega, by simp only; omega⟩
end

section
set_option linter.all false
set_option maxRecDepth 100000
open Go Go.Proofs Jb
def f15_cf : Cfg := ⟨[], [(0, [0, 1, 5]), (1, [13, 14]), (2, [15, 16]), (3, [9, 10]), (5, [17]), (6, [2, 12, 19, 20, 21, 22, 23, 24, 25, 26, 131]), (7, [3, 6, 27, 28, 29, 30, 31, 32, 33, 34]), (8, [36]), (9, [2, 18, 35, 37, 38, 39, 40, 41, 42, 43, 44, 45, 46, 47]), (10, [3, 6, 48, 49, 50, 51, 52, 53, 54, 55, 56, 57, 58]), (11, [35, 60]), (12, [2, 18, 59, 61, 62, 63, 64, 65, 66, 67, 68, 69, 70, 71]), (13, [3, 6, 72, 73, 74, 75, 76, 77, 78, 79, 80, 81, 82]), (14, [59, 84]), (15, [2, 18, 83, 85, 86, 87, 88, 89, 90, 91, 92, 93, 94, 95]), (16, [3, 6, 96, 97, 98, 99, 100, 101, 102, 103, 104, 105, 106]), (17, [83, 108]), (18, [2, 18, 107, 109, 110, 111, 112, 113, 114, 115, 116, 117, 118, 119]), (19, [3, 6, 120, 121, 122, 123, 124, 125, 126, 127, 128, 129, 130]), (20, [18, 107, 132]), (21, [2, 131, 133, 134, 135, 136, 137, 138, 139]), (22, [3, 6, 140, 141, 142, 143, 144, 145, 146]), (23, [7, 8, 9, 10, 11, 12, 147, 148, 149, 150, 151, 152, 153, 154, 155, 156, 157, 158, 159, 160, 161])]⟩
noncomputable def f15_b : Code := bodyOf Try.f15
noncomputable def f15_n : Code :=  (codeAt [] f15_b)
noncomputable def f15_n11111 : Code := hide (codeAt [1, 1, 1, 1, 1] f15_b)
noncomputable def f15_n111110 : Code := hide (codeAt [1, 1, 1, 1, 1, 0] f15_b)
noncomputable def f15_n111111 : Code := hide (codeAt [1, 1, 1, 1, 1, 1] f15_b)
theorem f15_entry (t : List Int) (o : List Int) (h : Heap) (K : V → Heap → Prop) : bodyW Try.prog f15_cf Try.f15 [(V.agg (ints t)), (V.agg (ints o))] h K = wpA Try.prog f15_cf f15_n ⟨[(V.agg (ints t)), (V.agg (ints o)), V.undef, V.undef, V.undef, V.undef, V.undef, V.undef, V.undef, V.undef, V.undef, V.undef, V.undef, V.undef, V.undef, V.undef, V.undef, V.undef, V.undef, V.undef, V.undef, V.undef, V.undef, V.undef, V.undef, V.undef, V.undef, V.undef, V.undef, V.undef, V.undef, V.undef, V.undef, V.undef, V.undef, V.undef, V.undef, V.undef, V.undef, V.undef, V.undef, V.undef, V.undef, V.undef, V.undef, V.undef, V.undef, V.undef, V.undef, V.undef, V.undef, V.undef, V.undef, V.undef, V.undef, V.undef, V.undef, V.undef, V.undef, V.undef, V.undef, V.undef, V.undef, V.undef, V.undef, V.undef, V.undef, V.undef, V.undef, V.undef, V.undef, V.undef, V.undef, V.undef, V.undef, V.undef, V.undef, V.undef, V.undef, V.undef, V.undef, V.undef, V.undef, V.undef, V.undef, V.undef, V.undef, V.undef, V.undef, V.undef, V.undef, V.undef, V.undef, V.undef, V.undef, V.undef, V.undef, V.undef, V.undef, V.undef, V.undef, V.undef, V.undef, V.undef, V.undef, V.undef, V.undef, V.undef, V.undef, V.undef, V.undef, V.undef, V.undef, V.undef, V.undef, V.undef, V.undef, V.undef, V.undef, V.undef, V.undef, V.undef, V.undef, V.undef, V.undef, V.undef, V.undef, V.undef, V.undef, V.undef, V.undef, V.undef, V.undef, V.undef, V.undef, V.undef, V.undef, V.undef, V.undef, V.undef, V.undef, V.undef, V.undef, V.undef, V.undef, V.undef, V.undef, V.undef, V.undef, V.undef, V.undef, V.undef, V.undef, V.undef, V.undef, V.undef, V.undef, V.undef, V.undef, V.undef, V.undef, V.undef], []⟩ h (bodyK Try.prog Try.f15 K) := by kernel_rfl
theorem f15_n_plug : f15_n = (plug [1, 1, 1, 1, 1] (codeAt [] f15_b) f15_n11111) := by
  simp only [f15_n, f15_n11111, hide_eq]
  try kernel_rfl
theorem f15_n_wp (t : List Int) (o : List Int) (h : Heap) (Q : Ex → Fr → Heap → Prop) : wpA Try.prog f15_cf f15_n ⟨[(V.agg (ints t)), (V.agg (ints o)), V.undef, V.undef, V.undef, V.undef, V.undef, V.undef, V.undef, V.undef, V.undef, V.undef, V.undef, V.undef, V.undef, V.undef, V.undef, V.undef, V.undef, V.undef, V.undef, V.undef, V.undef, V.undef, V.undef, V.undef, V.undef, V.undef, V.undef, V.undef, V.undef, V.undef, V.undef, V.undef, V.undef, V.undef, V.undef, V.undef, V.undef, V.undef, V.undef, V.undef, V.undef, V.undef, V.undef, V.undef, V.undef, V.undef, V.undef, V.undef, V.undef, V.undef, V.undef, V.undef, V.undef, V.undef, V.undef, V.undef, V.undef, V.undef, V.undef, V.undef, V.undef, V.undef, V.undef, V.undef, V.undef, V.undef, V.undef, V.undef, V.undef, V.undef, V.undef, V.undef, V.undef, V.undef, V.undef, V.undef, V.undef, V.undef, V.undef, V.undef, V.undef, V.undef, V.undef, V.undef, V.undef, V.undef, V.undef, V.undef, V.undef, V.undef, V.undef, V.undef, V.undef, V.undef, V.undef, V.undef, V.undef, V.undef, V.undef, V.undef, V.undef, V.undef, V.undef, V.undef, V.undef, V.undef, V.undef, V.undef, V.undef, V.undef, V.undef, V.undef, V.undef, V.undef, V.undef, V.undef, V.undef, V.undef, V.undef, V.undef, V.undef, V.undef, V.undef, V.undef, V.undef, V.undef, V.undef, V.undef, V.undef, V.undef, V.undef, V.undef, V.undef, V.undef, V.undef, V.undef, V.undef, V.undef, V.undef, V.undef, V.undef, V.undef, V.undef, V.undef, V.undef, V.undef, V.undef, V.undef, V.undef, V.undef, V.undef, V.undef, V.undef, V.undef, V.undef, V.undef, V.undef, V.undef, V.undef, V.undef], []⟩ h Q =
 (((List.length (ints t)) = 49) ∧ (((List.length (ints o)) = 12) ∧ (True ∧ ((0 + 49 ≤ (List.length (ints t))) ∧ (let cz1 : List V := (List.take 49 (List.drop 0 (ints t)));
 (AnyW Try.prog 7 [(V.agg cz1)] h (fun (rz2 : V) (hz3 : Heap) =>
 ((True ∧ V.isAgg 49 rz2 = true) ∧ (True ∧ (((List.length (V.cells rz2)) = 49) ∧ 0 + 49 ≤ 49 ∧ (let cz4 : List V := (wrCells [(V.int Go.IntKind.i64 (0 : Int)), (V.int Go.IntKind.i64 (0 : Int)), (V.int Go.IntKind.i64 (0 : Int)), (V.int Go.IntKind.i64 (0 : Int)), (V.int Go.IntKind.i64 (0 : Int)), (V.int Go.IntKind.i64 (0 : Int)), (V.int Go.IntKind.i64 (0 : Int)), (V.int Go.IntKind.i64 (0 : Int)), (V.int Go.IntKind.i64 (0 : Int)), (V.int Go.IntKind.i64 (0 : Int)), (V.int Go.IntKind.i64 (0 : Int)), (V.int Go.IntKind.i64 (0 : Int)), (V.int Go.IntKind.i64 (0 : Int)), (V.int Go.IntKind.i64 (0 : Int)), (V.int Go.IntKind.i64 (0 : Int)), (V.int Go.IntKind.i64 (0 : Int)), (V.int Go.IntKind.i64 (0 : Int)), (V.int Go.IntKind.i64 (0 : Int)), (V.int Go.IntKind.i64 (0 : Int)), (V.int Go.IntKind.i64 (0 : Int)), (V.int Go.IntKind.i64 (0 : Int)), (V.int Go.IntKind.i64 (0 : Int)), (V.int Go.IntKind.i64 (0 : Int)), (V.int Go.IntKind.i64 (0 : Int)), (V.int Go.IntKind.i64 (0 : Int)), (V.int Go.IntKind.i64 (0 : Int)), (V.int Go.IntKind.i64 (0 : Int)), (V.int Go.IntKind.i64 (0 : Int)), (V.int Go.IntKind.i64 (0 : Int)), (V.int Go.IntKind.i64 (0 : Int)), (V.int Go.IntKind.i64 (0 : Int)), (V.int Go.IntKind.i64 (0 : Int)), (V.int Go.IntKind.i64 (0 : Int)), (V.int Go.IntKind.i64 (0 : Int)), (V.int Go.IntKind.i64 (0 : Int)), (V.int Go.IntKind.i64 (0 : Int)), (V.int Go.IntKind.i64 (0 : Int)), (V.int Go.IntKind.i64 (0 : Int)), (V.int Go.IntKind.i64 (0 : Int)), (V.int Go.IntKind.i64 (0 : Int)), (V.int Go.IntKind.i64 (0 : Int)), (V.int Go.IntKind.i64 (0 : Int)), (V.int Go.IntKind.i64 (0 : Int)), (V.int Go.IntKind.i64 (0 : Int)), (V.int Go.IntKind.i64 (0 : Int)), (V.int Go.IntKind.i64 (0 : Int)), (V.int Go.IntKind.i64 (0 : Int)), (V.int Go.IntKind.i64 (0 : Int)), (V.int Go.IntKind.i64 (0 : Int))] 0 (V.cells rz2));
 ((0 + 49 ≤ (List.length (ints t))) ∧ (let cz5 : List V := (List.take 49 (List.drop 0 (ints t)));
 ((0 + 49 ≤ (List.length cz4)) ∧ (let cz6 : List V := (List.take 49 (List.drop 0 cz4));
 (True ∧ (True ∧ (((List.length cz5) = 49) ∧ 0 + 49 ≤ 49 ∧ (let cz7 : List V := (wrCells [(V.int Go.IntKind.i64 (0 : Int)), (V.int Go.IntKind.i64 (0 : Int)), (V.int Go.IntKind.i64 (0 : Int)), (V.int Go.IntKind.i64 (0 : Int)), (V.int Go.IntKind.i64 (0 : Int)), (V.int Go.IntKind.i64 (0 : Int)), (V.int Go.IntKind.i64 (0 : Int)), (V.int Go.IntKind.i64 (0 : Int)), (V.int Go.IntKind.i64 (0 : Int)), (V.int Go.IntKind.i64 (0 : Int)), (V.int Go.IntKind.i64 (0 : Int)), (V.int Go.IntKind.i64 (0 : Int)), (V.int Go.IntKind.i64 (0 : Int)), (V.int Go.IntKind.i64 (0 : Int)), (V.int Go.IntKind.i64 (0 : Int)), (V.int Go.IntKind.i64 (0 : Int)), (V.int Go.IntKind.i64 (0 : Int)), (V.int Go.IntKind.i64 (0 : Int)), (V.int Go.IntKind.i64 (0 : Int)), (V.int Go.IntKind.i64 (0 : Int)), (V.int Go.IntKind.i64 (0 : Int)), (V.int Go.IntKind.i64 (0 : Int)), (V.int Go.IntKind.i64 (0 : Int)), (V.int Go.IntKind.i64 (0 : Int)), (V.int Go.IntKind.i64 (0 : Int)), (V.int Go.IntKind.i64 (0 : Int)), (V.int Go.IntKind.i64 (0 : Int)), (V.int Go.IntKind.i64 (0 : Int)), (V.int Go.IntKind.i64 (0 : Int)), (V.int Go.IntKind.i64 (0 : Int)), (V.int Go.IntKind.i64 (0 : Int)), (V.int Go.IntKind.i64 (0 : Int)), (V.int Go.IntKind.i64 (0 : Int)), (V.int Go.IntKind.i64 (0 : Int)), (V.int Go.IntKind.i64 (0 : Int)), (V.int Go.IntKind.i64 (0 : Int)), (V.int Go.IntKind.i64 (0 : Int)), (V.int Go.IntKind.i64 (0 : Int)), (V.int Go.IntKind.i64 (0 : Int)), (V.int Go.IntKind.i64 (0 : Int)), (V.int Go.IntKind.i64 (0 : Int)), (V.int Go.IntKind.i64 (0 : Int)), (V.int Go.IntKind.i64 (0 : Int)), (V.int Go.IntKind.i64 (0 : Int)), (V.int Go.IntKind.i64 (0 : Int)), (V.int Go.IntKind.i64 (0 : Int)), (V.int Go.IntKind.i64 (0 : Int)), (V.int Go.IntKind.i64 (0 : Int)), (V.int Go.IntKind.i64 (0 : Int))] 0 cz5);
 (((0 + 49 ≤ (List.length cz4)) ∧ (V.agg (List.take 49 (List.drop 0 cz4))) = (V.agg cz6)) ∧ (((List.length cz6) = 49) ∧ 0 + 49 ≤ 49 ∧ (let cz8 : List V := (wrCells [(V.int Go.IntKind.i64 (0 : Int)), (V.int Go.IntKind.i64 (0 : Int)), (V.int Go.IntKind.i64 (0 : Int)), (V.int Go.IntKind.i64 (0 : Int)), (V.int Go.IntKind.i64 (0 : Int)), (V.int Go.IntKind.i64 (0 : Int)), (V.int Go.IntKind.i64 (0 : Int)), (V.int Go.IntKind.i64 (0 : Int)), (V.int Go.IntKind.i64 (0 : Int)), (V.int Go.IntKind.i64 (0 : Int)), (V.int Go.IntKind.i64 (0 : Int)), (V.int Go.IntKind.i64 (0 : Int)), (V.int Go.IntKind.i64 (0 : Int)), (V.int Go.IntKind.i64 (0 : Int)), (V.int Go.IntKind.i64 (0 : Int)), (V.int Go.IntKind.i64 (0 : Int)), (V.int Go.IntKind.i64 (0 : Int)), (V.int Go.IntKind.i64 (0 : Int)), (V.int Go.IntKind.i64 (0 : Int)), (V.int Go.IntKind.i64 (0 : Int)), (V.int Go.IntKind.i64 (0 : Int)), (V.int Go.IntKind.i64 (0 : Int)), (V.int Go.IntKind.i64 (0 : Int)), (V.int Go.IntKind.i64 (0 : Int)), (V.int Go.IntKind.i64 (0 : Int)), (V.int Go.IntKind.i64 (0 : Int)), (V.int Go.IntKind.i64 (0 : Int)), (V.int Go.IntKind.i64 (0 : Int)), (V.int Go.IntKind.i64 (0 : Int)), (V.int Go.IntKind.i64 (0 : Int)), (V.int Go.IntKind.i64 (0 : Int)), (V.int Go.IntKind.i64 (0 : Int)), (V.int Go.IntKind.i64 (0 : Int)), (V.int Go.IntKind.i64 (0 : Int)), (V.int Go.IntKind.i64 (0 : Int)), (V.int Go.IntKind.i64 (0 : Int)), (V.int Go.IntKind.i64 (0 : Int)), (V.int Go.IntKind.i64 (0 : Int)), (V.int Go.IntKind.i64 (0 : Int)), (V.int Go.IntKind.i64 (0 : Int)), (V.int Go.IntKind.i64 (0 : Int)), (V.int Go.IntKind.i64 (0 : Int)), (V.int Go.IntKind.i64 (0 : Int)), (V.int Go.IntKind.i64 (0 : Int)), (V.int Go.IntKind.i64 (0 : Int)), (V.int Go.IntKind.i64 (0 : Int)), (V.int Go.IntKind.i64 (0 : Int)), (V.int Go.IntKind.i64 (0 : Int)), (V.int Go.IntKind.i64 (0 : Int))] 0 cz6);
 (wpA Try.prog f15_cf f15_n11111 ⟨[V.undef, V.undef, (V.lp 2 0), (V.lp 3 0), (V.lp 4 0), V.undef, (V.lp 6 0), (V.lp 7 0), (V.lp 8 0), V.undef, V.undef, (V.int Go.IntKind.i64 (0 : Int)), (V.int Go.IntKind.i64 (0 : Int)), V.undef, V.undef, V.undef, V.undef, V.undef, V.undef, V.undef, V.undef, V.undef, V.undef, V.undef, V.undef, V.undef, V.undef, V.undef, V.undef, V.undef, V.undef, V.undef, V.undef, V.undef, V.undef, V.undef, V.undef, V.undef, V.undef, V.undef, V.undef, V.undef, V.undef, V.undef, V.undef, V.undef, V.undef, V.undef, V.undef, V.undef, V.undef, V.undef, V.undef, V.undef, V.undef, V.undef, V.undef, V.undef, V.undef, V.undef, V.undef, V.undef, V.undef, V.undef, V.undef, V.undef, V.undef, V.undef, V.undef, V.undef, V.undef, V.undef, V.undef, V.undef, V.undef, V.undef, V.undef, V.undef, V.undef, V.undef, V.undef, V.undef, V.undef, V.undef, V.undef, V.undef, V.undef, V.undef, V.undef, V.undef, V.undef, V.undef, V.undef, V.undef, V.undef, V.undef, V.undef, V.undef, V.undef, V.undef, V.undef, V.undef, V.undef, V.undef, V.undef, V.undef, V.undef, V.undef, V.undef, V.undef, V.undef, V.undef, V.undef, V.undef, V.undef, V.undef, V.undef, V.undef, V.undef, V.undef, V.undef, V.undef, V.undef, V.undef, V.undef, V.undef, V.undef, V.undef, V.undef, V.undef, V.undef, V.undef, V.undef, V.undef, V.undef, V.undef, V.undef, V.undef, V.undef, V.undef, V.undef, V.undef, V.undef, V.undef, V.undef, V.undef, V.undef, V.undef, V.undef, V.undef, V.undef, V.undef, V.undef, V.undef, V.undef, V.undef, V.undef, V.undef, V.undef, V.undef, V.undef, V.undef], [(2, (ints t)), (3, (ints o)), (4, [(V.int Go.IntKind.i64 (0 : Int)), (V.int Go.IntKind.i64 (0 : Int)), (V.int Go.IntKind.i64 (0 : Int)), (V.int Go.IntKind.i64 (0 : Int)), (V.int Go.IntKind.i64 (0 : Int)), (V.int Go.IntKind.i64 (0 : Int)), (V.int Go.IntKind.i64 (0 : Int)), (V.int Go.IntKind.i64 (0 : Int)), (V.int Go.IntKind.i64 (0 : Int)), (V.int Go.IntKind.i64 (0 : Int)), (V.int Go.IntKind.i64 (0 : Int)), (V.int Go.IntKind.i64 (0 : Int)), (V.int Go.IntKind.i64 (0 : Int)), (V.int Go.IntKind.i64 (0 : Int)), (V.int Go.IntKind.i64 (0 : Int)), (V.int Go.IntKind.i64 (0 : Int)), (V.int Go.IntKind.i64 (0 : Int)), (V.int Go.IntKind.i64 (0 : Int)), (V.int Go.IntKind.i64 (0 : Int)), (V.int Go.IntKind.i64 (0 : Int)), (V.int Go.IntKind.i64 (0 : Int)), (V.int Go.IntKind.i64 (0 : Int)), (V.int Go.IntKind.i64 (0 : Int)), (V.int Go.IntKind.i64 (0 : Int)), (V.int Go.IntKind.i64 (0 : Int)), (V.int Go.IntKind.i64 (0 : Int)), (V.int Go.IntKind.i64 (0 : Int)), (V.int Go.IntKind.i64 (0 : Int)), (V.int Go.IntKind.i64 (0 : Int)), (V.int Go.IntKind.i64 (0 : Int)), (V.int Go.IntKind.i64 (0 : Int)), (V.int Go.IntKind.i64 (0 : Int)), (V.int Go.IntKind.i64 (0 : Int)), (V.int Go.IntKind.i64 (0 : Int)), (V.int Go.IntKind.i64 (0 : Int)), (V.int Go.IntKind.i64 (0 : Int)), (V.int Go.IntKind.i64 (0 : Int)), (V.int Go.IntKind.i64 (0 : Int)), (V.int Go.IntKind.i64 (0 : Int)), (V.int Go.IntKind.i64 (0 : Int)), (V.int Go.IntKind.i64 (0 : Int)), (V.int Go.IntKind.i64 (0 : Int)), (V.int Go.IntKind.i64 (0 : Int)), (V.int Go.IntKind.i64 (0 : Int)), (V.int Go.IntKind.i64 (0 : Int)), (V.int Go.IntKind.i64 (0 : Int)), (V.int Go.IntKind.i64 (0 : Int)), (V.int Go.IntKind.i64 (0 : Int)), (V.int Go.IntKind.i64 (0 : Int))]), (6, cz4), (7, cz7), (8, cz8)]⟩ hz3 Q))))))))))))))))))))))) := wpA_at f15_n_plug (by kernel_rfl)
theorem f15_n11111_eq : f15_n11111 = Code.seq f15_n111110 f15_n111111 := by
  simp only [f15_n11111, f15_n111110, f15_n111111, hide_eq]
  kernel_rfl
theorem f15_n111110_plug : f15_n111110 = (codeAt [1, 1, 1, 1, 1, 0] f15_b) := by
  simp only [f15_n111110, hide_eq]
  try kernel_rfl
theorem f15_n111110_wp (x0 : Int) (x1 : Int) (c2 : List V) (c3 : List V) (c4 : List V) (c5 : List V) (c6 : List V) (c7 : List V) (h : Heap) (Q : Ex → Fr → Heap → Prop) : wpA Try.prog f15_cf f15_n111110 ⟨[V.undef, V.undef, (V.lp 2 0), (V.lp 3 0), (V.lp 4 0), V.undef, (V.lp 6 0), (V.lp 7 0), (V.lp 8 0), V.undef, V.undef, (V.int Go.IntKind.i64 x0), (V.int Go.IntKind.i64 x1), V.undef, V.undef, V.undef, V.undef, V.undef, V.undef, V.undef, V.undef, V.undef, V.undef, V.undef, V.undef, V.undef, V.undef, V.undef, V.undef, V.undef, V.undef, V.undef, V.undef, V.undef, V.undef, V.undef, V.undef, V.undef, V.undef, V.undef, V.undef, V.undef, V.undef, V.undef, V.undef, V.undef, V.undef, V.undef, V.undef, V.undef, V.undef, V.undef, V.undef, V.undef, V.undef, V.undef, V.undef, V.undef, V.undef, V.undef, V.undef, V.undef, V.undef, V.undef, V.undef, V.undef, V.undef, V.undef, V.undef, V.undef, V.undef, V.undef, V.undef, V.undef, V.undef, V.undef, V.undef, V.undef, V.undef, V.undef, V.undef, V.undef, V.undef, V.undef, V.undef, V.undef, V.undef, V.undef, V.undef, V.undef, V.undef, V.undef, V.undef, V.undef, V.undef, V.undef, V.undef, V.undef, V.undef, V.undef, V.undef, V.undef, V.undef, V.undef, V.undef, V.undef, V.undef, V.undef, V.undef, V.undef, V.undef, V.undef, V.undef, V.undef, V.undef, V.undef, V.undef, V.undef, V.undef, V.undef, V.undef, V.undef, V.undef, V.undef, V.undef, V.undef, V.undef, V.undef, V.undef, V.undef, V.undef, V.undef, V.undef, V.undef, V.undef, V.undef, V.undef, V.undef, V.undef, V.undef, V.undef, V.undef, V.undef, V.undef, V.undef, V.undef, V.undef, V.undef, V.undef, V.undef, V.undef, V.undef, V.undef, V.undef, V.undef, V.undef, V.undef, V.undef, V.undef, V.undef, V.undef, V.undef], [(2, c2), (3, c3), (4, c4), (6, c5), (7, c6), (8, c7)]⟩ h Q =
 ((0 < (List.length c3) ∧ V.isInt Go.IntKind.i64 (gv c3 0) = true) ∧ (let bz9 : Bool := ((V.num (gv c3 0)) == (0 : Int));
 (brW bz9
 ((0 + 49 ≤ (List.length c2)) ∧ (let cz10 : List V := (List.take 49 (List.drop 0 c2));
 ((1 < (List.length c3) ∧ V.isInt Go.IntKind.i64 (gv c3 1) = true) ∧ ((2 < (List.length c3) ∧ V.isInt Go.IntKind.i64 (gv c3 2) = true) ∧ ((3 < (List.length c3) ∧ V.isInt Go.IntKind.i64 (gv c3 3) = true) ∧ (AnyW Try.prog 29 [(V.agg cz10), (V.int Go.IntKind.i64 (V.num (gv c3 1))), (V.int Go.IntKind.i64 (V.num (gv c3 2))), (V.int Go.IntKind.i64 (V.num (gv c3 3)))] h (fun (rz11 : V) (hz12 : Heap) =>
 (V.isTup 2 rz11 = true ∧ ((True ∧ V.isAgg 49 (gv (V.vs rz11) 0) = true) ∧ (let cz13 : List V := (V.cells (gv (V.vs rz11) 0));
 ((True ∧ V.isInt Go.IntKind.i64 (gv (V.vs rz11) 1) = true) ∧ (let iz14 : Int := (V.num (gv (V.vs rz11) 1));
 ((true = true) ∧ ((true = true) ∧ (((List.length cz13) = 49) ∧ 0 + 49 ≤ (List.length c6) ∧ ((0 + 49 ≤ (List.length c5)) ∧ (let cz15 : List V := (List.take 49 (List.drop 0 c5));
 ((1 < (List.length c3) ∧ V.isInt Go.IntKind.i64 (gv c3 1) = true) ∧ ((2 < (List.length c3) ∧ V.isInt Go.IntKind.i64 (gv c3 2) = true) ∧ ((3 < (List.length c3) ∧ V.isInt Go.IntKind.i64 (gv c3 3) = true) ∧ (AnyW Try.prog 35 [(V.agg cz15), (V.int Go.IntKind.i64 (V.num (gv c3 1))), (V.int Go.IntKind.i64 (V.num (gv c3 2))), (V.int Go.IntKind.i64 (V.num (gv c3 3)))] hz12 (fun (rz16 : V) (hz17 : Heap) =>
 (V.isTup 2 rz16 = true ∧ ((True ∧ V.isAgg 49 (gv (V.vs rz16) 0) = true) ∧ (let cz18 : List V := (V.cells (gv (V.vs rz16) 0));
 ((True ∧ V.isInt Go.IntKind.i64 (gv (V.vs rz16) 1) = true) ∧ (let iz19 : Int := (V.num (gv (V.vs rz16) 1));
 ((true = true) ∧ ((true = true) ∧ (((List.length cz18) = 49) ∧ 0 + 49 ≤ (List.length c7) ∧ (Q Ex.normal ⟨[V.undef, V.undef, V.undef, V.undef, (V.lp 4 0), V.undef, V.undef, (V.lp 7 0), (V.lp 8 0), (V.int Go.IntKind.i64 iz14), (V.int Go.IntKind.i64 iz19), (V.int Go.IntKind.i64 x0), (V.int Go.IntKind.i64 x1), V.undef, V.undef, V.undef, V.undef, V.undef, V.undef, V.undef, V.undef, V.undef, V.undef, V.undef, V.undef, V.undef, V.undef, V.undef, V.undef, V.undef, V.undef, V.undef, V.undef, V.undef, V.undef, V.undef, V.undef, V.undef, V.undef, V.undef, V.undef, V.undef, V.undef, V.undef, V.undef, V.undef, V.undef, V.undef, V.undef, V.undef, V.undef, V.undef, V.undef, V.undef, V.undef, V.undef, V.undef, V.undef, V.undef, V.undef, V.undef, V.undef, V.undef, V.undef, V.undef, V.undef, V.undef, V.undef, V.undef, V.undef, V.undef, V.undef, V.undef, V.undef, V.undef, V.undef, V.undef, V.undef, V.undef, V.undef, V.undef, V.undef, V.undef, V.undef, V.undef, V.undef, V.undef, V.undef, V.undef, V.undef, V.undef, V.undef, V.undef, V.undef, V.undef, V.undef, V.undef, V.undef, V.undef, V.undef, V.undef, V.undef, V.undef, V.undef, V.undef, V.undef, V.undef, V.undef, V.undef, V.undef, V.undef, V.undef, V.undef, V.undef, V.undef, V.undef, V.undef, V.undef, V.undef, V.undef, V.undef, V.undef, V.undef, V.undef, V.undef, V.undef, V.undef, V.undef, V.undef, V.undef, V.undef, V.undef, V.undef, V.undef, V.undef, V.undef, V.undef, V.undef, V.undef, V.undef, V.undef, V.undef, V.undef, V.undef, V.undef, V.undef, V.undef, V.undef, V.undef, V.undef, V.undef, V.undef, V.undef, V.undef, V.undef, V.undef, V.undef, V.undef, V.undef, V.undef, V.undef, V.undef], [(4, c4), (7, (wrCells c6 0 cz13)), (8, (wrCells c7 0 cz18))]⟩ hz17)))))))))))))))))))))))))))))))
 (let bz20 : Bool := ((V.num (gv c3 0)) == (1 : Int));
 (brW bz20
 ((0 + 49 ≤ (List.length c2)) ∧ (let cz21 : List V := (List.take 49 (List.drop 0 c2));
 ((1 < (List.length c3) ∧ V.isInt Go.IntKind.i64 (gv c3 1) = true) ∧ ((2 < (List.length c3) ∧ V.isInt Go.IntKind.i64 (gv c3 2) = true) ∧ ((3 < (List.length c3) ∧ V.isInt Go.IntKind.i64 (gv c3 3) = true) ∧ (AnyW Try.prog 36 [(V.agg cz21), (V.int Go.IntKind.i64 (V.num (gv c3 1))), (V.int Go.IntKind.i64 (V.num (gv c3 2))), (V.int Go.IntKind.i64 (V.num (gv c3 3)))] h (fun (rz22 : V) (hz23 : Heap) =>
 (V.isTup 2 rz22 = true ∧ ((True ∧ V.isAgg 49 (gv (V.vs rz22) 0) = true) ∧ (let cz24 : List V := (V.cells (gv (V.vs rz22) 0));
 ((True ∧ V.isInt Go.IntKind.i64 (gv (V.vs rz22) 1) = true) ∧ (let iz25 : Int := (V.num (gv (V.vs rz22) 1));
 ((true = true) ∧ ((true = true) ∧ (((List.length cz24) = 49) ∧ 0 + 49 ≤ (List.length c6) ∧ ((0 + 49 ≤ (List.length c5)) ∧ (let cz26 : List V := (List.take 49 (List.drop 0 c5));
 ((1 < (List.length c3) ∧ V.isInt Go.IntKind.i64 (gv c3 1) = true) ∧ ((2 < (List.length c3) ∧ V.isInt Go.IntKind.i64 (gv c3 2) = true) ∧ ((3 < (List.length c3) ∧ V.isInt Go.IntKind.i64 (gv c3 3) = true) ∧ (AnyW Try.prog 37 [(V.agg cz26), (V.int Go.IntKind.i64 (V.num (gv c3 1))), (V.int Go.IntKind.i64 (V.num (gv c3 2))), (V.int Go.IntKind.i64 (V.num (gv c3 3)))] hz23 (fun (rz27 : V) (hz28 : Heap) =>
 (V.isTup 2 rz27 = true ∧ ((True ∧ V.isAgg 49 (gv (V.vs rz27) 0) = true) ∧ (let cz29 : List V := (V.cells (gv (V.vs rz27) 0));
 ((True ∧ V.isInt Go.IntKind.i64 (gv (V.vs rz27) 1) = true) ∧ (let iz30 : Int := (V.num (gv (V.vs rz27) 1));
 ((true = true) ∧ ((true = true) ∧ (((List.length cz29) = 49) ∧ 0 + 49 ≤ (List.length c7) ∧ (Q Ex.normal ⟨[V.undef, V.undef, V.undef, V.undef, (V.lp 4 0), V.undef, V.undef, (V.lp 7 0), (V.lp 8 0), (V.int Go.IntKind.i64 iz25), (V.int Go.IntKind.i64 iz30), (V.int Go.IntKind.i64 x0), (V.int Go.IntKind.i64 x1), V.undef, V.undef, V.undef, V.undef, V.undef, V.undef, V.undef, V.undef, V.undef, V.undef, V.undef, V.undef, V.undef, V.undef, V.undef, V.undef, V.undef, V.undef, V.undef, V.undef, V.undef, V.undef, V.undef, V.undef, V.undef, V.undef, V.undef, V.undef, V.undef, V.undef, V.undef, V.undef, V.undef, V.undef, V.undef, V.undef, V.undef, V.undef, V.undef, V.undef, V.undef, V.undef, V.undef, V.undef, V.undef, V.undef, V.undef, V.undef, V.undef, V.undef, V.undef, V.undef, V.undef, V.undef, V.undef, V.undef, V.undef, V.undef, V.undef, V.undef, V.undef, V.undef, V.undef, V.undef, V.undef, V.undef, V.undef, V.undef, V.undef, V.undef, V.undef, V.undef, V.undef, V.undef, V.undef, V.undef, V.undef, V.undef, V.undef, V.undef, V.undef, V.undef, V.undef, V.undef, V.undef, V.undef, V.undef, V.undef, V.undef, V.undef, V.undef, V.undef, V.undef, V.undef, V.undef, V.undef, V.undef, V.undef, V.undef, V.undef, V.undef, V.undef, V.undef, V.undef, V.undef, V.undef, V.undef, V.undef, V.undef, V.undef, V.undef, V.undef, V.undef, V.undef, V.undef, V.undef, V.undef, V.undef, V.undef, V.undef, V.undef, V.undef, V.undef, V.undef, V.undef, V.undef, V.undef, V.undef, V.undef, V.undef, V.undef, V.undef, V.undef, V.undef, V.undef, V.undef, V.undef, V.undef, V.undef, V.undef, V.undef, V.undef, V.undef, V.undef, V.undef, V.undef, V.undef, V.undef, V.undef], [(4, c4), (7, (wrCells c6 0 cz24)), (8, (wrCells c7 0 cz29))]⟩ hz28)))))))))))))))))))))))))))))))
 (let bz31 : Bool := ((V.num (gv c3 0)) == (2 : Int));
 (brW bz31
 ((0 + 49 ≤ (List.length c2)) ∧ (let cz32 : List V := (List.take 49 (List.drop 0 c2));
 ((1 < (List.length c3) ∧ V.isInt Go.IntKind.i64 (gv c3 1) = true) ∧ ((2 < (List.length c3) ∧ V.isInt Go.IntKind.i64 (gv c3 2) = true) ∧ ((3 < (List.length c3) ∧ V.isInt Go.IntKind.i64 (gv c3 3) = true) ∧ (AnyW Try.prog 30 [(V.agg cz32), (V.int Go.IntKind.i64 (V.num (gv c3 1))), (V.int Go.IntKind.i64 (V.num (gv c3 2))), (V.int Go.IntKind.i64 (V.num (gv c3 3)))] h (fun (rz33 : V) (hz34 : Heap) =>
 (V.isTup 2 rz33 = true ∧ ((True ∧ V.isAgg 49 (gv (V.vs rz33) 0) = true) ∧ (let cz35 : List V := (V.cells (gv (V.vs rz33) 0));
 ((True ∧ V.isInt Go.IntKind.i64 (gv (V.vs rz33) 1) = true) ∧ (let iz36 : Int := (V.num (gv (V.vs rz33) 1));
 ((true = true) ∧ ((true = true) ∧ (((List.length cz35) = 49) ∧ 0 + 49 ≤ (List.length c6) ∧ ((0 + 49 ≤ (List.length c5)) ∧ (let cz37 : List V := (List.take 49 (List.drop 0 c5));
 ((1 < (List.length c3) ∧ V.isInt Go.IntKind.i64 (gv c3 1) = true) ∧ ((2 < (List.length c3) ∧ V.isInt Go.IntKind.i64 (gv c3 2) = true) ∧ ((3 < (List.length c3) ∧ V.isInt Go.IntKind.i64 (gv c3 3) = true) ∧ (AnyW Try.prog 38 [(V.agg cz37), (V.int Go.IntKind.i64 (V.num (gv c3 1))), (V.int Go.IntKind.i64 (V.num (gv c3 2))), (V.int Go.IntKind.i64 (V.num (gv c3 3)))] hz34 (fun (rz38 : V) (hz39 : Heap) =>
 (V.isTup 2 rz38 = true ∧ ((True ∧ V.isAgg 49 (gv (V.vs rz38) 0) = true) ∧ (let cz40 : List V := (V.cells (gv (V.vs rz38) 0));
 ((True ∧ V.isInt Go.IntKind.i64 (gv (V.vs rz38) 1) = true) ∧ (let iz41 : Int := (V.num (gv (V.vs rz38) 1));
 ((true = true) ∧ ((true = true) ∧ (((List.length cz40) = 49) ∧ 0 + 49 ≤ (List.length c7) ∧ (Q Ex.normal ⟨[V.undef, V.undef, V.undef, V.undef, (V.lp 4 0), V.undef, V.undef, (V.lp 7 0), (V.lp 8 0), (V.int Go.IntKind.i64 iz36), (V.int Go.IntKind.i64 iz41), (V.int Go.IntKind.i64 x0), (V.int Go.IntKind.i64 x1), V.undef, V.undef, V.undef, V.undef, V.undef, V.undef, V.undef, V.undef, V.undef, V.undef, V.undef, V.undef, V.undef, V.undef, V.undef, V.undef, V.undef, V.undef, V.undef, V.undef, V.undef, V.undef, V.undef, V.undef, V.undef, V.undef, V.undef, V.undef, V.undef, V.undef, V.undef, V.undef, V.undef, V.undef, V.undef, V.undef, V.undef, V.undef, V.undef, V.undef, V.undef, V.undef, V.undef, V.undef, V.undef, V.undef, V.undef, V.undef, V.undef, V.undef, V.undef, V.undef, V.undef, V.undef, V.undef, V.undef, V.undef, V.undef, V.undef, V.undef, V.undef, V.undef, V.undef, V.undef, V.undef, V.undef, V.undef, V.undef, V.undef, V.undef, V.undef, V.undef, V.undef, V.undef, V.undef, V.undef, V.undef, V.undef, V.undef, V.undef, V.undef, V.undef, V.undef, V.undef, V.undef, V.undef, V.undef, V.undef, V.undef, V.undef, V.undef, V.undef, V.undef, V.undef, V.undef, V.undef, V.undef, V.undef, V.undef, V.undef, V.undef, V.undef, V.undef, V.undef, V.undef, V.undef, V.undef, V.undef, V.undef, V.undef, V.undef, V.undef, V.undef, V.undef, V.undef, V.undef, V.undef, V.undef, V.undef, V.undef, V.undef, V.undef, V.undef, V.undef, V.undef, V.undef, V.undef, V.undef, V.undef, V.undef, V.undef, V.undef, V.undef, V.undef, V.undef, V.undef, V.undef, V.undef, V.undef, V.undef, V.undef, V.undef, V.undef, V.undef, V.undef, V.undef, V.undef, V.undef, V.undef], [(4, c4), (7, (wrCells c6 0 cz35)), (8, (wrCells c7 0 cz40))]⟩ hz39)))))))))))))))))))))))))))))))
 (let bz42 : Bool := ((V.num (gv c3 0)) == (3 : Int));
 (brW bz42
 ((0 + 49 ≤ (List.length c2)) ∧ (let cz43 : List V := (List.take 49 (List.drop 0 c2));
 ((1 < (List.length c3) ∧ V.isInt Go.IntKind.i64 (gv c3 1) = true) ∧ ((2 < (List.length c3) ∧ V.isInt Go.IntKind.i64 (gv c3 2) = true) ∧ ((3 < (List.length c3) ∧ V.isInt Go.IntKind.i64 (gv c3 3) = true) ∧ (AnyW Try.prog 39 [(V.agg cz43), (V.int Go.IntKind.i64 (V.num (gv c3 1))), (V.int Go.IntKind.i64 (V.num (gv c3 2))), (V.int Go.IntKind.i64 (V.num (gv c3 3)))] h (fun (rz44 : V) (hz45 : Heap) =>
 (V.isTup 2 rz44 = true ∧ ((True ∧ V.isAgg 49 (gv (V.vs rz44) 0) = true) ∧ (let cz46 : List V := (V.cells (gv (V.vs rz44) 0));
 ((True ∧ V.isInt Go.IntKind.i64 (gv (V.vs rz44) 1) = true) ∧ (let iz47 : Int := (V.num (gv (V.vs rz44) 1));
 ((true = true) ∧ ((true = true) ∧ (((List.length cz46) = 49) ∧ 0 + 49 ≤ (List.length c6) ∧ ((0 + 49 ≤ (List.length c5)) ∧ (let cz48 : List V := (List.take 49 (List.drop 0 c5));
 ((1 < (List.length c3) ∧ V.isInt Go.IntKind.i64 (gv c3 1) = true) ∧ ((2 < (List.length c3) ∧ V.isInt Go.IntKind.i64 (gv c3 2) = true) ∧ ((3 < (List.length c3) ∧ V.isInt Go.IntKind.i64 (gv c3 3) = true) ∧ (AnyW Try.prog 40 [(V.agg cz48), (V.int Go.IntKind.i64 (V.num (gv c3 1))), (V.int Go.IntKind.i64 (V.num (gv c3 2))), (V.int Go.IntKind.i64 (V.num (gv c3 3)))] hz45 (fun (rz49 : V) (hz50 : Heap) =>
 (V.isTup 2 rz49 = true ∧ ((True ∧ V.isAgg 49 (gv (V.vs rz49) 0) = true) ∧ (let cz51 : List V := (V.cells (gv (V.vs rz49) 0));
 ((True ∧ V.isInt Go.IntKind.i64 (gv (V.vs rz49) 1) = true) ∧ (let iz52 : Int := (V.num (gv (V.vs rz49) 1));
 ((true = true) ∧ ((true = true) ∧ (((List.length cz51) = 49) ∧ 0 + 49 ≤ (List.length c7) ∧ (Q Ex.normal ⟨[V.undef, V.undef, V.undef, V.undef, (V.lp 4 0), V.undef, V.undef, (V.lp 7 0), (V.lp 8 0), (V.int Go.IntKind.i64 iz47), (V.int Go.IntKind.i64 iz52), (V.int Go.IntKind.i64 x0), (V.int Go.IntKind.i64 x1), V.undef, V.undef, V.undef, V.undef, V.undef, V.undef, V.undef, V.undef, V.undef, V.undef, V.undef, V.undef, V.undef, V.undef, V.undef, V.undef, V.undef, V.undef, V.undef, V.undef, V.undef, V.undef, V.undef, V.undef, V.undef, V.undef, V.undef, V.undef, V.undef, V.undef, V.undef, V.undef, V.undef, V.undef, V.undef, V.undef, V.undef, V.undef, V.undef, V.undef, V.undef, V.undef, V.undef, V.undef, V.undef, V.undef, V.undef, V.undef, V.undef, V.undef, V.undef, V.undef, V.undef, V.undef, V.undef, V.undef, V.undef, V.undef, V.undef, V.undef, V.undef, V.undef, V.undef, V.undef, V.undef, V.undef, V.undef, V.undef, V.undef, V.undef, V.undef, V.undef, V.undef, V.undef, V.undef, V.undef, V.undef, V.undef, V.undef, V.undef, V.undef, V.undef, V.undef, V.undef, V.undef, V.undef, V.undef, V.undef, V.undef, V.undef, V.undef, V.undef, V.undef, V.undef, V.undef, V.undef, V.undef, V.undef, V.undef, V.undef, V.undef, V.undef, V.undef, V.undef, V.undef, V.undef, V.undef, V.undef, V.undef, V.undef, V.undef, V.undef, V.undef, V.undef, V.undef, V.undef, V.undef, V.undef, V.undef, V.undef, V.undef, V.undef, V.undef, V.undef, V.undef, V.undef, V.undef, V.undef, V.undef, V.undef, V.undef, V.undef, V.undef, V.undef, V.undef, V.undef, V.undef, V.undef, V.undef, V.undef, V.undef, V.undef, V.undef, V.undef, V.undef, V.undef, V.undef, V.undef, V.undef], [(4, c4), (7, (wrCells c6 0 cz46)), (8, (wrCells c7 0 cz51))]⟩ hz50)))))))))))))))))))))))))))))))
 (let bz53 : Bool := ((V.num (gv c3 0)) == (4 : Int));
 (brW bz53
 ((0 + 49 ≤ (List.length c2)) ∧ (let cz54 : List V := (List.take 49 (List.drop 0 c2));
 ((4 + 8 ≤ (List.length c3)) ∧ (let cz55 : List V := (List.take 8 (List.drop 4 c3));
 (AnyW Try.prog 31 [(V.agg cz54), (V.agg cz55)] h (fun (rz56 : V) (hz57 : Heap) =>
 (V.isTup 2 rz56 = true ∧ ((True ∧ V.isAgg 49 (gv (V.vs rz56) 0) = true) ∧ (let cz58 : List V := (V.cells (gv (V.vs rz56) 0));
 ((True ∧ V.isInt Go.IntKind.i64 (gv (V.vs rz56) 1) = true) ∧ (let iz59 : Int := (V.num (gv (V.vs rz56) 1));
 ((true = true) ∧ ((true = true) ∧ (((List.length cz58) = 49) ∧ 0 + 49 ≤ (List.length c6) ∧ ((0 + 49 ≤ (List.length c5)) ∧ (let cz60 : List V := (List.take 49 (List.drop 0 c5));
 ((4 + 8 ≤ (List.length c3)) ∧ (let cz61 : List V := (List.take 8 (List.drop 4 c3));
 (AnyW Try.prog 41 [(V.agg cz60), (V.agg cz61)] hz57 (fun (rz62 : V) (hz63 : Heap) =>
 (V.isTup 2 rz62 = true ∧ ((True ∧ V.isAgg 49 (gv (V.vs rz62) 0) = true) ∧ (let cz64 : List V := (V.cells (gv (V.vs rz62) 0));
 ((True ∧ V.isInt Go.IntKind.i64 (gv (V.vs rz62) 1) = true) ∧ (let iz65 : Int := (V.num (gv (V.vs rz62) 1));
 ((true = true) ∧ ((true = true) ∧ (((List.length cz64) = 49) ∧ 0 + 49 ≤ (List.length c7) ∧ (Q Ex.normal ⟨[V.undef, V.undef, V.undef, V.undef, (V.lp 4 0), V.undef, V.undef, (V.lp 7 0), (V.lp 8 0), (V.int Go.IntKind.i64 iz59), (V.int Go.IntKind.i64 iz65), (V.int Go.IntKind.i64 x0), (V.int Go.IntKind.i64 x1), V.undef, V.undef, V.undef, V.undef, V.undef, V.undef, V.undef, V.undef, V.undef, V.undef, V.undef, V.undef, V.undef, V.undef, V.undef, V.undef, V.undef, V.undef, V.undef, V.undef, V.undef, V.undef, V.undef, V.undef, V.undef, V.undef, V.undef, V.undef, V.undef, V.undef, V.undef, V.undef, V.undef, V.undef, V.undef, V.undef, V.undef, V.undef, V.undef, V.undef, V.undef, V.undef, V.undef, V.undef, V.undef, V.undef, V.undef, V.undef, V.undef, V.undef, V.undef, V.undef, V.undef, V.undef, V.undef, V.undef, V.undef, V.undef, V.undef, V.undef, V.undef, V.undef, V.undef, V.undef, V.undef, V.undef, V.undef, V.undef, V.undef, V.undef, V.undef, V.undef, V.undef, V.undef, V.undef, V.undef, V.undef, V.undef, V.undef, V.undef, V.undef, V.undef, V.undef, V.undef, V.undef, V.undef, V.undef, V.undef, V.undef, V.undef, V.undef, V.undef, V.undef, V.undef, V.undef, V.undef, V.undef, V.undef, V.undef, V.undef, V.undef, V.undef, V.undef, V.undef, V.undef, V.undef, V.undef, V.undef, V.undef, V.undef, V.undef, V.undef, V.undef, V.undef, V.undef, V.undef, V.undef, V.undef, V.undef, V.undef, V.undef, V.undef, V.undef, V.undef, V.undef, V.undef, V.undef, V.undef, V.undef, V.undef, V.undef, V.undef, V.undef, V.undef, V.undef, V.undef, V.undef, V.undef, V.undef, V.undef, V.undef, V.undef, V.undef, V.undef, V.undef, V.undef, V.undef, V.undef, V.undef], [(4, c4), (7, (wrCells c6 0 cz58)), (8, (wrCells c7 0 cz64))]⟩ hz63)))))))))))))))))))))))))))))
 ((0 + 49 ≤ (List.length c2)) ∧ (let cz66 : List V := (List.take 49 (List.drop 0 c2));
 ((1 < (List.length c3) ∧ V.isInt Go.IntKind.i64 (gv c3 1) = true) ∧ (AnyW Try.prog 42 [(V.agg cz66), (V.int Go.IntKind.i64 (V.num (gv c3 1)))] h (fun (rz67 : V) (hz68 : Heap) =>
 (V.isTup 3 rz67 = true ∧ ((True ∧ V.isAgg 49 (gv (V.vs rz67) 0) = true) ∧ (let cz69 : List V := (V.cells (gv (V.vs rz67) 0));
 ((True ∧ V.isInt Go.IntKind.i64 (gv (V.vs rz67) 1) = true) ∧ (let iz70 : Int := (V.num (gv (V.vs rz67) 1));
 ((True ∧ V.isInt Go.IntKind.i64 (gv (V.vs rz67) 2) = true) ∧ (let iz71 : Int := (V.num (gv (V.vs rz67) 2));
 ((true = true) ∧ ((true = true) ∧ ((true = true) ∧ (((List.length cz69) = 49) ∧ 0 + 49 ≤ (List.length c6) ∧ ((0 + 49 ≤ (List.length c5)) ∧ (let cz72 : List V := (List.take 49 (List.drop 0 c5));
 ((1 < (List.length c3) ∧ V.isInt Go.IntKind.i64 (gv c3 1) = true) ∧ (AnyW Try.prog 43 [(V.agg cz72), (V.int Go.IntKind.i64 (V.num (gv c3 1)))] hz68 (fun (rz73 : V) (hz74 : Heap) =>
 (V.isTup 3 rz73 = true ∧ ((True ∧ V.isAgg 49 (gv (V.vs rz73) 0) = true) ∧ (let cz75 : List V := (V.cells (gv (V.vs rz73) 0));
 ((True ∧ V.isInt Go.IntKind.i64 (gv (V.vs rz73) 1) = true) ∧ (let iz76 : Int := (V.num (gv (V.vs rz73) 1));
 ((True ∧ V.isInt Go.IntKind.i64 (gv (V.vs rz73) 2) = true) ∧ (let iz77 : Int := (V.num (gv (V.vs rz73) 2));
 ((true = true) ∧ ((true = true) ∧ ((true = true) ∧ (((List.length cz75) = 49) ∧ 0 + 49 ≤ (List.length c7) ∧ (Q Ex.normal ⟨[V.undef, V.undef, V.undef, V.undef, (V.lp 4 0), V.undef, V.undef, (V.lp 7 0), (V.lp 8 0), (V.int Go.IntKind.i64 iz71), (V.int Go.IntKind.i64 iz77), (V.int Go.IntKind.i64 iz70), (V.int Go.IntKind.i64 iz76), V.undef, V.undef, V.undef, V.undef, V.undef, V.undef, V.undef, V.undef, V.undef, V.undef, V.undef, V.undef, V.undef, V.undef, V.undef, V.undef, V.undef, V.undef, V.undef, V.undef, V.undef, V.undef, V.undef, V.undef, V.undef, V.undef, V.undef, V.undef, V.undef, V.undef, V.undef, V.undef, V.undef, V.undef, V.undef, V.undef, V.undef, V.undef, V.undef, V.undef, V.undef, V.undef, V.undef, V.undef, V.undef, V.undef, V.undef, V.undef, V.undef, V.undef, V.undef, V.undef, V.undef, V.undef, V.undef, V.undef, V.undef, V.undef, V.undef, V.undef, V.undef, V.undef, V.undef, V.undef, V.undef, V.undef, V.undef, V.undef, V.undef, V.undef, V.undef, V.undef, V.undef, V.undef, V.undef, V.undef, V.undef, V.undef, V.undef, V.undef, V.undef, V.undef, V.undef, V.undef, V.undef, V.undef, V.undef, V.undef, V.undef, V.undef, V.undef, V.undef, V.undef, V.undef, V.undef, V.undef, V.undef, V.undef, V.undef, V.undef, V.undef, V.undef, V.undef, V.undef, V.undef, V.undef, V.undef, V.undef, V.undef, V.undef, V.undef, V.undef, V.undef, V.undef, V.undef, V.undef, V.undef, V.undef, V.undef, V.undef, V.undef, V.undef, V.undef, V.undef, V.undef, V.undef, V.undef, V.undef, V.undef, V.undef, V.undef, V.undef, V.undef, V.undef, V.undef, V.undef, V.undef, V.undef, V.undef, V.undef, V.undef, V.undef, V.undef, V.undef, V.undef, V.undef, V.undef, V.undef, V.undef], [(4, c4), (7, (wrCells c6 0 cz69)), (8, (wrCells c7 0 cz75))]⟩ hz74)))))))))))))))))))))))))))))))))))))))))))) := wpA_at f15_n111110_plug (by kernel_rfl)
def f15_n111111_F (x0 : Int) (x1 : Int) (x2 : Int) (x3 : Int) (c4 : List V) (c5 : List V) (c6 : List V) : Fr := ⟨[V.undef, V.undef, V.undef, V.undef, (V.lp 4 0), V.undef, V.undef, (V.lp 7 0), (V.lp 8 0), (V.int Go.IntKind.i64 x0), (V.int Go.IntKind.i64 x1), (V.int Go.IntKind.i64 x2), (V.int Go.IntKind.i64 x3), V.undef, V.undef, V.undef, V.undef, V.undef, V.undef, V.undef, V.undef, V.undef, V.undef, V.undef, V.undef, V.undef, V.undef, V.undef, V.undef, V.undef, V.undef, V.undef, V.undef, V.undef, V.undef, V.undef, V.undef, V.undef, V.undef, V.undef, V.undef, V.undef, V.undef, V.undef, V.undef, V.undef, V.undef, V.undef, V.undef, V.undef, V.undef, V.undef, V.undef, V.undef, V.undef, V.undef, V.undef, V.undef, V.undef, V.undef, V.undef, V.undef, V.undef, V.undef, V.undef, V.undef, V.undef, V.undef, V.undef, V.undef, V.undef, V.undef, V.undef, V.undef, V.undef, V.undef, V.undef, V.undef, V.undef, V.undef, V.undef, V.undef, V.undef, V.undef, V.undef, V.undef, V.undef, V.undef, V.undef, V.undef, V.undef, V.undef, V.undef, V.undef, V.undef, V.undef, V.undef, V.undef, V.undef, V.undef, V.undef, V.undef, V.undef, V.undef, V.undef, V.undef, V.undef, V.undef, V.undef, V.undef, V.undef, V.undef, V.undef, V.undef, V.undef, V.undef, V.undef, V.undef, V.undef, V.undef, V.undef, V.undef, V.undef, V.undef, V.undef, V.undef, V.undef, V.undef, V.undef, V.undef, V.undef, V.undef, V.undef, V.undef, V.undef, V.undef, V.undef, V.undef, V.undef, V.undef, V.undef, V.undef, V.undef, V.undef, V.undef, V.undef, V.undef, V.undef, V.undef, V.undef, V.undef, V.undef, V.undef, V.undef, V.undef, V.undef, V.undef, V.undef, V.undef, V.undef, V.undef, V.undef], [(4, c4), (7, c5), (8, c6)]⟩
theorem f15_n111111_plug : f15_n111111 = (codeAt [1, 1, 1, 1, 1, 1] f15_b) := by
  simp only [f15_n111111, hide_eq]
  try kernel_rfl
theorem f15_n111111_wp (x0 : Int) (x1 : Int) (x2 : Int) (x3 : Int) (c4 : List V) (c5 : List V) (c6 : List V) (h : Heap) (Q : Ex → Fr → Heap → Prop) : wpA Try.prog f15_cf f15_n111111 ⟨[V.undef, V.undef, V.undef, V.undef, (V.lp 4 0), V.undef, V.undef, (V.lp 7 0), (V.lp 8 0), (V.int Go.IntKind.i64 x0), (V.int Go.IntKind.i64 x1), (V.int Go.IntKind.i64 x2), (V.int Go.IntKind.i64 x3), V.undef, V.undef, V.undef, V.undef, V.undef, V.undef, V.undef, V.undef, V.undef, V.undef, V.undef, V.undef, V.undef, V.undef, V.undef, V.undef, V.undef, V.undef, V.undef, V.undef, V.undef, V.undef, V.undef, V.undef, V.undef, V.undef, V.undef, V.undef, V.undef, V.undef, V.undef, V.undef, V.undef, V.undef, V.undef, V.undef, V.undef, V.undef, V.undef, V.undef, V.undef, V.undef, V.undef, V.undef, V.undef, V.undef, V.undef, V.undef, V.undef, V.undef, V.undef, V.undef, V.undef, V.undef, V.undef, V.undef, V.undef, V.undef, V.undef, V.undef, V.undef, V.undef, V.undef, V.undef, V.undef, V.undef, V.undef, V.undef, V.undef, V.undef, V.undef, V.undef, V.undef, V.undef, V.undef, V.undef, V.undef, V.undef, V.undef, V.undef, V.undef, V.undef, V.undef, V.undef, V.undef, V.undef, V.undef, V.undef, V.undef, V.undef, V.undef, V.undef, V.undef, V.undef, V.undef, V.undef, V.undef, V.undef, V.undef, V.undef, V.undef, V.undef, V.undef, V.undef, V.undef, V.undef, V.undef, V.undef, V.undef, V.undef, V.undef, V.undef, V.undef, V.undef, V.undef, V.undef, V.undef, V.undef, V.undef, V.undef, V.undef, V.undef, V.undef, V.undef, V.undef, V.undef, V.undef, V.undef, V.undef, V.undef, V.undef, V.undef, V.undef, V.undef, V.undef, V.undef, V.undef, V.undef, V.undef, V.undef, V.undef, V.undef, V.undef, V.undef, V.undef, V.undef, V.undef, V.undef, V.undef], [(4, c4), (7, c5), (8, c6)]⟩ h Q =
 ((0 + 49 ≤ (List.length c5)) ∧ (let cz78 : List V := (List.take 49 (List.drop 0 c5));
 ((0 + 49 ≤ (List.length c5)) ∧ (let cz79 : List V := (List.take 49 (List.drop 0 c5));
 ((0 + 49 ≤ (List.length c6)) ∧ (let cz80 : List V := (List.take 49 (List.drop 0 c6));
 (AnyW Try.prog 7 [(V.agg cz79)] h (fun (rz81 : V) (hz82 : Heap) =>
 ((True ∧ V.isAgg 49 rz81 = true) ∧ (((0 + 49 ≤ (List.length c6)) ∧ (V.agg (List.take 49 (List.drop 0 c6))) = (V.agg cz80)) ∧ (((0 + 49 ≤ (List.length c5)) ∧ (V.agg (List.take 49 (List.drop 0 c5))) = (V.agg cz78)) ∧ ((fits [(V.int Go.IntKind.i64 (0 : Int)), (V.int Go.IntKind.i64 (0 : Int)), (V.int Go.IntKind.i64 (0 : Int)), (V.int Go.IntKind.i64 (0 : Int)), (V.int Go.IntKind.i64 (0 : Int)), (V.int Go.IntKind.i64 (0 : Int)), (V.int Go.IntKind.i64 (0 : Int)), (V.int Go.IntKind.i64 (0 : Int)), (V.int Go.IntKind.i64 (0 : Int)), (V.int Go.IntKind.i64 (0 : Int)), (V.int Go.IntKind.i64 (0 : Int)), (V.int Go.IntKind.i64 (0 : Int)), (V.int Go.IntKind.i64 (0 : Int)), (V.int Go.IntKind.i64 (0 : Int)), (V.int Go.IntKind.i64 (0 : Int)), (V.int Go.IntKind.i64 (0 : Int)), (V.int Go.IntKind.i64 (0 : Int)), (V.int Go.IntKind.i64 (0 : Int)), (V.int Go.IntKind.i64 (0 : Int)), (V.int Go.IntKind.i64 (0 : Int)), (V.int Go.IntKind.i64 (0 : Int)), (V.int Go.IntKind.i64 (0 : Int)), (V.int Go.IntKind.i64 (0 : Int)), (V.int Go.IntKind.i64 (0 : Int)), (V.int Go.IntKind.i64 (0 : Int)), (V.int Go.IntKind.i64 (0 : Int)), (V.int Go.IntKind.i64 (0 : Int)), (V.int Go.IntKind.i64 (0 : Int)), (V.int Go.IntKind.i64 (0 : Int)), (V.int Go.IntKind.i64 (0 : Int)), (V.int Go.IntKind.i64 (0 : Int)), (V.int Go.IntKind.i64 (0 : Int)), (V.int Go.IntKind.i64 (0 : Int)), (V.int Go.IntKind.i64 (0 : Int)), (V.int Go.IntKind.i64 (0 : Int)), (V.int Go.IntKind.i64 (0 : Int)), (V.int Go.IntKind.i64 (0 : Int)), (V.int Go.IntKind.i64 (0 : Int)), (V.int Go.IntKind.i64 (0 : Int)), (V.int Go.IntKind.i64 (0 : Int)), (V.int Go.IntKind.i64 (0 : Int)), (V.int Go.IntKind.i64 (0 : Int)), (V.int Go.IntKind.i64 (0 : Int)), (V.int Go.IntKind.i64 (0 : Int)), (V.int Go.IntKind.i64 (0 : Int)), (V.int Go.IntKind.i64 (0 : Int)), (V.int Go.IntKind.i64 (0 : Int)), (V.int Go.IntKind.i64 (0 : Int)), (V.int Go.IntKind.i64 (0 : Int))] (V.cells rz81) = true ∧ fits [(V.int Go.IntKind.i64 (0 : Int)), (V.int Go.IntKind.i64 (0 : Int)), (V.int Go.IntKind.i64 (0 : Int)), (V.int Go.IntKind.i64 (0 : Int)), (V.int Go.IntKind.i64 (0 : Int)), (V.int Go.IntKind.i64 (0 : Int)), (V.int Go.IntKind.i64 (0 : Int)), (V.int Go.IntKind.i64 (0 : Int)), (V.int Go.IntKind.i64 (0 : Int)), (V.int Go.IntKind.i64 (0 : Int)), (V.int Go.IntKind.i64 (0 : Int)), (V.int Go.IntKind.i64 (0 : Int)), (V.int Go.IntKind.i64 (0 : Int)), (V.int Go.IntKind.i64 (0 : Int)), (V.int Go.IntKind.i64 (0 : Int)), (V.int Go.IntKind.i64 (0 : Int)), (V.int Go.IntKind.i64 (0 : Int)), (V.int Go.IntKind.i64 (0 : Int)), (V.int Go.IntKind.i64 (0 : Int)), (V.int Go.IntKind.i64 (0 : Int)), (V.int Go.IntKind.i64 (0 : Int)), (V.int Go.IntKind.i64 (0 : Int)), (V.int Go.IntKind.i64 (0 : Int)), (V.int Go.IntKind.i64 (0 : Int)), (V.int Go.IntKind.i64 (0 : Int)), (V.int Go.IntKind.i64 (0 : Int)), (V.int Go.IntKind.i64 (0 : Int)), (V.int Go.IntKind.i64 (0 : Int)), (V.int Go.IntKind.i64 (0 : Int)), (V.int Go.IntKind.i64 (0 : Int)), (V.int Go.IntKind.i64 (0 : Int)), (V.int Go.IntKind.i64 (0 : Int)), (V.int Go.IntKind.i64 (0 : Int)), (V.int Go.IntKind.i64 (0 : Int)), (V.int Go.IntKind.i64 (0 : Int)), (V.int Go.IntKind.i64 (0 : Int)), (V.int Go.IntKind.i64 (0 : Int)), (V.int Go.IntKind.i64 (0 : Int)), (V.int Go.IntKind.i64 (0 : Int)), (V.int Go.IntKind.i64 (0 : Int)), (V.int Go.IntKind.i64 (0 : Int)), (V.int Go.IntKind.i64 (0 : Int)), (V.int Go.IntKind.i64 (0 : Int)), (V.int Go.IntKind.i64 (0 : Int)), (V.int Go.IntKind.i64 (0 : Int)), (V.int Go.IntKind.i64 (0 : Int)), (V.int Go.IntKind.i64 (0 : Int)), (V.int Go.IntKind.i64 (0 : Int)), (V.int Go.IntKind.i64 (0 : Int))] cz80 = true) ∧ (let bz83 : Bool := (eqlCells (V.cells rz81) cz80);
 ((bz83 = true → bz83 = true) ∧ ((bz83 = true → bz83 = true) ∧ (((bz83 = true → bz83 = true) ∧ True) ∧ (let bz84 : Bool := (cond bz83 (x0 == x1) false);
 ((bz84 = true → bz84 = true) ∧ ((bz84 = true → bz84 = true) ∧ (((bz84 = true → bz84 = true) ∧ True) ∧ (let bz85 : Bool := (cond bz84 (x2 == x3) false);
 (((List.length cz78) = 49) ∧ 0 + 49 ≤ (List.length c4) ∧ (Q Ex.ret ⟨[V.undef, V.undef, V.undef, V.undef, (V.lp 4 0), (V.bool bz85), V.undef, V.undef, V.undef, V.undef, V.undef, V.undef, V.undef, V.undef, V.undef, V.undef, V.undef, V.undef, V.undef, V.undef, V.undef, V.undef, V.undef, V.undef, V.undef, V.undef, V.undef, V.undef, V.undef, V.undef, V.undef, V.undef, V.undef, V.undef, V.undef, V.undef, V.undef, V.undef, V.undef, V.undef, V.undef, V.undef, V.undef, V.undef, V.undef, V.undef, V.undef, V.undef, V.undef, V.undef, V.undef, V.undef, V.undef, V.undef, V.undef, V.undef, V.undef, V.undef, V.undef, V.undef, V.undef, V.undef, V.undef, V.undef, V.undef, V.undef, V.undef, V.undef, V.undef, V.undef, V.undef, V.undef, V.undef, V.undef, V.undef, V.undef, V.undef, V.undef, V.undef, V.undef, V.undef, V.undef, V.undef, V.undef, V.undef, V.undef, V.undef, V.undef, V.undef, V.undef, V.undef, V.undef, V.undef, V.undef, V.undef, V.undef, V.undef, V.undef, V.undef, V.undef, V.undef, V.undef, V.undef, V.undef, V.undef, V.undef, V.undef, V.undef, V.undef, V.undef, V.undef, V.undef, V.undef, V.undef, V.undef, V.undef, V.undef, V.undef, V.undef, V.undef, V.undef, V.undef, V.undef, V.undef, V.undef, V.undef, V.undef, V.undef, V.undef, V.undef, V.undef, V.undef, V.undef, V.undef, V.undef, V.undef, V.undef, V.undef, V.undef, V.undef, V.undef, V.undef, V.undef, V.undef, V.undef, V.undef, V.undef, V.undef, V.undef, V.undef, V.undef, V.undef, V.undef, V.undef, V.undef, V.undef, V.undef, V.undef, V.undef, V.undef, V.undef, V.undef], [(4, (wrCells c4 0 cz78))]⟩ hz82))))))))))))))))))))))) := wpA_at f15_n111111_plug (by kernel_rfl)
theorem f15_end1 (b0 : Bool) (c1 : List V) (h : Heap) (K : V → Heap → Prop) : bodyK Try.prog Try.f15 K Ex.ret ⟨[V.undef, V.undef, V.undef, V.undef, (V.lp 4 0), (V.bool b0), V.undef, V.undef, V.undef, V.undef, V.undef, V.undef, V.undef, V.undef, V.undef, V.undef, V.undef, V.undef, V.undef, V.undef, V.undef, V.undef, V.undef, V.undef, V.undef, V.undef, V.undef, V.undef, V.undef, V.undef, V.undef, V.undef, V.undef, V.undef, V.undef, V.undef, V.undef, V.undef, V.undef, V.undef, V.undef, V.undef, V.undef, V.undef, V.undef, V.undef, V.undef, V.undef, V.undef, V.undef, V.undef, V.undef, V.undef, V.undef, V.undef, V.undef, V.undef, V.undef, V.undef, V.undef, V.undef, V.undef, V.undef, V.undef, V.undef, V.undef, V.undef, V.undef, V.undef, V.undef, V.undef, V.undef, V.undef, V.undef, V.undef, V.undef, V.undef, V.undef, V.undef, V.undef, V.undef, V.undef, V.undef, V.undef, V.undef, V.undef, V.undef, V.undef, V.undef, V.undef, V.undef, V.undef, V.undef, V.undef, V.undef, V.undef, V.undef, V.undef, V.undef, V.undef, V.undef, V.undef, V.undef, V.undef, V.undef, V.undef, V.undef, V.undef, V.undef, V.undef, V.undef, V.undef, V.undef, V.undef, V.undef, V.undef, V.undef, V.undef, V.undef, V.undef, V.undef, V.undef, V.undef, V.undef, V.undef, V.undef, V.undef, V.undef, V.undef, V.undef, V.undef, V.undef, V.undef, V.undef, V.undef, V.undef, V.undef, V.undef, V.undef, V.undef, V.undef, V.undef, V.undef, V.undef, V.undef, V.undef, V.undef, V.undef, V.undef, V.undef, V.undef, V.undef, V.undef, V.undef, V.undef, V.undef, V.undef, V.undef, V.undef, V.undef, V.undef, V.undef], [(4, c1)]⟩ h = ((0 + 49 ≤ (List.length c1)) ∧ (let cz86 : List V := (List.take 49 (List.drop 0 c1));
 (K (V.tup [(V.agg cz86), (V.bool b0)]) h))) := by kernel_rfl
end

section
open Go Go.Proofs Jb
set_option linter.unusedSimpArgs false
set_option maxRecDepth 8000

theorem fits_ints (a l : List Int) (h : a.length = l.length) : fits (ints a) (ints l) = true := by
  induction a generalizing l with
  | nil => cases l with
    | nil => rfl
    | cons b l => simp at h
  | cons x a ih => cases l with
    | nil => simp at h
    | cons b l => simp only [ints_cons, fits, kindEq, Bool.true_and]; exact ih l (by simpa using h)
theorem eqlCells_ints (a l : List Int) : eqlCells (ints a) (ints l) = decide (a = l) := by
  induction a generalizing l with
  | nil => cases l <;> simp [eqlCells]
  | cons x a ih => cases l with
    | nil => simp [eqlCells]
    | cons b l => simp [eqlCells, eqlCell, ih, Bool.decide_and, beq_dec]

/-- A call's till. -/
def doT (t o : List Int) : List Int :=
  if gi o 0 = 0 then (deposit t (gi o 1) (gi o 2) (gi o 3)).1
  else if gi o 0 = 1 then (withdraw t (gi o 1) (gi o 2) (gi o 3)).1
  else if gi o 0 = 2 then (hold t (gi o 1) (gi o 2) (gi o 3)).1
  else if gi o 0 = 3 then (release t (gi o 1) (gi o 2) (gi o 3)).1
  else if gi o 0 = 4 then (tradeT t (o.drop 4)).1
  else (settleT t (gi o 1)).1

theorem set_len2 {p : Prop} [Decidable p] {a b : List Int × Int} (h1 : a.1.length = 49) (h2 : b.1.length = 49) : (if p then a else b).1.length = 49 := by split <;> assumption
theorem e35 : enters Try.prog 35 = true := by kernel_rfl
theorem e36 : enters Try.prog 36 = true := by kernel_rfl
theorem e37 : enters Try.prog 37 = true := by kernel_rfl
theorem e38 : enters Try.prog 38 = true := by kernel_rfl
theorem e39 : enters Try.prog 39 = true := by kernel_rfl
theorem e41 : enters Try.prog 41 = true := by kernel_rfl
theorem e42 : enters Try.prog 42 = true := by kernel_rfl
theorem e43 : enters Try.prog 43 = true := by kernel_rfl

theorem drop4 {o : List Int} (ho : o.length = 12) : List.take 8 (List.drop 4 (ints o)) = ints (o.drop 4) := by
  rw [ints_drop, ints_take, List.take_of_length_le]; simp [ho]

theorem Do_call (t o : List Int) (g : GoodI t) (ho : o.length = 12) (hr : ∀ n ∈ o, I64 n) (h : Heap) : CallW Try.prog 15 [.agg (ints t), .agg (ints o)] h (fun r h' => r = .tup [.agg (ints (doT t o)), .bool true] ∧ h' = h) := by
  have F := g.fits
  have ht := g.len
  refine CallW.body mix f15_cf Try.func15 (by rw [Try.ntmps15]; simp) ?_
  rw [f15_entry, f15_n_wp]
  simp only [ints_len, ht, ho, List.drop_zero, take_all ht]
  refine ⟨trivial, trivial, trivial, by omega, Plain_any ht ?_⟩
  rw [nilT]
  have wz : wrCells (ints (List.replicate 49 0)) 0 (ints t) = ints t := wr_all t (by simp) ht
  have w2 : ∀ (a l : List Int), a.length = 49 → l.length = 49 → wrCells (ints a) 0 (ints l) = ints l := fun a l h1 h2 => wr_all l (by simp [h1]) h2
  simp only [cells_agg, isAgg_agg, ints_len, ht, decide_true, true_and, wz, List.drop_zero, take_all ht, List.length_replicate]
  refine ⟨by omega, by omega, by omega, by omega, ⟨by omega, trivial⟩, by omega, ?_⟩
  rw [f15_n11111_eq, wpA_seq, f15_n111110_wp]
  simp only [ints_len, ht, ho, ints_isInt, ints_num, List.drop_zero, take_all ht, beq_dec]
  refine ⟨by simp, ?_⟩
  generalize hK : (fun (r : V) (h' : Heap) => r = .tup [.agg (ints (doT t o)), .bool true] ∧ h' = h) = K
  have hk : K (.tup [.agg (ints (doT t o)), .bool true]) h := by rw [← hK]; exact ⟨rfl, rfl⟩
  -- what stands behind
  have last : ∀ (t' : List Int) (e n : Int), t'.length = 49 → doT t o = t' → wpA Try.prog f15_cf f15_n111111 (f15_n111111_F e e n n (ints (List.replicate 49 0)) (ints t') (ints t')) h (bodyK Try.prog Try.f15 K) := by
    intro t' e n hl hd
    simp only [f15_n111111_F]
    rw [f15_n111111_wp]
    simp only [ints_len, hl, List.drop_zero, take_all hl]
    refine ⟨by omega, by omega, by omega, Plain_any hl ?_⟩
    have wl : wrCells (ints (List.replicate 49 0)) 0 (ints t') = ints t' := wr_all t' (by simp) hl
    simp only [cells_agg, isAgg_agg, ints_len, hl, decide_true, true_and, nilT, fits_ints _ t' (show (List.replicate 49 (0 : Int)).length = t'.length by simp [hl]), eqlCells_ints, wl]
    simp [f15_end1, hl, take_all]
    rw [hd] at hk
    exact hk
  by_cases k0 : gi o 0 = 0
  · have dl : (deposit t (gi o 1) (gi o 2) (gi o 3)).1.length = 49 := by rcases deposit_after g (gi o 1) (gi o 2) (gi o 3) with h | h; exact h.1.1.len; exact h.2.2.1.len
    simp [k0, ho, ht, take_all]
    refine AnyW.eq e29 (deposit_call t F _ _ _ h) ?_
    simp [dl, w2 _ _ ht dl, w2 _ _ (show (List.replicate 49 (0 : Int)).length = 49 by simp) ht, ho, ht, take_all]
    refine AnyW.eq e35 (refDeposit_call t F _ _ _ (hr _ (gi_mem o (by omega))) h) ?_
    rw [← deposit_same g]
    simp only [isTup_tup, vs_tup, gv_zero, gv_succ, isInt_i64, num_int, cells_agg, isAgg_agg, true_and, List.length_cons, List.length_nil, decide_true, ints_len, dl, w2 t _ ht dl]
    exact last _ _ 0 dl (by unfold doT; simp [k0])
  by_cases k1 : gi o 0 = 1
  · have dl : (withdraw t (gi o 1) (gi o 2) (gi o 3)).1.length = 49 := by rcases withdraw_after g (gi o 1) (gi o 2) (gi o 3) with h | h; exact h.1.1.len; exact h.2.2.1.len
    simp [k0, k1, ho, ht, take_all]
    refine AnyW.eq e36 (withdraw_call t ht _ _ _ h) ?_
    simp [dl, w2 _ _ ht dl, w2 _ _ (show (List.replicate 49 (0 : Int)).length = 49 by simp) ht, ho, ht, take_all]
    refine AnyW.eq e37 (refWithdraw_call t ht _ _ _ h) ?_
    rw [← withdraw_same F]
    simp only [isTup_tup, vs_tup, gv_zero, gv_succ, isInt_i64, num_int, cells_agg, isAgg_agg, true_and, List.length_cons, List.length_nil, decide_true, ints_len, dl, w2 t _ ht dl]
    exact last _ _ 0 dl (by unfold doT; simp [k0, k1])
  by_cases k2 : gi o 0 = 2
  · have dl : (hold t (gi o 1) (gi o 2) (gi o 3)).1.length = 49 := (hold_after g _ _ _).1.len
    simp [k0, k1, k2, ho, ht, take_all]
    refine AnyW.eq e30 (hold_call t ht _ _ _ h) ?_
    simp [dl, w2 _ _ ht dl, w2 _ _ (show (List.replicate 49 (0 : Int)).length = 49 by simp) ht, ho, ht, take_all]
    refine AnyW.eq e38 (refHold_call t ht _ _ _ h) ?_
    rw [← hold_same F]
    simp only [isTup_tup, vs_tup, gv_zero, gv_succ, isInt_i64, num_int, cells_agg, isAgg_agg, true_and, List.length_cons, List.length_nil, decide_true, ints_len, dl, w2 t _ ht dl]
    exact last _ _ 0 dl (by unfold doT; simp [k0, k1, k2])
  by_cases k3 : gi o 0 = 3
  · have dl : (release t (gi o 1) (gi o 2) (gi o 3)).1.length = 49 := (release_after g _ _ _).1.len
    simp [k0, k1, k2, k3, ho, ht, take_all]
    refine AnyW.eq e39 (release_call t ht _ _ _ h) ?_
    simp [dl, w2 _ _ ht dl, w2 _ _ (show (List.replicate 49 (0 : Int)).length = 49 by simp) ht, ho, ht, take_all]
    refine AnyW.eq e40 (refRelease_call t ht _ _ _ h) ?_
    rw [← release_same F]
    simp only [isTup_tup, vs_tup, gv_zero, gv_succ, isInt_i64, num_int, cells_agg, isAgg_agg, true_and, List.length_cons, List.length_nil, decide_true, ints_len, dl, w2 t _ ht dl]
    exact last _ _ 0 dl (by unfold doT; simp [k0, k1, k2, k3])
  have d8 : (o.drop 4).length = 8 := by simp [ho]
  by_cases k4 : gi o 0 = 4
  · have tb := trade_both g d8
    have dl : (tradeT t (o.drop 4)).1.length = 49 := tb.2.1.len
    simp [k0, k1, k2, k3, k4, ho, ht, take_all, drop4 ho]
    refine AnyW.eq e31 (trade_call t (o.drop 4) ht d8 h) ?_
    simp [dl, w2 _ _ ht dl, w2 _ _ (show (List.replicate 49 (0 : Int)).length = 49 by simp) ht, ho, ht, take_all, drop4 ho]
    refine AnyW.eq e41 (refTrade_call t (o.drop 4) ht d8 h) ?_
    rw [← tb.1]
    simp only [isTup_tup, vs_tup, gv_zero, gv_succ, isInt_i64, num_int, cells_agg, isAgg_agg, true_and, List.length_cons, List.length_nil, decide_true, ints_len, dl, w2 t _ ht dl]
    exact last _ _ 0 dl (by unfold doT; simp [k0, k1, k2, k3, k4])
  · have dl : (settleT t (gi o 1)).1.length = 49 := (settle_after g _).1.len
    simp [k0, k1, k2, k3, k4, ho, ht, take_all]
    refine AnyW.eq e42 (settle_call t ht _ h) ?_
    simp [dl, w2 _ _ ht dl, w2 _ _ (show (List.replicate 49 (0 : Int)).length = 49 by simp) ht, ho, ht, take_all]
    refine AnyW.eq e43 (refSettle_call t ht _ h) ?_
    rw [← settle_same F]
    simp only [isTup_tup, vs_tup, gv_zero, gv_succ, isInt_i64, num_int, cells_agg, isAgg_agg, true_and, List.length_cons, List.length_nil, decide_true, ints_len, dl, w2 t _ ht dl]
    exact last _ _ _ dl (by unfold doT; simp [k0, k1, k2, k3, k4])
end

section
set_option linter.all false
set_option maxRecDepth 100000
open Go Go.Proofs Jb
def f4_cf : Cfg := ⟨[], [(0, [0, 4]), (1, [9, 10, 11, 12, 13, 14, 15, 16]), (2, [1, 2, 17, 18]), (3, [1, 17]), (5, [22, 23, 24]), (6, [6, 25, 26, 27, 28, 29, 30]), (7, [8, 31]), (8, [2, 7, 19, 20, 21, 32]), (9, [7, 32, 33]), (10, [34]), (11, [2, 19, 20, 21, 22, 35])]⟩
noncomputable def f4_b : Code := bodyOf Try.f4
noncomputable def f4_n : Code :=  (codeAt [] f4_b)
noncomputable def f4_n1 : Code := hide (codeAt [1] f4_b)
noncomputable def f4_n10 : Code := hide (codeAt [1, 0] f4_b)
noncomputable def f4_n100 : Code := hide (codeAt [1, 0, 0] f4_b)
noncomputable def f4_n101 : Code := hide (codeAt [1, 0, 1] f4_b)
noncomputable def f4_n11 : Code := hide (codeAt [1, 1] f4_b)
noncomputable def f4_n110 : Code := hide (codeAt [1, 1, 0] f4_b)
noncomputable def f4_n11010 : Code := hide (codeAt [1, 1, 0, 1, 0] f4_b)
noncomputable def f4_n110100 : Code := hide (codeAt [1, 1, 0, 1, 0, 0] f4_b)
noncomputable def f4_n111 : Code := hide (codeAt [1, 1, 1] f4_b)
theorem f4_entry (t : List Int) (l : List (List V)) (l_g : G) (h : Heap) (K : V → Heap → Prop) : bodyW Try.prog f4_cf Try.f4 [(V.agg (ints t)), (V.sl 12 l l_g)] h K = wpA Try.prog f4_cf f4_n ⟨[(V.agg (ints t)), (V.sl 12 l l_g), V.undef, V.undef, V.undef, V.undef, V.undef, V.undef, V.undef, V.undef, V.undef, V.undef, V.undef, V.undef, V.undef, V.undef, V.undef, V.undef, V.undef, V.undef, V.undef, V.undef, V.undef, V.undef, V.undef, V.undef, V.undef, V.undef, V.undef, V.undef, V.undef, V.undef, V.undef, V.undef, V.undef, V.undef], []⟩ h (bodyK Try.prog Try.f4 K) := by kernel_rfl
theorem f4_n_plug : f4_n = (plug [1] (codeAt [] f4_b) f4_n1) := by
  simp only [f4_n, f4_n1, hide_eq]
  try kernel_rfl
theorem f4_n_wp (t : List Int) (l : List (List V)) (l_g : G) (h : Heap) (Q : Ex → Fr → Heap → Prop) : wpA Try.prog f4_cf f4_n ⟨[(V.agg (ints t)), (V.sl 12 l l_g), V.undef, V.undef, V.undef, V.undef, V.undef, V.undef, V.undef, V.undef, V.undef, V.undef, V.undef, V.undef, V.undef, V.undef, V.undef, V.undef, V.undef, V.undef, V.undef, V.undef, V.undef, V.undef, V.undef, V.undef, V.undef, V.undef, V.undef, V.undef, V.undef, V.undef, V.undef, V.undef, V.undef, V.undef], []⟩ h Q =
 (((List.length (ints t)) = 49) ∧ (wpA Try.prog f4_cf f4_n1 ⟨[V.undef, (V.sl 12 l l_g), (V.lp 2 0), V.undef, V.undef, V.undef, V.undef, V.undef, V.undef, V.undef, V.undef, V.undef, V.undef, V.undef, V.undef, V.undef, V.undef, V.undef, V.undef, V.undef, V.undef, V.undef, V.undef, V.undef, V.undef, V.undef, V.undef, V.undef, V.undef, V.undef, V.undef, V.undef, V.undef, V.undef, V.undef, V.undef], [(2, (ints t))]⟩ h Q)) := wpA_at f4_n_plug (by kernel_rfl)
theorem f4_n1_eq : f4_n1 = Code.seq f4_n10 f4_n11 := by
  simp only [f4_n1, f4_n10, f4_n11, hide_eq]
  kernel_rfl
theorem f4_n10_eq : f4_n10 = Code.seq f4_n100 f4_n101 := by
  simp only [f4_n10, f4_n100, f4_n101, hide_eq]
  kernel_rfl
theorem f4_n100_plug : f4_n100 = (codeAt [1, 0, 0] f4_b) := by
  simp only [f4_n100, hide_eq]
  try kernel_rfl
theorem f4_n100_wp (e0 : List (List V)) (g1 : G) (c2 : List V) (h : Heap) (Q : Ex → Fr → Heap → Prop) : wpA Try.prog f4_cf f4_n100 ⟨[V.undef, (V.sl 12 e0 g1), (V.lp 2 0), V.undef, V.undef, V.undef, V.undef, V.undef, V.undef, V.undef, V.undef, V.undef, V.undef, V.undef, V.undef, V.undef, V.undef, V.undef, V.undef, V.undef, V.undef, V.undef, V.undef, V.undef, V.undef, V.undef, V.undef, V.undef, V.undef, V.undef, V.undef, V.undef, V.undef, V.undef, V.undef, V.undef], [(2, c2)]⟩ h Q =
 (let bz1 : Bool := (decide ((100 : Int) < ((List.length e0) : Int)));
 (((!bz1) = true → (0 + 49 ≤ (List.length c2))) ∧ (let cz2 : List V := (List.take 49 (List.drop 0 c2));
 (brW (!bz1)
 (((!bz1) = true) ∧ (AnyW Try.prog 7 [(V.agg cz2)] h (fun (rz3 : V) (hz4 : Heap) =>
 ((True ∧ V.isAgg 49 rz3 = true) ∧ (let kz5 : Bool → Heap → Prop := fun (xz6 : Bool) (hz7 : Heap) =>
 (((!bz1) = true → (!bz1) = true) ∧ (((bz1 = false → (!bz1) = true) ∧ True) ∧ (Q Ex.normal ⟨[V.undef, (V.sl 12 e0 g1), (V.lp 2 0), V.undef, V.undef, V.undef, V.undef, V.undef, V.undef, V.undef, V.undef, V.undef, V.undef, V.undef, V.undef, V.undef, V.undef, (V.bool (cond bz1 true (!xz6))), V.undef, V.undef, V.undef, V.undef, V.undef, V.undef, V.undef, V.undef, V.undef, V.undef, V.undef, V.undef, V.undef, V.undef, V.undef, V.undef, V.undef, V.undef], [(2, c2)]⟩ hz7)));
 brW (!bz1)
 (AnyW Try.prog 9 [(V.agg (V.cells rz3))] hz4 (fun (rz8 : V) (hz9 : Heap) =>
 ((True ∧ V.isBool rz8 = true) ∧ (kz5 (V.flag rz8) hz9))))
 (kz5 false hz4))))))
 (let kz10 : Bool → Heap → Prop := fun (xz11 : Bool) (hz12 : Heap) =>
 (((!bz1) = true → (!bz1) = true) ∧ (((bz1 = false → (!bz1) = true) ∧ True) ∧ (Q Ex.normal ⟨[V.undef, (V.sl 12 e0 g1), (V.lp 2 0), V.undef, V.undef, V.undef, V.undef, V.undef, V.undef, V.undef, V.undef, V.undef, V.undef, V.undef, V.undef, V.undef, V.undef, (V.bool (cond bz1 true (!xz11))), V.undef, V.undef, V.undef, V.undef, V.undef, V.undef, V.undef, V.undef, V.undef, V.undef, V.undef, V.undef, V.undef, V.undef, V.undef, V.undef, V.undef, V.undef], [(2, c2)]⟩ hz12)));
 brW (!bz1)
 (AnyW Try.prog 9 [V.undef] h (fun (rz13 : V) (hz14 : Heap) =>
 ((True ∧ V.isBool rz13 = true) ∧ (kz10 (V.flag rz13) hz14))))
 (kz10 false h)))))) := wpA_at f4_n100_plug (by kernel_rfl)
theorem f4_n101_plug : f4_n101 = (codeAt [1, 0, 1] f4_b) := by
  simp only [f4_n101, hide_eq]
  try kernel_rfl
theorem f4_n101_wp (e0 : List (List V)) (g1 : G) (b2 : Bool) (c3 : List V) (h : Heap) (Q : Ex → Fr → Heap → Prop) : wpA Try.prog f4_cf f4_n101 ⟨[V.undef, (V.sl 12 e0 g1), (V.lp 2 0), V.undef, V.undef, V.undef, V.undef, V.undef, V.undef, V.undef, V.undef, V.undef, V.undef, V.undef, V.undef, V.undef, V.undef, (V.bool b2), V.undef, V.undef, V.undef, V.undef, V.undef, V.undef, V.undef, V.undef, V.undef, V.undef, V.undef, V.undef, V.undef, V.undef, V.undef, V.undef, V.undef, V.undef], [(2, c3)]⟩ h Q =
 (brW b2
 (AnyW Try.prog 10 [] h (fun (rz15 : V) (hz16 : Heap) =>
 ((True ∧ V.isBool rz15 = true) ∧ (Q Ex.ret ⟨[V.undef, V.undef, V.undef, V.undef, (V.bool (V.flag rz15)), V.undef, V.undef, V.undef, V.undef, V.undef, V.undef, V.undef, V.undef, V.undef, V.undef, V.undef, V.undef, V.undef, V.undef, V.undef, V.undef, V.undef, V.undef, V.undef, V.undef, V.undef, V.undef, V.undef, V.undef, V.undef, V.undef, V.undef, V.undef, V.undef, V.undef, V.undef], []⟩ hz16))))
 (Q Ex.normal ⟨[V.undef, (V.sl 12 e0 g1), (V.lp 2 0), V.undef, V.undef, V.undef, V.undef, V.undef, V.undef, V.undef, V.undef, V.undef, V.undef, V.undef, V.undef, V.undef, V.undef, (V.bool b2), V.undef, V.undef, V.undef, V.undef, V.undef, V.undef, V.undef, V.undef, V.undef, V.undef, V.undef, V.undef, V.undef, V.undef, V.undef, V.undef, V.undef, V.undef], [(2, c3)]⟩ h)) := wpA_at f4_n101_plug (by kernel_rfl)
theorem f4_n11_eq : f4_n11 = Code.seq f4_n110 f4_n111 := by
  simp only [f4_n11, f4_n110, f4_n111, hide_eq]
  kernel_rfl
theorem f4_n110_plug : f4_n110 = (plug [1, 0] (codeAt [1, 1, 0] f4_b) f4_n11010) := by
  simp only [f4_n110, f4_n11010, hide_eq]
  try kernel_rfl
theorem f4_n110_wp (e0 : List (List V)) (g1 : G) (b2 : Bool) (c3 : List V) (h : Heap) (Q : Ex → Fr → Heap → Prop) : wpA Try.prog f4_cf f4_n110 ⟨[V.undef, (V.sl 12 e0 g1), (V.lp 2 0), V.undef, V.undef, V.undef, V.undef, V.undef, V.undef, V.undef, V.undef, V.undef, V.undef, V.undef, V.undef, V.undef, V.undef, (V.bool b2), V.undef, V.undef, V.undef, V.undef, V.undef, V.undef, V.undef, V.undef, V.undef, V.undef, V.undef, V.undef, V.undef, V.undef, V.undef, V.undef, V.undef, V.undef], [(2, c3)]⟩ h Q =
 (wpA Try.prog f4_cf f4_n11010 ⟨[V.undef, V.undef, (V.lp 2 0), V.undef, V.undef, V.undef, V.undef, V.undef, V.undef, V.undef, V.undef, V.undef, V.undef, V.undef, V.undef, V.undef, V.undef, V.undef, V.undef, (V.sl 12 e0 g1), (V.int Go.IntKind.i64 ((List.length e0) : Int)), (V.int Go.IntKind.i64 (0 : Int)), V.undef, V.undef, V.undef, V.undef, V.undef, V.undef, V.undef, V.undef, V.undef, V.undef, V.undef, V.undef, V.undef, V.undef], [(2, c3)]⟩ h (blockK 0 Q)) := wpA_at f4_n110_plug (by kernel_rfl)
theorem f4_n11010_eq : f4_n11010 = Code.loop f4_n110100 := by
  simp only [f4_n11010, f4_n110100, hide_eq]
  kernel_rfl
def f4_n110100_F (e0 : List (List V)) (g1 : G) (x2 : Int) (x3 : Int) (c4 : List V) : Fr := ⟨[V.undef, V.undef, (V.lp 2 0), V.undef, V.undef, V.undef, V.undef, V.undef, V.undef, V.undef, V.undef, V.undef, V.undef, V.undef, V.undef, V.undef, V.undef, V.undef, V.undef, (V.sl 12 e0 g1), (V.int Go.IntKind.i64 x2), (V.int Go.IntKind.i64 x3), V.undef, V.undef, V.undef, V.undef, V.undef, V.undef, V.undef, V.undef, V.undef, V.undef, V.undef, V.undef, V.undef, V.undef], [(2, c4)]⟩
theorem f4_n110100_plug : f4_n110100 = (codeAt [1, 1, 0, 1, 0, 0] f4_b) := by
  simp only [f4_n110100, hide_eq]
  try kernel_rfl
theorem f4_n110100_wp (e0 : List (List V)) (g1 : G) (x2 : Int) (x3 : Int) (c4 : List V) (h : Heap) (Q : Ex → Fr → Heap → Prop) : wpA Try.prog f4_cf f4_n110100 ⟨[V.undef, V.undef, (V.lp 2 0), V.undef, V.undef, V.undef, V.undef, V.undef, V.undef, V.undef, V.undef, V.undef, V.undef, V.undef, V.undef, V.undef, V.undef, V.undef, V.undef, (V.sl 12 e0 g1), (V.int Go.IntKind.i64 x2), (V.int Go.IntKind.i64 x3), V.undef, V.undef, V.undef, V.undef, V.undef, V.undef, V.undef, V.undef, V.undef, V.undef, V.undef, V.undef, V.undef, V.undef], [(2, c4)]⟩ h Q =
 (brW (decide (x3 < x2))
 ((0 ≤ x3 ∧ x3 < (List.length e0)) ∧ ((0 + 12 ≤ (List.length (ge e0 (Int.toNat x3)))) ∧ (let cz17 : List V := (List.take 12 (List.drop 0 (ge e0 (Int.toNat x3))));
 (True ∧ (((List.length cz17) = 12) ∧ 0 + 12 ≤ 12 ∧ (let cz18 : List V := (wrCells [(V.int Go.IntKind.i64 (0 : Int)), (V.int Go.IntKind.i64 (0 : Int)), (V.int Go.IntKind.i64 (0 : Int)), (V.int Go.IntKind.i64 (0 : Int)), (V.int Go.IntKind.i64 (0 : Int)), (V.int Go.IntKind.i64 (0 : Int)), (V.int Go.IntKind.i64 (0 : Int)), (V.int Go.IntKind.i64 (0 : Int)), (V.int Go.IntKind.i64 (0 : Int)), (V.int Go.IntKind.i64 (0 : Int)), (V.int Go.IntKind.i64 (0 : Int)), (V.int Go.IntKind.i64 (0 : Int))] 0 cz17);
 ((0 + 49 ≤ (List.length c4)) ∧ (let cz19 : List V := (List.take 49 (List.drop 0 c4));
 ((0 + 12 ≤ (List.length cz18)) ∧ (let cz20 : List V := (List.take 12 (List.drop 0 cz18));
 (AnyW Try.prog 15 [(V.agg cz19), (V.agg cz20)] h (fun (rz21 : V) (hz22 : Heap) =>
 (V.isTup 2 rz21 = true ∧ ((True ∧ V.isAgg 49 (gv (V.vs rz21) 0) = true) ∧ (let cz23 : List V := (V.cells (gv (V.vs rz21) 0));
 ((True ∧ V.isBool (gv (V.vs rz21) 1) = true) ∧ (let bz24 : Bool := (V.flag (gv (V.vs rz21) 1));
 ((true = true) ∧ ((true = true) ∧ (True ∧ (((List.length cz23) = 49) ∧ 0 + 49 ≤ 49 ∧ (let cz25 : List V := (wrCells [(V.int Go.IntKind.i64 (0 : Int)), (V.int Go.IntKind.i64 (0 : Int)), (V.int Go.IntKind.i64 (0 : Int)), (V.int Go.IntKind.i64 (0 : Int)), (V.int Go.IntKind.i64 (0 : Int)), (V.int Go.IntKind.i64 (0 : Int)), (V.int Go.IntKind.i64 (0 : Int)), (V.int Go.IntKind.i64 (0 : Int)), (V.int Go.IntKind.i64 (0 : Int)), (V.int Go.IntKind.i64 (0 : Int)), (V.int Go.IntKind.i64 (0 : Int)), (V.int Go.IntKind.i64 (0 : Int)), (V.int Go.IntKind.i64 (0 : Int)), (V.int Go.IntKind.i64 (0 : Int)), (V.int Go.IntKind.i64 (0 : Int)), (V.int Go.IntKind.i64 (0 : Int)), (V.int Go.IntKind.i64 (0 : Int)), (V.int Go.IntKind.i64 (0 : Int)), (V.int Go.IntKind.i64 (0 : Int)), (V.int Go.IntKind.i64 (0 : Int)), (V.int Go.IntKind.i64 (0 : Int)), (V.int Go.IntKind.i64 (0 : Int)), (V.int Go.IntKind.i64 (0 : Int)), (V.int Go.IntKind.i64 (0 : Int)), (V.int Go.IntKind.i64 (0 : Int)), (V.int Go.IntKind.i64 (0 : Int)), (V.int Go.IntKind.i64 (0 : Int)), (V.int Go.IntKind.i64 (0 : Int)), (V.int Go.IntKind.i64 (0 : Int)), (V.int Go.IntKind.i64 (0 : Int)), (V.int Go.IntKind.i64 (0 : Int)), (V.int Go.IntKind.i64 (0 : Int)), (V.int Go.IntKind.i64 (0 : Int)), (V.int Go.IntKind.i64 (0 : Int)), (V.int Go.IntKind.i64 (0 : Int)), (V.int Go.IntKind.i64 (0 : Int)), (V.int Go.IntKind.i64 (0 : Int)), (V.int Go.IntKind.i64 (0 : Int)), (V.int Go.IntKind.i64 (0 : Int)), (V.int Go.IntKind.i64 (0 : Int)), (V.int Go.IntKind.i64 (0 : Int)), (V.int Go.IntKind.i64 (0 : Int)), (V.int Go.IntKind.i64 (0 : Int)), (V.int Go.IntKind.i64 (0 : Int)), (V.int Go.IntKind.i64 (0 : Int)), (V.int Go.IntKind.i64 (0 : Int)), (V.int Go.IntKind.i64 (0 : Int)), (V.int Go.IntKind.i64 (0 : Int)), (V.int Go.IntKind.i64 (0 : Int))] 0 cz23);
 (brW (!bz24)
 (Q Ex.ret ⟨[V.undef, V.undef, V.undef, V.undef, (V.bool false), V.undef, V.undef, V.undef, V.undef, V.undef, V.undef, V.undef, V.undef, V.undef, V.undef, V.undef, V.undef, V.undef, V.undef, V.undef, V.undef, V.undef, V.undef, V.undef, V.undef, V.undef, V.undef, V.undef, V.undef, V.undef, V.undef, V.undef, V.undef, V.undef, V.undef, V.undef], []⟩ hz22)
 ((0 + 49 ≤ (List.length cz25)) ∧ (let cz26 : List V := (List.take 49 (List.drop 0 cz25));
 (((List.length cz26) = 49) ∧ 0 + 49 ≤ (List.length c4) ∧ (let iz27 : Int := (Go.IntKind.wrap Go.IntKind.i64 (x3 + (1 : Int)));
 (Q Ex.normal ⟨[V.undef, V.undef, (V.lp 2 0), V.undef, V.undef, V.undef, V.undef, V.undef, V.undef, V.undef, V.undef, V.undef, V.undef, V.undef, V.undef, V.undef, V.undef, V.undef, V.undef, (V.sl 12 e0 g1), (V.int Go.IntKind.i64 x2), (V.int Go.IntKind.i64 iz27), V.undef, V.undef, V.undef, V.undef, V.undef, V.undef, V.undef, V.undef, V.undef, V.undef, V.undef, V.undef, V.undef, V.undef], [(2, (wrCells c4 0 cz26))]⟩ hz22))))))))))))))))))))))))))))
 (Q (Ex.exit 0) ⟨[V.undef, V.undef, (V.lp 2 0), V.undef, V.undef, V.undef, V.undef, V.undef, V.undef, V.undef, V.undef, V.undef, V.undef, V.undef, V.undef, V.undef, V.undef, V.undef, V.undef, (V.sl 12 e0 g1), (V.int Go.IntKind.i64 x2), (V.int Go.IntKind.i64 x3), (V.bool (decide (x3 < x2))), V.undef, V.undef, V.undef, V.undef, V.undef, V.undef, V.undef, V.undef, V.undef, V.undef, V.undef, V.undef, V.undef], [(2, c4)]⟩ h)) := wpA_at f4_n110100_plug (by kernel_rfl)
theorem f4_n111_plug : f4_n111 = (codeAt [1, 1, 1] f4_b) := by
  simp only [f4_n111, hide_eq]
  try kernel_rfl
theorem f4_n111_wp (e0 : List (List V)) (g1 : G) (x2 : Int) (x3 : Int) (b4 : Bool) (c5 : List V) (h : Heap) (Q : Ex → Fr → Heap → Prop) : wpA Try.prog f4_cf f4_n111 ⟨[V.undef, V.undef, (V.lp 2 0), V.undef, V.undef, V.undef, V.undef, V.undef, V.undef, V.undef, V.undef, V.undef, V.undef, V.undef, V.undef, V.undef, V.undef, V.undef, V.undef, (V.sl 12 e0 g1), (V.int Go.IntKind.i64 x2), (V.int Go.IntKind.i64 x3), (V.bool b4), V.undef, V.undef, V.undef, V.undef, V.undef, V.undef, V.undef, V.undef, V.undef, V.undef, V.undef, V.undef, V.undef], [(2, c5)]⟩ h Q =
 (AnyW Try.prog 10 [] h (fun (rz28 : V) (hz29 : Heap) =>
 ((True ∧ V.isBool rz28 = true) ∧ (Q Ex.ret ⟨[V.undef, V.undef, V.undef, V.undef, (V.bool (V.flag rz28)), V.undef, V.undef, V.undef, V.undef, V.undef, V.undef, V.undef, V.undef, V.undef, V.undef, V.undef, V.undef, V.undef, V.undef, V.undef, V.undef, V.undef, V.undef, V.undef, V.undef, V.undef, V.undef, V.undef, V.undef, V.undef, V.undef, V.undef, V.undef, V.undef, V.undef, V.undef], []⟩ hz29)))) := wpA_at f4_n111_plug (by kernel_rfl)
theorem f4_end1 (b0 : Bool) (h : Heap) (K : V → Heap → Prop) : bodyK Try.prog Try.f4 K Ex.ret ⟨[V.undef, V.undef, V.undef, V.undef, (V.bool b0), V.undef, V.undef, V.undef, V.undef, V.undef, V.undef, V.undef, V.undef, V.undef, V.undef, V.undef, V.undef, V.undef, V.undef, V.undef, V.undef, V.undef, V.undef, V.undef, V.undef, V.undef, V.undef, V.undef, V.undef, V.undef, V.undef, V.undef, V.undef, V.undef, V.undef, V.undef], []⟩ h = (K (V.bool b0) h) := by kernel_rfl
end

section
open Go Go.Proofs Jb
set_option linter.unusedSimpArgs false
set_option maxRecDepth 8000

theorem e15 : enters Try.prog 15 = true := by kernel_rfl
theorem ge_rows (L : List (List Int)) {i : Nat} (hi : i < L.length) : ge (L.map ints) i = ints L[i] := by simp [ge, List.getD, hi]
theorem drop0 {o : List Int} {n : Nat} (ho : o.length = n) : List.take n (ints o) = ints o := by rw [List.take_of_length_le]; simp [ho]
theorem good_iff {t : List Int} (ht : t.length = 49) : refGood t = true ↔ GoodI t := by rw [← good_same t ht]; exact goodT_iff ht

theorem doT_after {t o : List Int} (g : GoodI t) (ho : o.length = 12) : GoodI (doT t o) := by
  unfold doT
  split
  · rcases deposit_after g (gi o 1) (gi o 2) (gi o 3) with h | h
    · exact h.1.1
    · exact h.2.2.1
  split
  · rcases withdraw_after g (gi o 1) (gi o 2) (gi o 3) with h | h
    · exact h.1.1
    · exact h.2.2.1
  split
  · exact (hold_after g _ _ _).1
  split
  · exact (release_after g _ _ _).1
  split
  · exact (trade_both g (by simp [ho])).2.1
  · exact (settle_after g _).1

theorem PursePlays_call (t : List Int) (F : Fits t) (L : List (List Int)) (hL : ∀ o ∈ L, o.length = 12 ∧ ∀ n ∈ o, I64 n) (gg : G) (h : Heap) : CallW Try.prog 4 [.agg (ints t), .sl 12 (L.map ints) gg] h (fun r h' => r = .bool true ∧ h' = h) := by
  have ht := F.1
  refine CallW.body mix f4_cf Try.func4 (by rw [Try.ntmps4]; simp) ?_
  rw [f4_entry, f4_n_wp]
  refine ⟨by simp [ht], ?_⟩
  rw [f4_n1_eq, wpA_seq, f4_n10_eq, wpA_seq, f4_n100_wp]
  generalize hK : (fun (r : V) (h' : Heap) => r = .bool true ∧ h' = h) = K
  have hk : K (.bool true) h := by rw [← hK]; exact ⟨rfl, rfl⟩
  by_cases hlen : 100 < L.length
  · simp [show (100 : Int) < (L.length : Int) from by omega, hlen, f4_n101_wp]
    refine lives_any ?_
    simp [f4_end1, hk]
  · have hlen' : ¬ (100 : Int) < (L.length : Int) := by omega
    simp [hlen', hlen, ht, take_all]
    refine Plain_any ht ?_
    simp [ht]
    refine refGood_any F ?_
    cases hg : refGood t with
    | false =>
      simp [f4_n101_wp]
      refine lives_any ?_
      simp [f4_end1, hk]
    | true =>
      have g0 := (good_iff ht).1 hg
      simp [f4_n101_wp]
      rw [f4_n11_eq, wpA_seq, f4_n110_wp, f4_n11010_eq]
      refine wpA_loop (σ := Nat × List Int) (fun s => f4_n110100_F (L.map ints) gg L.length s.1 (ints s.2)) (fun _ => h) (fun s => L.length - s.1) (fun s => s.1 ≤ L.length ∧ GoodI s.2) (0, t) (by simp [f4_n110100_F]) rfl ⟨by simp, g0⟩ ?_
      rintro ⟨i, t⟩ ⟨hi, g⟩
      simp only at hi g
      have ht := g.len
      simp only [f4_n110100_F]
      rw [f4_n110100_wp]
      by_cases hlt : i < L.length
      · have ho := hL L[i] (List.getElem_mem hlt)
        have gd := doT_after g ho.1
        have w12 : wrCells [.int .i64 0, .int .i64 0, .int .i64 0, .int .i64 0, .int .i64 0, .int .i64 0, .int .i64 0, .int .i64 0, .int .i64 0, .int .i64 0, .int .i64 0, .int .i64 0] 0 (ints L[i]) = ints L[i] := by simp [wrCells, ho.1]
        have w2 : ∀ (a l : List Int), a.length = 49 → l.length = 49 → wrCells (ints a) 0 (ints l) = ints l := fun a l h1 h2 => wr_all l (by simp [h1]) h2
        simp [hlt, ge_rows L hlt, ho.1, drop0 ho.1, w12, ht, take_all]
        refine AnyW.eq e15 (Do_call t L[i] g ho.1 ho.2 h) ?_
        simp only [nilT, isTup_tup, vs_tup, gv_zero, gv_succ, isInt_i64, num_int, cells_agg, isAgg_agg, isBool_bool, flag_bool, true_and, List.length_cons, List.length_nil, decide_true, ints_len, gd.len, ht, w2 t _ ht gd.len, w2 (List.replicate 49 0) _ (by simp) gd.len, Bool.not_true, brW_false, List.drop_zero, take_all gd.len, seqK_normal, wrap_up i (by omega)]
        refine ⟨by simp, by omega, i + 1, doT t L[i], ⟨rfl, rfl⟩, ⟨by omega, gd⟩, by omega⟩
      · simp [hlt, f4_n111_wp]
        refine lives_any ?_
        simp [f4_end1, hk]
end
