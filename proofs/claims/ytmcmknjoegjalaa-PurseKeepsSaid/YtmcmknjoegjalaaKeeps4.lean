/- Proved here: of Keeps4, that what the Go functions of this part compute is as their contracts say (texts S36, S29, S42, Cd, S31, Ce, S71, S27, S34, S14, S59, S28, Ci, S12), for every input; no condition beyond those that each theorem states. -/
import Derived.Test.YtmcmknjoegjalaaKeeps2
import Derived.KernelRfl
import Derived.Test.YtmcmknjoegjalaaProg
import Derived.Test.YtmcmknjoegjalaaKeeps3
set_option linter.all false
section
set_option linter.all false
set_option maxRecDepth 100000
open Go Go.Proofs Jb
def f36_cf : Cfg := ⟨[4], [(0, [0, 9]), (1, [13, 14, 15, 16, 17, 18, 19, 20, 21, 22, 23, 24, 25]), (2, [1, 2, 3, 4, 26, 27]), (3, [26]), (4, [28]), (5, [29, 30, 31, 32, 33, 34]), (6, [10, 29, 35, 36, 37, 38, 39, 40, 41]), (7, [1, 2, 3, 4, 42, 43]), (8, [1, 2, 12, 42, 44, 45, 46, 47, 48, 49, 50, 51]), (9, [3, 11, 52, 53, 54, 55, 56, 57]), (10, [4, 58])]⟩
noncomputable def f36_b : Code := bodyOf Try.f36
noncomputable def f36_n : Code :=  (codeAt [] f36_b)
noncomputable def f36_n1 : Code := hide (codeAt [1] f36_b)
noncomputable def f36_n10 : Code := hide (codeAt [1, 0] f36_b)
noncomputable def f36_n100 : Code := hide (codeAt [1, 0, 0] f36_b)
noncomputable def f36_n101 : Code := hide (codeAt [1, 0, 1] f36_b)
noncomputable def f36_n11 : Code := hide (codeAt [1, 1] f36_b)
noncomputable def f36_n111 : Code := hide (codeAt [1, 1, 1] f36_b)
noncomputable def f36_n1110 : Code := hide (codeAt [1, 1, 1, 0] f36_b)
noncomputable def f36_n1111 : Code := hide (codeAt [1, 1, 1, 1] f36_b)
theorem f36_entry (t : List Int) (x : Int) (s : Int) (n : Int) (h : Heap) (K : V → Heap → Prop) : bodyW Try.prog f36_cf Try.f36 [(V.agg (ints t)), (V.int Go.IntKind.i64 x), (V.int Go.IntKind.i64 s), (V.int Go.IntKind.i64 n)] h K = wpA Try.prog f36_cf f36_n ⟨[(V.agg (ints t)), (V.int Go.IntKind.i64 x), (V.int Go.IntKind.i64 s), (V.int Go.IntKind.i64 n), V.undef, V.undef, V.undef, V.undef, V.undef, V.undef, V.undef, V.undef, V.undef, V.undef, V.undef, V.undef, V.undef, V.undef, V.undef, V.undef, V.undef, V.undef, V.undef, V.undef, V.undef, V.undef, V.undef, V.undef, V.undef, V.undef, V.undef, V.undef, V.undef, V.undef, V.undef, V.undef, V.undef, V.undef, V.undef, V.undef, V.undef, V.undef, V.undef, V.undef, V.undef, V.undef, V.undef, V.undef, V.undef, V.undef, V.undef, V.undef, V.undef, V.undef, V.undef, V.undef, V.undef, V.undef, V.undef], []⟩ h (bodyK Try.prog Try.f36 K) := by kernel_rfl
theorem f36_n_plug : f36_n = (plug [1] (codeAt [] f36_b) f36_n1) := by
  simp only [f36_n, f36_n1, hide_eq]
  try kernel_rfl
theorem f36_n_wp (t : List Int) (x : Int) (s : Int) (n : Int) (h : Heap) (Q : Ex → Fr → Heap → Prop) : wpA Try.prog f36_cf f36_n ⟨[(V.agg (ints t)), (V.int Go.IntKind.i64 x), (V.int Go.IntKind.i64 s), (V.int Go.IntKind.i64 n), V.undef, V.undef, V.undef, V.undef, V.undef, V.undef, V.undef, V.undef, V.undef, V.undef, V.undef, V.undef, V.undef, V.undef, V.undef, V.undef, V.undef, V.undef, V.undef, V.undef, V.undef, V.undef, V.undef, V.undef, V.undef, V.undef, V.undef, V.undef, V.undef, V.undef, V.undef, V.undef, V.undef, V.undef, V.undef, V.undef, V.undef, V.undef, V.undef, V.undef, V.undef, V.undef, V.undef, V.undef, V.undef, V.undef, V.undef, V.undef, V.undef, V.undef, V.undef, V.undef, V.undef, V.undef, V.undef], []⟩ h Q =
 (((List.length (ints t)) = 49) ∧ (∀ lz1 : Nat, h lz1 = none → (let hz2 : Heap := (Heap.upd h lz1 (Ob.cells (ints t)));
 (True ∧ (wpA Try.prog f36_cf f36_n1 ⟨[V.undef, (V.int Go.IntKind.i64 x), (V.int Go.IntKind.i64 s), (V.int Go.IntKind.i64 n), (V.ptr lz1 0), V.undef, V.undef, V.undef, (V.lp 8 0), V.undef, V.undef, V.undef, V.undef, V.undef, V.undef, V.undef, V.undef, V.undef, V.undef, V.undef, V.undef, V.undef, V.undef, V.undef, V.undef, V.undef, V.undef, V.undef, V.undef, V.undef, V.undef, V.undef, V.undef, V.undef, V.undef, V.undef, V.undef, V.undef, V.undef, V.undef, V.undef, V.undef, V.undef, V.undef, V.undef, V.undef, V.undef, V.undef, V.undef, V.undef, V.undef, V.undef, V.undef, V.undef, V.undef, V.undef, V.undef, V.undef, V.undef], [(8, [(V.int Go.IntKind.i64 (0 : Int)), (V.int Go.IntKind.i64 (0 : Int)), (V.int Go.IntKind.i64 (0 : Int)), (V.int Go.IntKind.i64 (0 : Int)), (V.int Go.IntKind.i64 (0 : Int)), (V.int Go.IntKind.i64 (0 : Int)), (V.int Go.IntKind.i64 (0 : Int)), (V.int Go.IntKind.i64 (0 : Int)), (V.int Go.IntKind.i64 (0 : Int)), (V.int Go.IntKind.i64 (0 : Int)), (V.int Go.IntKind.i64 (0 : Int)), (V.int Go.IntKind.i64 (0 : Int)), (V.int Go.IntKind.i64 (0 : Int)), (V.int Go.IntKind.i64 (0 : Int)), (V.int Go.IntKind.i64 (0 : Int)), (V.int Go.IntKind.i64 (0 : Int)), (V.int Go.IntKind.i64 (0 : Int)), (V.int Go.IntKind.i64 (0 : Int)), (V.int Go.IntKind.i64 (0 : Int)), (V.int Go.IntKind.i64 (0 : Int)), (V.int Go.IntKind.i64 (0 : Int)), (V.int Go.IntKind.i64 (0 : Int)), (V.int Go.IntKind.i64 (0 : Int)), (V.int Go.IntKind.i64 (0 : Int)), (V.int Go.IntKind.i64 (0 : Int)), (V.int Go.IntKind.i64 (0 : Int)), (V.int Go.IntKind.i64 (0 : Int)), (V.int Go.IntKind.i64 (0 : Int)), (V.int Go.IntKind.i64 (0 : Int)), (V.int Go.IntKind.i64 (0 : Int)), (V.int Go.IntKind.i64 (0 : Int)), (V.int Go.IntKind.i64 (0 : Int)), (V.int Go.IntKind.i64 (0 : Int)), (V.int Go.IntKind.i64 (0 : Int)), (V.int Go.IntKind.i64 (0 : Int)), (V.int Go.IntKind.i64 (0 : Int)), (V.int Go.IntKind.i64 (0 : Int)), (V.int Go.IntKind.i64 (0 : Int)), (V.int Go.IntKind.i64 (0 : Int)), (V.int Go.IntKind.i64 (0 : Int)), (V.int Go.IntKind.i64 (0 : Int)), (V.int Go.IntKind.i64 (0 : Int)), (V.int Go.IntKind.i64 (0 : Int)), (V.int Go.IntKind.i64 (0 : Int)), (V.int Go.IntKind.i64 (0 : Int)), (V.int Go.IntKind.i64 (0 : Int)), (V.int Go.IntKind.i64 (0 : Int)), (V.int Go.IntKind.i64 (0 : Int)), (V.int Go.IntKind.i64 (0 : Int))])]⟩ hz2 Q))))) := wpA_at f36_n_plug (by kernel_rfl)
theorem f36_n1_eq : f36_n1 = Code.seq f36_n10 f36_n11 := by
  simp only [f36_n1, f36_n10, f36_n11, hide_eq]
  kernel_rfl
theorem f36_n10_eq : f36_n10 = Code.seq f36_n100 f36_n101 := by
  simp only [f36_n10, f36_n100, f36_n101, hide_eq]
  kernel_rfl
theorem f36_n100_plug : f36_n100 = (codeAt [1, 0, 0] f36_b) := by
  simp only [f36_n100, hide_eq]
  try kernel_rfl
theorem f36_n100_wp (x0 : Int) (x1 : Int) (x2 : Int) (l3 : Nat) (c4 : List V) (h : Heap) (Q : Ex → Fr → Heap → Prop) : wpA Try.prog f36_cf f36_n100 ⟨[V.undef, (V.int Go.IntKind.i64 x0), (V.int Go.IntKind.i64 x1), (V.int Go.IntKind.i64 x2), (V.ptr l3 0), V.undef, V.undef, V.undef, (V.lp 8 0), V.undef, V.undef, V.undef, V.undef, V.undef, V.undef, V.undef, V.undef, V.undef, V.undef, V.undef, V.undef, V.undef, V.undef, V.undef, V.undef, V.undef, V.undef, V.undef, V.undef, V.undef, V.undef, V.undef, V.undef, V.undef, V.undef, V.undef, V.undef, V.undef, V.undef, V.undef, V.undef, V.undef, V.undef, V.undef, V.undef, V.undef, V.undef, V.undef, V.undef, V.undef, V.undef, V.undef, V.undef, V.undef, V.undef, V.undef, V.undef, V.undef, V.undef], [(8, c4)]⟩ h Q =
 (AnyW Try.prog 32 [(V.int Go.IntKind.i64 x0), (V.int Go.IntKind.i64 x1)] h (fun (rz3 : V) (hz4 : Heap) =>
 ((True ∧ V.isBool rz3 = true) ∧ (((!(!(V.flag rz3))) = true → (!(!(V.flag rz3))) = true) ∧ (let bz5 : Bool := (decide (x2 < (1 : Int)));
 ((((!(V.flag rz3)) = false → (!(!(V.flag rz3))) = true) ∧ True) ∧ (let bz6 : Bool := (cond (!(V.flag rz3)) true bz5);
 (((!bz6) = true → (!bz6) = true) ∧ (((!bz6) = true → (True ∧ True)) ∧ (let kz7 : Bool → Heap → Prop := fun (xz8 : Bool) (hz9 : Heap) =>
 (((!bz6) = true → (!bz6) = true) ∧ (((bz6 = false → (!bz6) = true) ∧ True) ∧ (Q Ex.normal ⟨[V.undef, (V.int Go.IntKind.i64 x0), (V.int Go.IntKind.i64 x1), (V.int Go.IntKind.i64 x2), (V.ptr l3 0), V.undef, V.undef, V.undef, (V.lp 8 0), V.undef, V.undef, V.undef, V.undef, V.undef, V.undef, V.undef, V.undef, V.undef, V.undef, V.undef, V.undef, V.undef, V.undef, V.undef, V.undef, V.undef, (V.bool (cond bz6 true (!xz8))), V.undef, V.undef, V.undef, V.undef, V.undef, V.undef, V.undef, V.undef, V.undef, V.undef, V.undef, V.undef, V.undef, V.undef, V.undef, V.undef, V.undef, V.undef, V.undef, V.undef, V.undef, V.undef, V.undef, V.undef, V.undef, V.undef, V.undef, V.undef, V.undef, V.undef, V.undef, V.undef], [(8, c4)]⟩ hz9)));
 brW (!bz6)
 (((!bz6) = true) ∧ (AnyW Try.prog 24 [(V.sl 1 [[(V.int Go.IntKind.i64 x2)]] G.full)] hz4 (fun (rz10 : V) (hz11 : Heap) =>
 ((True ∧ V.isBool rz10 = true) ∧ (kz7 (V.flag rz10) hz11)))))
 (kz7 false hz4))))))))))) := wpA_at f36_n100_plug (by kernel_rfl)
theorem f36_n101_plug : f36_n101 = (codeAt [1, 0, 1] f36_b) := by
  simp only [f36_n101, hide_eq]
  try kernel_rfl
theorem f36_n101_wp (x0 : Int) (x1 : Int) (x2 : Int) (l3 : Nat) (b4 : Bool) (c5 : List V) (h : Heap) (Q : Ex → Fr → Heap → Prop) : wpA Try.prog f36_cf f36_n101 ⟨[V.undef, (V.int Go.IntKind.i64 x0), (V.int Go.IntKind.i64 x1), (V.int Go.IntKind.i64 x2), (V.ptr l3 0), V.undef, V.undef, V.undef, (V.lp 8 0), V.undef, V.undef, V.undef, V.undef, V.undef, V.undef, V.undef, V.undef, V.undef, V.undef, V.undef, V.undef, V.undef, V.undef, V.undef, V.undef, V.undef, (V.bool b4), V.undef, V.undef, V.undef, V.undef, V.undef, V.undef, V.undef, V.undef, V.undef, V.undef, V.undef, V.undef, V.undef, V.undef, V.undef, V.undef, V.undef, V.undef, V.undef, V.undef, V.undef, V.undef, V.undef, V.undef, V.undef, V.undef, V.undef, V.undef, V.undef, V.undef, V.undef, V.undef], [(8, c5)]⟩ h Q =
 (brW b4
 ((0 + 49 ≤ (List.length (cellsAt h l3))) ∧ (let cz12 : List V := (List.take 49 (List.drop 0 (cellsAt h l3)));
 (((List.length cz12) = 49) ∧ 0 + 49 ≤ (List.length c5) ∧ (Q Ex.ret ⟨[V.undef, V.undef, V.undef, V.undef, V.undef, V.undef, V.undef, V.undef, (V.lp 8 0), (V.int Go.IntKind.i64 (2 : Int)), V.undef, V.undef, V.undef, V.undef, V.undef, V.undef, V.undef, V.undef, V.undef, V.undef, V.undef, V.undef, V.undef, V.undef, V.undef, V.undef, V.undef, V.undef, V.undef, V.undef, V.undef, V.undef, V.undef, V.undef, V.undef, V.undef, V.undef, V.undef, V.undef, V.undef, V.undef, V.undef, V.undef, V.undef, V.undef, V.undef, V.undef, V.undef, V.undef, V.undef, V.undef, V.undef, V.undef, V.undef, V.undef, V.undef, V.undef, V.undef, V.undef], [(8, (wrCells c5 0 cz12))]⟩ h))))
 (Q Ex.normal ⟨[V.undef, (V.int Go.IntKind.i64 x0), (V.int Go.IntKind.i64 x1), (V.int Go.IntKind.i64 x2), (V.ptr l3 0), V.undef, V.undef, V.undef, (V.lp 8 0), V.undef, V.undef, V.undef, V.undef, V.undef, V.undef, V.undef, V.undef, V.undef, V.undef, V.undef, V.undef, V.undef, V.undef, V.undef, V.undef, V.undef, (V.bool b4), V.undef, V.undef, V.undef, V.undef, V.undef, V.undef, V.undef, V.undef, V.undef, V.undef, V.undef, V.undef, V.undef, V.undef, V.undef, V.undef, V.undef, V.undef, V.undef, V.undef, V.undef, V.undef, V.undef, V.undef, V.undef, V.undef, V.undef, V.undef, V.undef, V.undef, V.undef, V.undef], [(8, c5)]⟩ h)) := wpA_at f36_n101_plug (by kernel_rfl)
theorem f36_n11_plug : f36_n11 = (plug [1] (codeAt [1, 1] f36_b) f36_n111) := by
  simp only [f36_n11, f36_n111, hide_eq]
  try kernel_rfl
theorem f36_n11_wp (x0 : Int) (x1 : Int) (x2 : Int) (l3 : Nat) (b4 : Bool) (c5 : List V) (h : Heap) (Q : Ex → Fr → Heap → Prop) : wpA Try.prog f36_cf f36_n11 ⟨[V.undef, (V.int Go.IntKind.i64 x0), (V.int Go.IntKind.i64 x1), (V.int Go.IntKind.i64 x2), (V.ptr l3 0), V.undef, V.undef, V.undef, (V.lp 8 0), V.undef, V.undef, V.undef, V.undef, V.undef, V.undef, V.undef, V.undef, V.undef, V.undef, V.undef, V.undef, V.undef, V.undef, V.undef, V.undef, V.undef, (V.bool b4), V.undef, V.undef, V.undef, V.undef, V.undef, V.undef, V.undef, V.undef, V.undef, V.undef, V.undef, V.undef, V.undef, V.undef, V.undef, V.undef, V.undef, V.undef, V.undef, V.undef, V.undef, V.undef, V.undef, V.undef, V.undef, V.undef, V.undef, V.undef, V.undef, V.undef, V.undef, V.undef], [(8, c5)]⟩ h Q =
 (wpA Try.prog f36_cf f36_n111 ⟨[V.undef, (V.int Go.IntKind.i64 x0), (V.int Go.IntKind.i64 x1), (V.int Go.IntKind.i64 x2), (V.ptr l3 0), V.undef, V.undef, V.undef, (V.lp 8 0), V.undef, (V.int Go.IntKind.i64 (0 : Int)), V.undef, V.undef, V.undef, V.undef, V.undef, V.undef, V.undef, V.undef, V.undef, V.undef, V.undef, V.undef, V.undef, V.undef, V.undef, V.undef, V.undef, V.undef, V.undef, V.undef, V.undef, V.undef, V.undef, V.undef, V.undef, V.undef, V.undef, V.undef, V.undef, V.undef, V.undef, V.undef, V.undef, V.undef, V.undef, V.undef, V.undef, V.undef, V.undef, V.undef, V.undef, V.undef, V.undef, V.undef, V.undef, V.undef, V.undef, V.undef], [(8, c5)]⟩ h Q) := wpA_at f36_n11_plug (by kernel_rfl)
theorem f36_n111_eq : f36_n111 = Code.seq f36_n1110 f36_n1111 := by
  simp only [f36_n111, f36_n1110, f36_n1111, hide_eq]
  kernel_rfl
theorem f36_n1110_plug : f36_n1110 = (codeAt [1, 1, 1, 0] f36_b) := by
  simp only [f36_n1110, hide_eq]
  try kernel_rfl
theorem f36_n1110_wp (x0 : Int) (x1 : Int) (x2 : Int) (l3 : Nat) (x4 : Int) (c5 : List V) (h : Heap) (Q : Ex → Fr → Heap → Prop) : wpA Try.prog f36_cf f36_n1110 ⟨[V.undef, (V.int Go.IntKind.i64 x0), (V.int Go.IntKind.i64 x1), (V.int Go.IntKind.i64 x2), (V.ptr l3 0), V.undef, V.undef, V.undef, (V.lp 8 0), V.undef, (V.int Go.IntKind.i64 x4), V.undef, V.undef, V.undef, V.undef, V.undef, V.undef, V.undef, V.undef, V.undef, V.undef, V.undef, V.undef, V.undef, V.undef, V.undef, V.undef, V.undef, V.undef, V.undef, V.undef, V.undef, V.undef, V.undef, V.undef, V.undef, V.undef, V.undef, V.undef, V.undef, V.undef, V.undef, V.undef, V.undef, V.undef, V.undef, V.undef, V.undef, V.undef, V.undef, V.undef, V.undef, V.undef, V.undef, V.undef, V.undef, V.undef, V.undef, V.undef], [(8, c5)]⟩ h Q =
 (brW (x1 == (1 : Int))
 ((0 ≤ x0 ∧ x0 < 8) ∧ ((((0 + ((Int.toNat x0) * 6)) + 4) < (List.length (cellsAt h l3)) ∧ V.isInt Go.IntKind.i64 (gv (cellsAt h l3) ((0 + ((Int.toNat x0) * 6)) + 4)) = true) ∧ (let iz13 : Int := (V.num (gv (cellsAt h l3) ((0 + ((Int.toNat x0) * 6)) + 4)));
 (Q Ex.normal ⟨[V.undef, (V.int Go.IntKind.i64 x0), (V.int Go.IntKind.i64 x1), (V.int Go.IntKind.i64 x2), (V.ptr l3 0), V.undef, V.undef, V.undef, (V.lp 8 0), V.undef, (V.int Go.IntKind.i64 iz13), V.undef, V.undef, V.undef, V.undef, V.undef, V.undef, V.undef, V.undef, V.undef, V.undef, V.undef, V.undef, V.undef, V.undef, V.undef, V.undef, V.undef, V.undef, V.undef, V.undef, V.undef, V.undef, V.undef, V.undef, V.undef, V.undef, V.undef, V.undef, V.undef, V.undef, V.undef, V.undef, V.undef, V.undef, V.undef, V.undef, V.undef, V.undef, V.undef, V.undef, V.undef, V.undef, V.undef, V.undef, V.undef, V.undef, V.undef, V.undef], [(8, c5)]⟩ h))))
 (Q Ex.normal ⟨[V.undef, (V.int Go.IntKind.i64 x0), (V.int Go.IntKind.i64 x1), (V.int Go.IntKind.i64 x2), (V.ptr l3 0), V.undef, V.undef, V.undef, (V.lp 8 0), V.undef, (V.int Go.IntKind.i64 x4), V.undef, V.undef, V.undef, V.undef, V.undef, V.undef, V.undef, V.undef, V.undef, V.undef, V.undef, V.undef, V.undef, V.undef, V.undef, V.undef, V.undef, V.undef, (V.bool (x1 == (1 : Int))), V.undef, V.undef, V.undef, V.undef, V.undef, V.undef, V.undef, V.undef, V.undef, V.undef, V.undef, V.undef, V.undef, V.undef, V.undef, V.undef, V.undef, V.undef, V.undef, V.undef, V.undef, V.undef, V.undef, V.undef, V.undef, V.undef, V.undef, V.undef, V.undef], [(8, c5)]⟩ h)) := wpA_at f36_n1110_plug (by kernel_rfl)
theorem f36_n1111_plug : f36_n1111 = (codeAt [1, 1, 1, 1] f36_b) := by
  simp only [f36_n1111, hide_eq]
  try kernel_rfl
theorem f36_n1111_wp (x0 : Int) (x1 : Int) (x2 : Int) (l3 : Nat) (x4 : Int) (c5 : List V) (h : Heap) (Q : Ex → Fr → Heap → Prop) : wpA Try.prog f36_cf f36_n1111 ⟨[V.undef, (V.int Go.IntKind.i64 x0), (V.int Go.IntKind.i64 x1), (V.int Go.IntKind.i64 x2), (V.ptr l3 0), V.undef, V.undef, V.undef, (V.lp 8 0), V.undef, (V.int Go.IntKind.i64 x4), V.undef, V.undef, V.undef, V.undef, V.undef, V.undef, V.undef, V.undef, V.undef, V.undef, V.undef, V.undef, V.undef, V.undef, V.undef, V.undef, V.undef, V.undef, V.undef, V.undef, V.undef, V.undef, V.undef, V.undef, V.undef, V.undef, V.undef, V.undef, V.undef, V.undef, V.undef, V.undef, V.undef, V.undef, V.undef, V.undef, V.undef, V.undef, V.undef, V.undef, V.undef, V.undef, V.undef, V.undef, V.undef, V.undef, V.undef, V.undef], [(8, c5)]⟩ h Q =
 ((0 + 49 ≤ (List.length (cellsAt h l3))) ∧ (let cz14 : List V := (List.take 49 (List.drop 0 (cellsAt h l3)));
 (AnyW Try.prog 13 [(V.agg cz14), (V.int Go.IntKind.i64 x0), (V.int Go.IntKind.i64 x1)] h (fun (rz15 : V) (hz16 : Heap) =>
 ((True ∧ V.isInt Go.IntKind.i64 rz15 = true) ∧ (let iz17 : Int := (Go.IntKind.wrap Go.IntKind.i64 ((V.num rz15) - x4));
 (brW (decide (iz17 < x2))
 ((0 + 49 ≤ (List.length (cellsAt hz16 l3))) ∧ (let cz18 : List V := (List.take 49 (List.drop 0 (cellsAt hz16 l3)));
 (((List.length cz18) = 49) ∧ 0 + 49 ≤ (List.length c5) ∧ (Q Ex.ret ⟨[V.undef, V.undef, V.undef, V.undef, V.undef, V.undef, V.undef, V.undef, (V.lp 8 0), (V.int Go.IntKind.i64 (53 : Int)), V.undef, V.undef, V.undef, V.undef, V.undef, V.undef, V.undef, V.undef, V.undef, V.undef, V.undef, V.undef, V.undef, V.undef, V.undef, V.undef, V.undef, V.undef, V.undef, V.undef, V.undef, V.undef, V.undef, V.undef, V.undef, V.undef, V.undef, V.undef, V.undef, V.undef, V.undef, V.undef, V.undef, V.undef, V.undef, V.undef, V.undef, V.undef, V.undef, V.undef, V.undef, V.undef, V.undef, V.undef, V.undef, V.undef, V.undef, V.undef, V.undef], [(8, (wrCells c5 0 cz18))]⟩ hz16))))
 ((0 ≤ x0 ∧ x0 < 8) ∧ (AnyW Try.prog 33 [(V.ptr l3 (0 + ((Int.toNat x0) * 6))), (V.int Go.IntKind.i64 x1)] hz16 (fun (rz19 : V) (hz20 : Heap) =>
 (V.isTup 2 rz19 = true ∧ (ptrK (gv (V.vs rz19) 0) (fun (lz21 oz22 : Nat) =>
 (ptrK (gv (V.vs rz19) 1) (fun (lz25 oz26 : Nat) =>
 ((true = true) ∧ ((true = true) ∧ ((oz22 < (List.length (cellsAt hz20 lz21)) ∧ V.isInt Go.IntKind.i64 (gv (cellsAt hz20 lz21) oz22) = true) ∧ (let iz31 : Int := (V.num (gv (cellsAt hz20 lz21) oz22));
 (let iz32 : Int := (Go.IntKind.wrap Go.IntKind.i64 (iz31 - x2));
 (True ∧ oz22 + 1 ≤ (List.length (cellsAt hz20 lz21)) ∧ (let hz33 : Heap := (Heap.upd hz20 lz21 (Ob.cells (wrCells (cellsAt hz20 lz21) oz22 [(V.int Go.IntKind.i64 iz32)])));
 ((0 + 49 ≤ (List.length (cellsAt hz33 l3))) ∧ (let cz34 : List V := (List.take 49 (List.drop 0 (cellsAt hz33 l3)));
 (((List.length cz34) = 49) ∧ 0 + 49 ≤ (List.length c5) ∧ (Q Ex.ret ⟨[V.undef, V.undef, V.undef, V.undef, V.undef, V.undef, V.undef, V.undef, (V.lp 8 0), (V.int Go.IntKind.i64 (0 : Int)), V.undef, V.undef, V.undef, V.undef, V.undef, V.undef, V.undef, V.undef, V.undef, V.undef, V.undef, V.undef, V.undef, V.undef, V.undef, V.undef, V.undef, V.undef, V.undef, V.undef, V.undef, V.undef, V.undef, V.undef, V.undef, V.undef, V.undef, V.undef, V.undef, V.undef, V.undef, V.undef, V.undef, V.undef, V.undef, V.undef, V.undef, V.undef, V.undef, V.undef, V.undef, V.undef, V.undef, V.undef, V.undef, V.undef, V.undef, V.undef, V.undef], [(8, (wrCells c5 0 cz34))]⟩ hz33))))))))))))
 ((true = true) ∧ ((true = true) ∧ ((oz22 < (List.length (cellsAt hz20 lz21)) ∧ V.isInt Go.IntKind.i64 (gv (cellsAt hz20 lz21) oz22) = true) ∧ (let iz27 : Int := (V.num (gv (cellsAt hz20 lz21) oz22));
 (let iz28 : Int := (Go.IntKind.wrap Go.IntKind.i64 (iz27 - x2));
 (True ∧ oz22 + 1 ≤ (List.length (cellsAt hz20 lz21)) ∧ (let hz29 : Heap := (Heap.upd hz20 lz21 (Ob.cells (wrCells (cellsAt hz20 lz21) oz22 [(V.int Go.IntKind.i64 iz28)])));
 ((0 + 49 ≤ (List.length (cellsAt hz29 l3))) ∧ (let cz30 : List V := (List.take 49 (List.drop 0 (cellsAt hz29 l3)));
 (((List.length cz30) = 49) ∧ 0 + 49 ≤ (List.length c5) ∧ (Q Ex.ret ⟨[V.undef, V.undef, V.undef, V.undef, V.undef, V.undef, V.undef, V.undef, (V.lp 8 0), (V.int Go.IntKind.i64 (0 : Int)), V.undef, V.undef, V.undef, V.undef, V.undef, V.undef, V.undef, V.undef, V.undef, V.undef, V.undef, V.undef, V.undef, V.undef, V.undef, V.undef, V.undef, V.undef, V.undef, V.undef, V.undef, V.undef, V.undef, V.undef, V.undef, V.undef, V.undef, V.undef, V.undef, V.undef, V.undef, V.undef, V.undef, V.undef, V.undef, V.undef, V.undef, V.undef, V.undef, V.undef, V.undef, V.undef, V.undef, V.undef, V.undef, V.undef, V.undef, V.undef, V.undef], [(8, (wrCells c5 0 cz30))]⟩ hz29)))))))))))))
 (ptrK (gv (V.vs rz19) 1) (fun (lz23 oz24 : Nat) =>
 ((true = true) ∧ ((true = true) ∧ False)))
 ((true = true) ∧ ((true = true) ∧ False))))))))))))))) := wpA_at f36_n1111_plug (by kernel_rfl)
theorem f36_n1111s1_wp (x0 : Int) (x1 : Int) (x2 : Int) (l3 : Nat) (x4 : Int) (b5 : Bool) (c6 : List V) (h : Heap) (Q : Ex → Fr → Heap → Prop) : wpA Try.prog f36_cf f36_n1111 ⟨[V.undef, (V.int Go.IntKind.i64 x0), (V.int Go.IntKind.i64 x1), (V.int Go.IntKind.i64 x2), (V.ptr l3 0), V.undef, V.undef, V.undef, (V.lp 8 0), V.undef, (V.int Go.IntKind.i64 x4), V.undef, V.undef, V.undef, V.undef, V.undef, V.undef, V.undef, V.undef, V.undef, V.undef, V.undef, V.undef, V.undef, V.undef, V.undef, V.undef, V.undef, V.undef, (V.bool b5), V.undef, V.undef, V.undef, V.undef, V.undef, V.undef, V.undef, V.undef, V.undef, V.undef, V.undef, V.undef, V.undef, V.undef, V.undef, V.undef, V.undef, V.undef, V.undef, V.undef, V.undef, V.undef, V.undef, V.undef, V.undef, V.undef, V.undef, V.undef, V.undef], [(8, c6)]⟩ h Q =
 ((0 + 49 ≤ (List.length (cellsAt h l3))) ∧ (let cz35 : List V := (List.take 49 (List.drop 0 (cellsAt h l3)));
 (AnyW Try.prog 13 [(V.agg cz35), (V.int Go.IntKind.i64 x0), (V.int Go.IntKind.i64 x1)] h (fun (rz36 : V) (hz37 : Heap) =>
 ((True ∧ V.isInt Go.IntKind.i64 rz36 = true) ∧ (let iz38 : Int := (Go.IntKind.wrap Go.IntKind.i64 ((V.num rz36) - x4));
 (brW (decide (iz38 < x2))
 ((0 + 49 ≤ (List.length (cellsAt hz37 l3))) ∧ (let cz39 : List V := (List.take 49 (List.drop 0 (cellsAt hz37 l3)));
 (((List.length cz39) = 49) ∧ 0 + 49 ≤ (List.length c6) ∧ (Q Ex.ret ⟨[V.undef, V.undef, V.undef, V.undef, V.undef, V.undef, V.undef, V.undef, (V.lp 8 0), (V.int Go.IntKind.i64 (53 : Int)), V.undef, V.undef, V.undef, V.undef, V.undef, V.undef, V.undef, V.undef, V.undef, V.undef, V.undef, V.undef, V.undef, V.undef, V.undef, V.undef, V.undef, V.undef, V.undef, V.undef, V.undef, V.undef, V.undef, V.undef, V.undef, V.undef, V.undef, V.undef, V.undef, V.undef, V.undef, V.undef, V.undef, V.undef, V.undef, V.undef, V.undef, V.undef, V.undef, V.undef, V.undef, V.undef, V.undef, V.undef, V.undef, V.undef, V.undef, V.undef, V.undef], [(8, (wrCells c6 0 cz39))]⟩ hz37))))
 ((0 ≤ x0 ∧ x0 < 8) ∧ (AnyW Try.prog 33 [(V.ptr l3 (0 + ((Int.toNat x0) * 6))), (V.int Go.IntKind.i64 x1)] hz37 (fun (rz40 : V) (hz41 : Heap) =>
 (V.isTup 2 rz40 = true ∧ (ptrK (gv (V.vs rz40) 0) (fun (lz42 oz43 : Nat) =>
 (ptrK (gv (V.vs rz40) 1) (fun (lz46 oz47 : Nat) =>
 ((true = true) ∧ ((true = true) ∧ ((oz43 < (List.length (cellsAt hz41 lz42)) ∧ V.isInt Go.IntKind.i64 (gv (cellsAt hz41 lz42) oz43) = true) ∧ (let iz52 : Int := (V.num (gv (cellsAt hz41 lz42) oz43));
 (let iz53 : Int := (Go.IntKind.wrap Go.IntKind.i64 (iz52 - x2));
 (True ∧ oz43 + 1 ≤ (List.length (cellsAt hz41 lz42)) ∧ (let hz54 : Heap := (Heap.upd hz41 lz42 (Ob.cells (wrCells (cellsAt hz41 lz42) oz43 [(V.int Go.IntKind.i64 iz53)])));
 ((0 + 49 ≤ (List.length (cellsAt hz54 l3))) ∧ (let cz55 : List V := (List.take 49 (List.drop 0 (cellsAt hz54 l3)));
 (((List.length cz55) = 49) ∧ 0 + 49 ≤ (List.length c6) ∧ (Q Ex.ret ⟨[V.undef, V.undef, V.undef, V.undef, V.undef, V.undef, V.undef, V.undef, (V.lp 8 0), (V.int Go.IntKind.i64 (0 : Int)), V.undef, V.undef, V.undef, V.undef, V.undef, V.undef, V.undef, V.undef, V.undef, V.undef, V.undef, V.undef, V.undef, V.undef, V.undef, V.undef, V.undef, V.undef, V.undef, V.undef, V.undef, V.undef, V.undef, V.undef, V.undef, V.undef, V.undef, V.undef, V.undef, V.undef, V.undef, V.undef, V.undef, V.undef, V.undef, V.undef, V.undef, V.undef, V.undef, V.undef, V.undef, V.undef, V.undef, V.undef, V.undef, V.undef, V.undef, V.undef, V.undef], [(8, (wrCells c6 0 cz55))]⟩ hz54))))))))))))
 ((true = true) ∧ ((true = true) ∧ ((oz43 < (List.length (cellsAt hz41 lz42)) ∧ V.isInt Go.IntKind.i64 (gv (cellsAt hz41 lz42) oz43) = true) ∧ (let iz48 : Int := (V.num (gv (cellsAt hz41 lz42) oz43));
 (let iz49 : Int := (Go.IntKind.wrap Go.IntKind.i64 (iz48 - x2));
 (True ∧ oz43 + 1 ≤ (List.length (cellsAt hz41 lz42)) ∧ (let hz50 : Heap := (Heap.upd hz41 lz42 (Ob.cells (wrCells (cellsAt hz41 lz42) oz43 [(V.int Go.IntKind.i64 iz49)])));
 ((0 + 49 ≤ (List.length (cellsAt hz50 l3))) ∧ (let cz51 : List V := (List.take 49 (List.drop 0 (cellsAt hz50 l3)));
 (((List.length cz51) = 49) ∧ 0 + 49 ≤ (List.length c6) ∧ (Q Ex.ret ⟨[V.undef, V.undef, V.undef, V.undef, V.undef, V.undef, V.undef, V.undef, (V.lp 8 0), (V.int Go.IntKind.i64 (0 : Int)), V.undef, V.undef, V.undef, V.undef, V.undef, V.undef, V.undef, V.undef, V.undef, V.undef, V.undef, V.undef, V.undef, V.undef, V.undef, V.undef, V.undef, V.undef, V.undef, V.undef, V.undef, V.undef, V.undef, V.undef, V.undef, V.undef, V.undef, V.undef, V.undef, V.undef, V.undef, V.undef, V.undef, V.undef, V.undef, V.undef, V.undef, V.undef, V.undef, V.undef, V.undef, V.undef, V.undef, V.undef, V.undef, V.undef, V.undef, V.undef, V.undef], [(8, (wrCells c6 0 cz51))]⟩ hz50)))))))))))))
 (ptrK (gv (V.vs rz40) 1) (fun (lz44 oz45 : Nat) =>
 ((true = true) ∧ ((true = true) ∧ False)))
 ((true = true) ∧ ((true = true) ∧ False))))))))))))))) := wpA_at f36_n1111_plug (by kernel_rfl)
theorem f36_end1 (x0 : Int) (c1 : List V) (h : Heap) (K : V → Heap → Prop) : bodyK Try.prog Try.f36 K Ex.ret ⟨[V.undef, V.undef, V.undef, V.undef, V.undef, V.undef, V.undef, V.undef, (V.lp 8 0), (V.int Go.IntKind.i64 x0), V.undef, V.undef, V.undef, V.undef, V.undef, V.undef, V.undef, V.undef, V.undef, V.undef, V.undef, V.undef, V.undef, V.undef, V.undef, V.undef, V.undef, V.undef, V.undef, V.undef, V.undef, V.undef, V.undef, V.undef, V.undef, V.undef, V.undef, V.undef, V.undef, V.undef, V.undef, V.undef, V.undef, V.undef, V.undef, V.undef, V.undef, V.undef, V.undef, V.undef, V.undef, V.undef, V.undef, V.undef, V.undef, V.undef, V.undef, V.undef, V.undef], [(8, c1)]⟩ h = ((0 + 49 ≤ (List.length c1)) ∧ (let cz56 : List V := (List.take 49 (List.drop 0 c1));
 (K (V.tup [(V.agg cz56), (V.int Go.IntKind.i64 x0)]) h))) := by kernel_rfl
end

section
set_option linter.all false
set_option maxRecDepth 100000
open Go Go.Proofs Jb
def f29_cf : Cfg := ⟨[4], [(0, [0, 9]), (1, [15, 16, 17, 18, 19, 20, 21, 22, 23, 24, 25, 26, 27]), (2, [1, 2, 3, 4, 28, 29]), (3, [28, 30, 31, 32, 33, 34]), (4, [10, 35]), (5, [36]), (6, [11, 37, 38]), (7, [11, 12, 37, 39, 40, 41]), (8, [1, 2, 3, 4, 42, 43]), (9, [1, 2, 14, 42, 44, 45, 46, 47, 48, 49, 50, 51]), (10, [3, 13, 52, 53, 54, 55, 56, 57]), (11, [4, 58])]⟩
noncomputable def f29_b : Code := bodyOf Try.f29
noncomputable def f29_n : Code :=  (codeAt [] f29_b)
noncomputable def f29_n1 : Code := hide (codeAt [1] f29_b)
noncomputable def f29_n10 : Code := hide (codeAt [1, 0] f29_b)
noncomputable def f29_n100 : Code := hide (codeAt [1, 0, 0] f29_b)
noncomputable def f29_n101 : Code := hide (codeAt [1, 0, 1] f29_b)
noncomputable def f29_n11 : Code := hide (codeAt [1, 1] f29_b)
noncomputable def f29_n1111 : Code := hide (codeAt [1, 1, 1, 1] f29_b)
noncomputable def f29_n11110 : Code := hide (codeAt [1, 1, 1, 1, 0] f29_b)
noncomputable def f29_n11111 : Code := hide (codeAt [1, 1, 1, 1, 1] f29_b)
theorem f29_entry (t : List Int) (x : Int) (s : Int) (n : Int) (h : Heap) (K : V → Heap → Prop) : bodyW Try.prog f29_cf Try.f29 [(V.agg (ints t)), (V.int Go.IntKind.i64 x), (V.int Go.IntKind.i64 s), (V.int Go.IntKind.i64 n)] h K = wpA Try.prog f29_cf f29_n ⟨[(V.agg (ints t)), (V.int Go.IntKind.i64 x), (V.int Go.IntKind.i64 s), (V.int Go.IntKind.i64 n), V.undef, V.undef, V.undef, V.undef, V.undef, V.undef, V.undef, V.undef, V.undef, V.undef, V.undef, V.undef, V.undef, V.undef, V.undef, V.undef, V.undef, V.undef, V.undef, V.undef, V.undef, V.undef, V.undef, V.undef, V.undef, V.undef, V.undef, V.undef, V.undef, V.undef, V.undef, V.undef, V.undef, V.undef, V.undef, V.undef, V.undef, V.undef, V.undef, V.undef, V.undef, V.undef, V.undef, V.undef, V.undef, V.undef, V.undef, V.undef, V.undef, V.undef, V.undef, V.undef, V.undef, V.undef, V.undef], []⟩ h (bodyK Try.prog Try.f29 K) := by kernel_rfl
theorem f29_n_plug : f29_n = (plug [1] (codeAt [] f29_b) f29_n1) := by
  simp only [f29_n, f29_n1, hide_eq]
  try kernel_rfl
theorem f29_n_wp (t : List Int) (x : Int) (s : Int) (n : Int) (h : Heap) (Q : Ex → Fr → Heap → Prop) : wpA Try.prog f29_cf f29_n ⟨[(V.agg (ints t)), (V.int Go.IntKind.i64 x), (V.int Go.IntKind.i64 s), (V.int Go.IntKind.i64 n), V.undef, V.undef, V.undef, V.undef, V.undef, V.undef, V.undef, V.undef, V.undef, V.undef, V.undef, V.undef, V.undef, V.undef, V.undef, V.undef, V.undef, V.undef, V.undef, V.undef, V.undef, V.undef, V.undef, V.undef, V.undef, V.undef, V.undef, V.undef, V.undef, V.undef, V.undef, V.undef, V.undef, V.undef, V.undef, V.undef, V.undef, V.undef, V.undef, V.undef, V.undef, V.undef, V.undef, V.undef, V.undef, V.undef, V.undef, V.undef, V.undef, V.undef, V.undef, V.undef, V.undef, V.undef, V.undef], []⟩ h Q =
 (((List.length (ints t)) = 49) ∧ (∀ lz1 : Nat, h lz1 = none → (let hz2 : Heap := (Heap.upd h lz1 (Ob.cells (ints t)));
 (True ∧ (wpA Try.prog f29_cf f29_n1 ⟨[V.undef, (V.int Go.IntKind.i64 x), (V.int Go.IntKind.i64 s), (V.int Go.IntKind.i64 n), (V.ptr lz1 0), V.undef, V.undef, V.undef, (V.lp 8 0), V.undef, V.undef, V.undef, V.undef, V.undef, V.undef, V.undef, V.undef, V.undef, V.undef, V.undef, V.undef, V.undef, V.undef, V.undef, V.undef, V.undef, V.undef, V.undef, V.undef, V.undef, V.undef, V.undef, V.undef, V.undef, V.undef, V.undef, V.undef, V.undef, V.undef, V.undef, V.undef, V.undef, V.undef, V.undef, V.undef, V.undef, V.undef, V.undef, V.undef, V.undef, V.undef, V.undef, V.undef, V.undef, V.undef, V.undef, V.undef, V.undef, V.undef], [(8, [(V.int Go.IntKind.i64 (0 : Int)), (V.int Go.IntKind.i64 (0 : Int)), (V.int Go.IntKind.i64 (0 : Int)), (V.int Go.IntKind.i64 (0 : Int)), (V.int Go.IntKind.i64 (0 : Int)), (V.int Go.IntKind.i64 (0 : Int)), (V.int Go.IntKind.i64 (0 : Int)), (V.int Go.IntKind.i64 (0 : Int)), (V.int Go.IntKind.i64 (0 : Int)), (V.int Go.IntKind.i64 (0 : Int)), (V.int Go.IntKind.i64 (0 : Int)), (V.int Go.IntKind.i64 (0 : Int)), (V.int Go.IntKind.i64 (0 : Int)), (V.int Go.IntKind.i64 (0 : Int)), (V.int Go.IntKind.i64 (0 : Int)), (V.int Go.IntKind.i64 (0 : Int)), (V.int Go.IntKind.i64 (0 : Int)), (V.int Go.IntKind.i64 (0 : Int)), (V.int Go.IntKind.i64 (0 : Int)), (V.int Go.IntKind.i64 (0 : Int)), (V.int Go.IntKind.i64 (0 : Int)), (V.int Go.IntKind.i64 (0 : Int)), (V.int Go.IntKind.i64 (0 : Int)), (V.int Go.IntKind.i64 (0 : Int)), (V.int Go.IntKind.i64 (0 : Int)), (V.int Go.IntKind.i64 (0 : Int)), (V.int Go.IntKind.i64 (0 : Int)), (V.int Go.IntKind.i64 (0 : Int)), (V.int Go.IntKind.i64 (0 : Int)), (V.int Go.IntKind.i64 (0 : Int)), (V.int Go.IntKind.i64 (0 : Int)), (V.int Go.IntKind.i64 (0 : Int)), (V.int Go.IntKind.i64 (0 : Int)), (V.int Go.IntKind.i64 (0 : Int)), (V.int Go.IntKind.i64 (0 : Int)), (V.int Go.IntKind.i64 (0 : Int)), (V.int Go.IntKind.i64 (0 : Int)), (V.int Go.IntKind.i64 (0 : Int)), (V.int Go.IntKind.i64 (0 : Int)), (V.int Go.IntKind.i64 (0 : Int)), (V.int Go.IntKind.i64 (0 : Int)), (V.int Go.IntKind.i64 (0 : Int)), (V.int Go.IntKind.i64 (0 : Int)), (V.int Go.IntKind.i64 (0 : Int)), (V.int Go.IntKind.i64 (0 : Int)), (V.int Go.IntKind.i64 (0 : Int)), (V.int Go.IntKind.i64 (0 : Int)), (V.int Go.IntKind.i64 (0 : Int)), (V.int Go.IntKind.i64 (0 : Int))])]⟩ hz2 Q))))) := wpA_at f29_n_plug (by kernel_rfl)
theorem f29_n1_eq : f29_n1 = Code.seq f29_n10 f29_n11 := by
  simp only [f29_n1, f29_n10, f29_n11, hide_eq]
  kernel_rfl
theorem f29_n10_eq : f29_n10 = Code.seq f29_n100 f29_n101 := by
  simp only [f29_n10, f29_n100, f29_n101, hide_eq]
  kernel_rfl
theorem f29_n100_plug : f29_n100 = (codeAt [1, 0, 0] f29_b) := by
  simp only [f29_n100, hide_eq]
  try kernel_rfl
theorem f29_n100_wp (x0 : Int) (x1 : Int) (x2 : Int) (l3 : Nat) (c4 : List V) (h : Heap) (Q : Ex → Fr → Heap → Prop) : wpA Try.prog f29_cf f29_n100 ⟨[V.undef, (V.int Go.IntKind.i64 x0), (V.int Go.IntKind.i64 x1), (V.int Go.IntKind.i64 x2), (V.ptr l3 0), V.undef, V.undef, V.undef, (V.lp 8 0), V.undef, V.undef, V.undef, V.undef, V.undef, V.undef, V.undef, V.undef, V.undef, V.undef, V.undef, V.undef, V.undef, V.undef, V.undef, V.undef, V.undef, V.undef, V.undef, V.undef, V.undef, V.undef, V.undef, V.undef, V.undef, V.undef, V.undef, V.undef, V.undef, V.undef, V.undef, V.undef, V.undef, V.undef, V.undef, V.undef, V.undef, V.undef, V.undef, V.undef, V.undef, V.undef, V.undef, V.undef, V.undef, V.undef, V.undef, V.undef, V.undef, V.undef], [(8, c4)]⟩ h Q =
 (AnyW Try.prog 32 [(V.int Go.IntKind.i64 x0), (V.int Go.IntKind.i64 x1)] h (fun (rz3 : V) (hz4 : Heap) =>
 ((True ∧ V.isBool rz3 = true) ∧ (((!(!(V.flag rz3))) = true → (!(!(V.flag rz3))) = true) ∧ (let bz5 : Bool := (decide (x2 < (1 : Int)));
 ((((!(V.flag rz3)) = false → (!(!(V.flag rz3))) = true) ∧ True) ∧ (let bz6 : Bool := (cond (!(V.flag rz3)) true bz5);
 (((!bz6) = true → (!bz6) = true) ∧ (((!bz6) = true → (True ∧ True)) ∧ (let kz7 : Bool → Heap → Prop := fun (xz8 : Bool) (hz9 : Heap) =>
 (((!bz6) = true → (!bz6) = true) ∧ (((bz6 = false → (!bz6) = true) ∧ True) ∧ (Q Ex.normal ⟨[V.undef, (V.int Go.IntKind.i64 x0), (V.int Go.IntKind.i64 x1), (V.int Go.IntKind.i64 x2), (V.ptr l3 0), V.undef, V.undef, V.undef, (V.lp 8 0), V.undef, V.undef, V.undef, V.undef, V.undef, V.undef, V.undef, V.undef, V.undef, V.undef, V.undef, V.undef, V.undef, V.undef, V.undef, V.undef, V.undef, V.undef, V.undef, (V.bool (cond bz6 true (!xz8))), V.undef, V.undef, V.undef, V.undef, V.undef, V.undef, V.undef, V.undef, V.undef, V.undef, V.undef, V.undef, V.undef, V.undef, V.undef, V.undef, V.undef, V.undef, V.undef, V.undef, V.undef, V.undef, V.undef, V.undef, V.undef, V.undef, V.undef, V.undef, V.undef, V.undef], [(8, c4)]⟩ hz9)));
 brW (!bz6)
 (((!bz6) = true) ∧ (AnyW Try.prog 24 [(V.sl 1 [[(V.int Go.IntKind.i64 x2)]] G.full)] hz4 (fun (rz10 : V) (hz11 : Heap) =>
 ((True ∧ V.isBool rz10 = true) ∧ (kz7 (V.flag rz10) hz11)))))
 (kz7 false hz4))))))))))) := wpA_at f29_n100_plug (by kernel_rfl)
theorem f29_n101_plug : f29_n101 = (codeAt [1, 0, 1] f29_b) := by
  simp only [f29_n101, hide_eq]
  try kernel_rfl
theorem f29_n101_wp (x0 : Int) (x1 : Int) (x2 : Int) (l3 : Nat) (b4 : Bool) (c5 : List V) (h : Heap) (Q : Ex → Fr → Heap → Prop) : wpA Try.prog f29_cf f29_n101 ⟨[V.undef, (V.int Go.IntKind.i64 x0), (V.int Go.IntKind.i64 x1), (V.int Go.IntKind.i64 x2), (V.ptr l3 0), V.undef, V.undef, V.undef, (V.lp 8 0), V.undef, V.undef, V.undef, V.undef, V.undef, V.undef, V.undef, V.undef, V.undef, V.undef, V.undef, V.undef, V.undef, V.undef, V.undef, V.undef, V.undef, V.undef, V.undef, (V.bool b4), V.undef, V.undef, V.undef, V.undef, V.undef, V.undef, V.undef, V.undef, V.undef, V.undef, V.undef, V.undef, V.undef, V.undef, V.undef, V.undef, V.undef, V.undef, V.undef, V.undef, V.undef, V.undef, V.undef, V.undef, V.undef, V.undef, V.undef, V.undef, V.undef, V.undef], [(8, c5)]⟩ h Q =
 (brW b4
 ((0 + 49 ≤ (List.length (cellsAt h l3))) ∧ (let cz12 : List V := (List.take 49 (List.drop 0 (cellsAt h l3)));
 (((List.length cz12) = 49) ∧ 0 + 49 ≤ (List.length c5) ∧ (Q Ex.ret ⟨[V.undef, V.undef, V.undef, V.undef, V.undef, V.undef, V.undef, V.undef, (V.lp 8 0), (V.int Go.IntKind.i64 (2 : Int)), V.undef, V.undef, V.undef, V.undef, V.undef, V.undef, V.undef, V.undef, V.undef, V.undef, V.undef, V.undef, V.undef, V.undef, V.undef, V.undef, V.undef, V.undef, V.undef, V.undef, V.undef, V.undef, V.undef, V.undef, V.undef, V.undef, V.undef, V.undef, V.undef, V.undef, V.undef, V.undef, V.undef, V.undef, V.undef, V.undef, V.undef, V.undef, V.undef, V.undef, V.undef, V.undef, V.undef, V.undef, V.undef, V.undef, V.undef, V.undef, V.undef], [(8, (wrCells c5 0 cz12))]⟩ h))))
 (Q Ex.normal ⟨[V.undef, (V.int Go.IntKind.i64 x0), (V.int Go.IntKind.i64 x1), (V.int Go.IntKind.i64 x2), (V.ptr l3 0), V.undef, V.undef, V.undef, (V.lp 8 0), V.undef, V.undef, V.undef, V.undef, V.undef, V.undef, V.undef, V.undef, V.undef, V.undef, V.undef, V.undef, V.undef, V.undef, V.undef, V.undef, V.undef, V.undef, V.undef, (V.bool b4), V.undef, V.undef, V.undef, V.undef, V.undef, V.undef, V.undef, V.undef, V.undef, V.undef, V.undef, V.undef, V.undef, V.undef, V.undef, V.undef, V.undef, V.undef, V.undef, V.undef, V.undef, V.undef, V.undef, V.undef, V.undef, V.undef, V.undef, V.undef, V.undef, V.undef], [(8, c5)]⟩ h)) := wpA_at f29_n101_plug (by kernel_rfl)
theorem f29_n11_plug : f29_n11 = (plug [1, 1] (codeAt [1, 1] f29_b) f29_n1111) := by
  simp only [f29_n11, f29_n1111, hide_eq]
  try kernel_rfl
theorem f29_n11_wp (x0 : Int) (x1 : Int) (x2 : Int) (l3 : Nat) (b4 : Bool) (c5 : List V) (h : Heap) (Q : Ex → Fr → Heap → Prop) : wpA Try.prog f29_cf f29_n11 ⟨[V.undef, (V.int Go.IntKind.i64 x0), (V.int Go.IntKind.i64 x1), (V.int Go.IntKind.i64 x2), (V.ptr l3 0), V.undef, V.undef, V.undef, (V.lp 8 0), V.undef, V.undef, V.undef, V.undef, V.undef, V.undef, V.undef, V.undef, V.undef, V.undef, V.undef, V.undef, V.undef, V.undef, V.undef, V.undef, V.undef, V.undef, V.undef, (V.bool b4), V.undef, V.undef, V.undef, V.undef, V.undef, V.undef, V.undef, V.undef, V.undef, V.undef, V.undef, V.undef, V.undef, V.undef, V.undef, V.undef, V.undef, V.undef, V.undef, V.undef, V.undef, V.undef, V.undef, V.undef, V.undef, V.undef, V.undef, V.undef, V.undef, V.undef], [(8, c5)]⟩ h Q =
 ((0 + 49 ≤ (List.length (cellsAt h l3))) ∧ (let cz13 : List V := (List.take 49 (List.drop 0 (cellsAt h l3)));
 (AnyW Try.prog 11 [(V.agg cz13)] h (fun (rz14 : V) (hz15 : Heap) =>
 (V.isTup 2 rz14 = true ∧ ((True ∧ V.isInt Go.IntKind.i64 (gv (V.vs rz14) 0) = true) ∧ (let iz16 : Int := (V.num (gv (V.vs rz14) 0));
 ((True ∧ V.isInt Go.IntKind.i64 (gv (V.vs rz14) 1) = true) ∧ (let iz17 : Int := (V.num (gv (V.vs rz14) 1));
 ((true = true) ∧ ((true = true) ∧ (wpA Try.prog f29_cf f29_n1111 ⟨[V.undef, (V.int Go.IntKind.i64 x0), (V.int Go.IntKind.i64 x1), (V.int Go.IntKind.i64 x2), (V.ptr l3 0), V.undef, V.undef, V.undef, (V.lp 8 0), V.undef, V.undef, (V.int Go.IntKind.i64 iz17), (V.int Go.IntKind.i64 iz16), V.undef, V.undef, V.undef, V.undef, V.undef, V.undef, V.undef, V.undef, V.undef, V.undef, V.undef, V.undef, V.undef, V.undef, V.undef, V.undef, V.undef, V.undef, V.undef, V.undef, V.undef, V.undef, V.undef, V.undef, V.undef, V.undef, V.undef, V.undef, V.undef, V.undef, V.undef, V.undef, V.undef, V.undef, V.undef, V.undef, V.undef, V.undef, V.undef, V.undef, V.undef, V.undef, V.undef, V.undef, V.undef, V.undef], [(8, c5)]⟩ hz15 Q)))))))))))) := wpA_at f29_n11_plug (by kernel_rfl)
theorem f29_n1111_eq : f29_n1111 = Code.seq f29_n11110 f29_n11111 := by
  simp only [f29_n1111, f29_n11110, f29_n11111, hide_eq]
  kernel_rfl
theorem f29_n11110_plug : f29_n11110 = (codeAt [1, 1, 1, 1, 0] f29_b) := by
  simp only [f29_n11110, hide_eq]
  try kernel_rfl
theorem f29_n11110_wp (x0 : Int) (x1 : Int) (x2 : Int) (l3 : Nat) (x4 : Int) (x5 : Int) (c6 : List V) (h : Heap) (Q : Ex → Fr → Heap → Prop) : wpA Try.prog f29_cf f29_n11110 ⟨[V.undef, (V.int Go.IntKind.i64 x0), (V.int Go.IntKind.i64 x1), (V.int Go.IntKind.i64 x2), (V.ptr l3 0), V.undef, V.undef, V.undef, (V.lp 8 0), V.undef, V.undef, (V.int Go.IntKind.i64 x4), (V.int Go.IntKind.i64 x5), V.undef, V.undef, V.undef, V.undef, V.undef, V.undef, V.undef, V.undef, V.undef, V.undef, V.undef, V.undef, V.undef, V.undef, V.undef, V.undef, V.undef, V.undef, V.undef, V.undef, V.undef, V.undef, V.undef, V.undef, V.undef, V.undef, V.undef, V.undef, V.undef, V.undef, V.undef, V.undef, V.undef, V.undef, V.undef, V.undef, V.undef, V.undef, V.undef, V.undef, V.undef, V.undef, V.undef, V.undef, V.undef, V.undef], [(8, c6)]⟩ h Q =
 (brW (x1 == (2 : Int))
 (Q Ex.normal ⟨[V.undef, (V.int Go.IntKind.i64 x0), (V.int Go.IntKind.i64 x1), (V.int Go.IntKind.i64 x2), (V.ptr l3 0), V.undef, V.undef, V.undef, (V.lp 8 0), V.undef, V.undef, V.undef, (V.int Go.IntKind.i64 x4), V.undef, V.undef, V.undef, V.undef, V.undef, V.undef, V.undef, V.undef, V.undef, V.undef, V.undef, V.undef, V.undef, V.undef, V.undef, V.undef, V.undef, V.undef, V.undef, V.undef, V.undef, V.undef, V.undef, V.undef, V.undef, V.undef, V.undef, V.undef, V.undef, V.undef, V.undef, V.undef, V.undef, V.undef, V.undef, V.undef, V.undef, V.undef, V.undef, V.undef, V.undef, V.undef, V.undef, V.undef, V.undef, V.undef], [(8, c6)]⟩ h)
 (Q Ex.normal ⟨[V.undef, (V.int Go.IntKind.i64 x0), (V.int Go.IntKind.i64 x1), (V.int Go.IntKind.i64 x2), (V.ptr l3 0), V.undef, V.undef, V.undef, (V.lp 8 0), V.undef, V.undef, (V.int Go.IntKind.i64 x4), (V.int Go.IntKind.i64 x5), V.undef, V.undef, V.undef, V.undef, V.undef, V.undef, V.undef, V.undef, V.undef, V.undef, V.undef, V.undef, V.undef, V.undef, V.undef, V.undef, V.undef, V.undef, V.undef, V.undef, V.undef, V.undef, V.undef, V.undef, (V.bool (x1 == (2 : Int))), V.undef, V.undef, V.undef, V.undef, V.undef, V.undef, V.undef, V.undef, V.undef, V.undef, V.undef, V.undef, V.undef, V.undef, V.undef, V.undef, V.undef, V.undef, V.undef, V.undef, V.undef], [(8, c6)]⟩ h)) := wpA_at f29_n11110_plug (by kernel_rfl)
theorem f29_n11111_plug : f29_n11111 = (codeAt [1, 1, 1, 1, 1] f29_b) := by
  simp only [f29_n11111, hide_eq]
  try kernel_rfl
theorem f29_n11111_wp (x0 : Int) (x1 : Int) (x2 : Int) (l3 : Nat) (x4 : Int) (c5 : List V) (h : Heap) (Q : Ex → Fr → Heap → Prop) : wpA Try.prog f29_cf f29_n11111 ⟨[V.undef, (V.int Go.IntKind.i64 x0), (V.int Go.IntKind.i64 x1), (V.int Go.IntKind.i64 x2), (V.ptr l3 0), V.undef, V.undef, V.undef, (V.lp 8 0), V.undef, V.undef, V.undef, (V.int Go.IntKind.i64 x4), V.undef, V.undef, V.undef, V.undef, V.undef, V.undef, V.undef, V.undef, V.undef, V.undef, V.undef, V.undef, V.undef, V.undef, V.undef, V.undef, V.undef, V.undef, V.undef, V.undef, V.undef, V.undef, V.undef, V.undef, V.undef, V.undef, V.undef, V.undef, V.undef, V.undef, V.undef, V.undef, V.undef, V.undef, V.undef, V.undef, V.undef, V.undef, V.undef, V.undef, V.undef, V.undef, V.undef, V.undef, V.undef, V.undef], [(8, c5)]⟩ h Q =
 (let iz18 : Int := (Go.IntKind.wrap Go.IntKind.i64 ((4611686018427387904 : Int) - x2));
 (brW (decide (iz18 < x4))
 ((0 + 49 ≤ (List.length (cellsAt h l3))) ∧ (let cz19 : List V := (List.take 49 (List.drop 0 (cellsAt h l3)));
 (((List.length cz19) = 49) ∧ 0 + 49 ≤ (List.length c5) ∧ (Q Ex.ret ⟨[V.undef, V.undef, V.undef, V.undef, V.undef, V.undef, V.undef, V.undef, (V.lp 8 0), (V.int Go.IntKind.i64 (10 : Int)), V.undef, V.undef, V.undef, V.undef, V.undef, V.undef, V.undef, V.undef, V.undef, V.undef, V.undef, V.undef, V.undef, V.undef, V.undef, V.undef, V.undef, V.undef, V.undef, V.undef, V.undef, V.undef, V.undef, V.undef, V.undef, V.undef, V.undef, V.undef, V.undef, V.undef, V.undef, V.undef, V.undef, V.undef, V.undef, V.undef, V.undef, V.undef, V.undef, V.undef, V.undef, V.undef, V.undef, V.undef, V.undef, V.undef, V.undef, V.undef, V.undef], [(8, (wrCells c5 0 cz19))]⟩ h))))
 ((0 ≤ x0 ∧ x0 < 8) ∧ (AnyW Try.prog 33 [(V.ptr l3 (0 + ((Int.toNat x0) * 6))), (V.int Go.IntKind.i64 x1)] h (fun (rz20 : V) (hz21 : Heap) =>
 (V.isTup 2 rz20 = true ∧ (ptrK (gv (V.vs rz20) 0) (fun (lz22 oz23 : Nat) =>
 (ptrK (gv (V.vs rz20) 1) (fun (lz26 oz27 : Nat) =>
 ((true = true) ∧ ((true = true) ∧ ((oz23 < (List.length (cellsAt hz21 lz22)) ∧ V.isInt Go.IntKind.i64 (gv (cellsAt hz21 lz22) oz23) = true) ∧ (let iz32 : Int := (V.num (gv (cellsAt hz21 lz22) oz23));
 (let iz33 : Int := (Go.IntKind.wrap Go.IntKind.i64 (iz32 + x2));
 (True ∧ oz23 + 1 ≤ (List.length (cellsAt hz21 lz22)) ∧ (let hz34 : Heap := (Heap.upd hz21 lz22 (Ob.cells (wrCells (cellsAt hz21 lz22) oz23 [(V.int Go.IntKind.i64 iz33)])));
 ((0 + 49 ≤ (List.length (cellsAt hz34 l3))) ∧ (let cz35 : List V := (List.take 49 (List.drop 0 (cellsAt hz34 l3)));
 (((List.length cz35) = 49) ∧ 0 + 49 ≤ (List.length c5) ∧ (Q Ex.ret ⟨[V.undef, V.undef, V.undef, V.undef, V.undef, V.undef, V.undef, V.undef, (V.lp 8 0), (V.int Go.IntKind.i64 (0 : Int)), V.undef, V.undef, V.undef, V.undef, V.undef, V.undef, V.undef, V.undef, V.undef, V.undef, V.undef, V.undef, V.undef, V.undef, V.undef, V.undef, V.undef, V.undef, V.undef, V.undef, V.undef, V.undef, V.undef, V.undef, V.undef, V.undef, V.undef, V.undef, V.undef, V.undef, V.undef, V.undef, V.undef, V.undef, V.undef, V.undef, V.undef, V.undef, V.undef, V.undef, V.undef, V.undef, V.undef, V.undef, V.undef, V.undef, V.undef, V.undef, V.undef], [(8, (wrCells c5 0 cz35))]⟩ hz34))))))))))))
 ((true = true) ∧ ((true = true) ∧ ((oz23 < (List.length (cellsAt hz21 lz22)) ∧ V.isInt Go.IntKind.i64 (gv (cellsAt hz21 lz22) oz23) = true) ∧ (let iz28 : Int := (V.num (gv (cellsAt hz21 lz22) oz23));
 (let iz29 : Int := (Go.IntKind.wrap Go.IntKind.i64 (iz28 + x2));
 (True ∧ oz23 + 1 ≤ (List.length (cellsAt hz21 lz22)) ∧ (let hz30 : Heap := (Heap.upd hz21 lz22 (Ob.cells (wrCells (cellsAt hz21 lz22) oz23 [(V.int Go.IntKind.i64 iz29)])));
 ((0 + 49 ≤ (List.length (cellsAt hz30 l3))) ∧ (let cz31 : List V := (List.take 49 (List.drop 0 (cellsAt hz30 l3)));
 (((List.length cz31) = 49) ∧ 0 + 49 ≤ (List.length c5) ∧ (Q Ex.ret ⟨[V.undef, V.undef, V.undef, V.undef, V.undef, V.undef, V.undef, V.undef, (V.lp 8 0), (V.int Go.IntKind.i64 (0 : Int)), V.undef, V.undef, V.undef, V.undef, V.undef, V.undef, V.undef, V.undef, V.undef, V.undef, V.undef, V.undef, V.undef, V.undef, V.undef, V.undef, V.undef, V.undef, V.undef, V.undef, V.undef, V.undef, V.undef, V.undef, V.undef, V.undef, V.undef, V.undef, V.undef, V.undef, V.undef, V.undef, V.undef, V.undef, V.undef, V.undef, V.undef, V.undef, V.undef, V.undef, V.undef, V.undef, V.undef, V.undef, V.undef, V.undef, V.undef, V.undef, V.undef], [(8, (wrCells c5 0 cz31))]⟩ hz30)))))))))))))
 (ptrK (gv (V.vs rz20) 1) (fun (lz24 oz25 : Nat) =>
 ((true = true) ∧ ((true = true) ∧ False)))
 ((true = true) ∧ ((true = true) ∧ False)))))))))) := wpA_at f29_n11111_plug (by kernel_rfl)
theorem f29_n11111s1_wp (x0 : Int) (x1 : Int) (x2 : Int) (l3 : Nat) (x4 : Int) (x5 : Int) (b6 : Bool) (c7 : List V) (h : Heap) (Q : Ex → Fr → Heap → Prop) : wpA Try.prog f29_cf f29_n11111 ⟨[V.undef, (V.int Go.IntKind.i64 x0), (V.int Go.IntKind.i64 x1), (V.int Go.IntKind.i64 x2), (V.ptr l3 0), V.undef, V.undef, V.undef, (V.lp 8 0), V.undef, V.undef, (V.int Go.IntKind.i64 x4), (V.int Go.IntKind.i64 x5), V.undef, V.undef, V.undef, V.undef, V.undef, V.undef, V.undef, V.undef, V.undef, V.undef, V.undef, V.undef, V.undef, V.undef, V.undef, V.undef, V.undef, V.undef, V.undef, V.undef, V.undef, V.undef, V.undef, V.undef, (V.bool b6), V.undef, V.undef, V.undef, V.undef, V.undef, V.undef, V.undef, V.undef, V.undef, V.undef, V.undef, V.undef, V.undef, V.undef, V.undef, V.undef, V.undef, V.undef, V.undef, V.undef, V.undef], [(8, c7)]⟩ h Q =
 (let iz36 : Int := (Go.IntKind.wrap Go.IntKind.i64 ((4611686018427387904 : Int) - x2));
 (brW (decide (iz36 < x5))
 ((0 + 49 ≤ (List.length (cellsAt h l3))) ∧ (let cz37 : List V := (List.take 49 (List.drop 0 (cellsAt h l3)));
 (((List.length cz37) = 49) ∧ 0 + 49 ≤ (List.length c7) ∧ (Q Ex.ret ⟨[V.undef, V.undef, V.undef, V.undef, V.undef, V.undef, V.undef, V.undef, (V.lp 8 0), (V.int Go.IntKind.i64 (10 : Int)), V.undef, V.undef, V.undef, V.undef, V.undef, V.undef, V.undef, V.undef, V.undef, V.undef, V.undef, V.undef, V.undef, V.undef, V.undef, V.undef, V.undef, V.undef, V.undef, V.undef, V.undef, V.undef, V.undef, V.undef, V.undef, V.undef, V.undef, V.undef, V.undef, V.undef, V.undef, V.undef, V.undef, V.undef, V.undef, V.undef, V.undef, V.undef, V.undef, V.undef, V.undef, V.undef, V.undef, V.undef, V.undef, V.undef, V.undef, V.undef, V.undef], [(8, (wrCells c7 0 cz37))]⟩ h))))
 ((0 ≤ x0 ∧ x0 < 8) ∧ (AnyW Try.prog 33 [(V.ptr l3 (0 + ((Int.toNat x0) * 6))), (V.int Go.IntKind.i64 x1)] h (fun (rz38 : V) (hz39 : Heap) =>
 (V.isTup 2 rz38 = true ∧ (ptrK (gv (V.vs rz38) 0) (fun (lz40 oz41 : Nat) =>
 (ptrK (gv (V.vs rz38) 1) (fun (lz44 oz45 : Nat) =>
 ((true = true) ∧ ((true = true) ∧ ((oz41 < (List.length (cellsAt hz39 lz40)) ∧ V.isInt Go.IntKind.i64 (gv (cellsAt hz39 lz40) oz41) = true) ∧ (let iz50 : Int := (V.num (gv (cellsAt hz39 lz40) oz41));
 (let iz51 : Int := (Go.IntKind.wrap Go.IntKind.i64 (iz50 + x2));
 (True ∧ oz41 + 1 ≤ (List.length (cellsAt hz39 lz40)) ∧ (let hz52 : Heap := (Heap.upd hz39 lz40 (Ob.cells (wrCells (cellsAt hz39 lz40) oz41 [(V.int Go.IntKind.i64 iz51)])));
 ((0 + 49 ≤ (List.length (cellsAt hz52 l3))) ∧ (let cz53 : List V := (List.take 49 (List.drop 0 (cellsAt hz52 l3)));
 (((List.length cz53) = 49) ∧ 0 + 49 ≤ (List.length c7) ∧ (Q Ex.ret ⟨[V.undef, V.undef, V.undef, V.undef, V.undef, V.undef, V.undef, V.undef, (V.lp 8 0), (V.int Go.IntKind.i64 (0 : Int)), V.undef, V.undef, V.undef, V.undef, V.undef, V.undef, V.undef, V.undef, V.undef, V.undef, V.undef, V.undef, V.undef, V.undef, V.undef, V.undef, V.undef, V.undef, V.undef, V.undef, V.undef, V.undef, V.undef, V.undef, V.undef, V.undef, V.undef, V.undef, V.undef, V.undef, V.undef, V.undef, V.undef, V.undef, V.undef, V.undef, V.undef, V.undef, V.undef, V.undef, V.undef, V.undef, V.undef, V.undef, V.undef, V.undef, V.undef, V.undef, V.undef], [(8, (wrCells c7 0 cz53))]⟩ hz52))))))))))))
 ((true = true) ∧ ((true = true) ∧ ((oz41 < (List.length (cellsAt hz39 lz40)) ∧ V.isInt Go.IntKind.i64 (gv (cellsAt hz39 lz40) oz41) = true) ∧ (let iz46 : Int := (V.num (gv (cellsAt hz39 lz40) oz41));
 (let iz47 : Int := (Go.IntKind.wrap Go.IntKind.i64 (iz46 + x2));
 (True ∧ oz41 + 1 ≤ (List.length (cellsAt hz39 lz40)) ∧ (let hz48 : Heap := (Heap.upd hz39 lz40 (Ob.cells (wrCells (cellsAt hz39 lz40) oz41 [(V.int Go.IntKind.i64 iz47)])));
 ((0 + 49 ≤ (List.length (cellsAt hz48 l3))) ∧ (let cz49 : List V := (List.take 49 (List.drop 0 (cellsAt hz48 l3)));
 (((List.length cz49) = 49) ∧ 0 + 49 ≤ (List.length c7) ∧ (Q Ex.ret ⟨[V.undef, V.undef, V.undef, V.undef, V.undef, V.undef, V.undef, V.undef, (V.lp 8 0), (V.int Go.IntKind.i64 (0 : Int)), V.undef, V.undef, V.undef, V.undef, V.undef, V.undef, V.undef, V.undef, V.undef, V.undef, V.undef, V.undef, V.undef, V.undef, V.undef, V.undef, V.undef, V.undef, V.undef, V.undef, V.undef, V.undef, V.undef, V.undef, V.undef, V.undef, V.undef, V.undef, V.undef, V.undef, V.undef, V.undef, V.undef, V.undef, V.undef, V.undef, V.undef, V.undef, V.undef, V.undef, V.undef, V.undef, V.undef, V.undef, V.undef, V.undef, V.undef, V.undef, V.undef], [(8, (wrCells c7 0 cz49))]⟩ hz48)))))))))))))
 (ptrK (gv (V.vs rz38) 1) (fun (lz42 oz43 : Nat) =>
 ((true = true) ∧ ((true = true) ∧ False)))
 ((true = true) ∧ ((true = true) ∧ False)))))))))) := wpA_at f29_n11111_plug (by kernel_rfl)
theorem f29_end1 (x0 : Int) (c1 : List V) (h : Heap) (K : V → Heap → Prop) : bodyK Try.prog Try.f29 K Ex.ret ⟨[V.undef, V.undef, V.undef, V.undef, V.undef, V.undef, V.undef, V.undef, (V.lp 8 0), (V.int Go.IntKind.i64 x0), V.undef, V.undef, V.undef, V.undef, V.undef, V.undef, V.undef, V.undef, V.undef, V.undef, V.undef, V.undef, V.undef, V.undef, V.undef, V.undef, V.undef, V.undef, V.undef, V.undef, V.undef, V.undef, V.undef, V.undef, V.undef, V.undef, V.undef, V.undef, V.undef, V.undef, V.undef, V.undef, V.undef, V.undef, V.undef, V.undef, V.undef, V.undef, V.undef, V.undef, V.undef, V.undef, V.undef, V.undef, V.undef, V.undef, V.undef, V.undef, V.undef], [(8, c1)]⟩ h = ((0 + 49 ≤ (List.length c1)) ∧ (let cz54 : List V := (List.take 49 (List.drop 0 c1));
 (K (V.tup [(V.agg cz54), (V.int Go.IntKind.i64 x0)]) h))) := by kernel_rfl
end

section
set_option linter.all false
set_option maxRecDepth 100000
open Go Go.Proofs Jb
def f42_cf : Cfg := ⟨[], [(0, [0, 5, 6]), (1, [9, 10]), (2, [1, 2, 11, 12]), (3, [1, 11, 13, 14, 15]), (4, [16, 17, 18, 19, 20, 21, 22, 23, 24, 25, 26, 27, 28, 29]), (5, [31, 32, 33, 34, 35]), (6, [2, 7, 8, 30, 36]), (7, [30, 38, 39]), (8, [2, 7, 8, 37, 40]), (9, [37, 41, 42, 43, 44, 45, 46, 47, 48]), (10, [7, 49, 50, 51, 52, 53, 54, 55, 56]), (11, [57, 58, 59, 60, 61]), (12, [2, 8, 62, 63])]⟩
noncomputable def f42_b : Code := bodyOf Try.f42
noncomputable def f42_n : Code :=  (codeAt [] f42_b)
theorem f42_entry (t : List Int) (x : Int) (h : Heap) (K : V → Heap → Prop) : bodyW Try.prog f42_cf Try.f42 [(V.agg (ints t)), (V.int Go.IntKind.i64 x)] h K = wpA Try.prog f42_cf f42_n ⟨[(V.agg (ints t)), (V.int Go.IntKind.i64 x), V.undef, V.undef, V.undef, V.undef, V.undef, V.undef, V.undef, V.undef, V.undef, V.undef, V.undef, V.undef, V.undef, V.undef, V.undef, V.undef, V.undef, V.undef, V.undef, V.undef, V.undef, V.undef, V.undef, V.undef, V.undef, V.undef, V.undef, V.undef, V.undef, V.undef, V.undef, V.undef, V.undef, V.undef, V.undef, V.undef, V.undef, V.undef, V.undef, V.undef, V.undef, V.undef, V.undef, V.undef, V.undef, V.undef, V.undef, V.undef, V.undef, V.undef, V.undef, V.undef, V.undef, V.undef, V.undef, V.undef, V.undef, V.undef, V.undef, V.undef, V.undef, V.undef], []⟩ h (bodyK Try.prog Try.f42 K) := by kernel_rfl
theorem f42_n_plug : f42_n = (codeAt [] f42_b) := by
  simp only [f42_n, hide_eq]
  try kernel_rfl
theorem f42_n_wp (t : List Int) (x : Int) (h : Heap) (Q : Ex → Fr → Heap → Prop) : wpA Try.prog f42_cf f42_n ⟨[(V.agg (ints t)), (V.int Go.IntKind.i64 x), V.undef, V.undef, V.undef, V.undef, V.undef, V.undef, V.undef, V.undef, V.undef, V.undef, V.undef, V.undef, V.undef, V.undef, V.undef, V.undef, V.undef, V.undef, V.undef, V.undef, V.undef, V.undef, V.undef, V.undef, V.undef, V.undef, V.undef, V.undef, V.undef, V.undef, V.undef, V.undef, V.undef, V.undef, V.undef, V.undef, V.undef, V.undef, V.undef, V.undef, V.undef, V.undef, V.undef, V.undef, V.undef, V.undef, V.undef, V.undef, V.undef, V.undef, V.undef, V.undef, V.undef, V.undef, V.undef, V.undef, V.undef, V.undef, V.undef, V.undef, V.undef, V.undef], []⟩ h Q =
 (((List.length (ints t)) = 49) ∧ (True ∧ (AnyW Try.prog 32 [(V.int Go.IntKind.i64 x), (V.int Go.IntKind.i64 (1 : Int))] h (fun (rz1 : V) (hz2 : Heap) =>
 ((True ∧ V.isBool rz1 = true) ∧ (brW (!(V.flag rz1))
 ((0 + 49 ≤ (List.length (ints t))) ∧ (let cz3 : List V := (List.take 49 (List.drop 0 (ints t)));
 (((List.length cz3) = 49) ∧ 0 + 49 ≤ 49 ∧ (let cz4 : List V := (wrCells [(V.int Go.IntKind.i64 (0 : Int)), (V.int Go.IntKind.i64 (0 : Int)), (V.int Go.IntKind.i64 (0 : Int)), (V.int Go.IntKind.i64 (0 : Int)), (V.int Go.IntKind.i64 (0 : Int)), (V.int Go.IntKind.i64 (0 : Int)), (V.int Go.IntKind.i64 (0 : Int)), (V.int Go.IntKind.i64 (0 : Int)), (V.int Go.IntKind.i64 (0 : Int)), (V.int Go.IntKind.i64 (0 : Int)), (V.int Go.IntKind.i64 (0 : Int)), (V.int Go.IntKind.i64 (0 : Int)), (V.int Go.IntKind.i64 (0 : Int)), (V.int Go.IntKind.i64 (0 : Int)), (V.int Go.IntKind.i64 (0 : Int)), (V.int Go.IntKind.i64 (0 : Int)), (V.int Go.IntKind.i64 (0 : Int)), (V.int Go.IntKind.i64 (0 : Int)), (V.int Go.IntKind.i64 (0 : Int)), (V.int Go.IntKind.i64 (0 : Int)), (V.int Go.IntKind.i64 (0 : Int)), (V.int Go.IntKind.i64 (0 : Int)), (V.int Go.IntKind.i64 (0 : Int)), (V.int Go.IntKind.i64 (0 : Int)), (V.int Go.IntKind.i64 (0 : Int)), (V.int Go.IntKind.i64 (0 : Int)), (V.int Go.IntKind.i64 (0 : Int)), (V.int Go.IntKind.i64 (0 : Int)), (V.int Go.IntKind.i64 (0 : Int)), (V.int Go.IntKind.i64 (0 : Int)), (V.int Go.IntKind.i64 (0 : Int)), (V.int Go.IntKind.i64 (0 : Int)), (V.int Go.IntKind.i64 (0 : Int)), (V.int Go.IntKind.i64 (0 : Int)), (V.int Go.IntKind.i64 (0 : Int)), (V.int Go.IntKind.i64 (0 : Int)), (V.int Go.IntKind.i64 (0 : Int)), (V.int Go.IntKind.i64 (0 : Int)), (V.int Go.IntKind.i64 (0 : Int)), (V.int Go.IntKind.i64 (0 : Int)), (V.int Go.IntKind.i64 (0 : Int)), (V.int Go.IntKind.i64 (0 : Int)), (V.int Go.IntKind.i64 (0 : Int)), (V.int Go.IntKind.i64 (0 : Int)), (V.int Go.IntKind.i64 (0 : Int)), (V.int Go.IntKind.i64 (0 : Int)), (V.int Go.IntKind.i64 (0 : Int)), (V.int Go.IntKind.i64 (0 : Int)), (V.int Go.IntKind.i64 (0 : Int))] 0 cz3);
 (Q Ex.ret ⟨[V.undef, V.undef, V.undef, V.undef, (V.lp 4 0), (V.int Go.IntKind.i64 (0 : Int)), (V.int Go.IntKind.i64 (2 : Int)), V.undef, V.undef, V.undef, V.undef, V.undef, V.undef, V.undef, V.undef, V.undef, V.undef, V.undef, V.undef, V.undef, V.undef, V.undef, V.undef, V.undef, V.undef, V.undef, V.undef, V.undef, V.undef, V.undef, V.undef, V.undef, V.undef, V.undef, V.undef, V.undef, V.undef, V.undef, V.undef, V.undef, V.undef, V.undef, V.undef, V.undef, V.undef, V.undef, V.undef, V.undef, V.undef, V.undef, V.undef, V.undef, V.undef, V.undef, V.undef, V.undef, V.undef, V.undef, V.undef, V.undef, V.undef, V.undef, V.undef, V.undef], [(4, cz4)]⟩ hz2)))))
 ((0 ≤ x ∧ x < 8) ∧ ((((0 + ((Int.toNat x) * 6)) + 4) < (List.length (ints t)) ∧ V.isInt Go.IntKind.i64 (gv (ints t) ((0 + ((Int.toNat x) * 6)) + 4)) = true) ∧ (let iz5 : Int := (V.num (gv (ints t) ((0 + ((Int.toNat x) * 6)) + 4)));
 ((((0 + ((Int.toNat x) * 6)) + 0) < (List.length (ints t)) ∧ V.isInt Go.IntKind.i64 (gv (ints t) ((0 + ((Int.toNat x) * 6)) + 0)) = true) ∧ (let iz6 : Int := (V.num (gv (ints t) ((0 + ((Int.toNat x) * 6)) + 0)));
 ((((0 + ((Int.toNat x) * 6)) + 2) < (List.length (ints t)) ∧ V.isInt Go.IntKind.i64 (gv (ints t) ((0 + ((Int.toNat x) * 6)) + 2)) = true) ∧ (let iz7 : Int := (V.num (gv (ints t) ((0 + ((Int.toNat x) * 6)) + 2)));
 (let iz8 : Int := (Go.IntKind.wrap Go.IntKind.i64 (iz6 - iz7));
 (let iz9 : Int := (if iz8 < iz5 then iz8 else iz5);
 ((((0 + ((Int.toNat x) * 6)) + 4) < (List.length (ints t)) ∧ V.isInt Go.IntKind.i64 (gv (ints t) ((0 + ((Int.toNat x) * 6)) + 4)) = true) ∧ (let iz10 : Int := (V.num (gv (ints t) ((0 + ((Int.toNat x) * 6)) + 4)));
 (brW (iz10 == (0 : Int))
 ((0 + 49 ≤ (List.length (ints t))) ∧ (let cz11 : List V := (List.take 49 (List.drop 0 (ints t)));
 (((List.length cz11) = 49) ∧ 0 + 49 ≤ 49 ∧ (let cz12 : List V := (wrCells [(V.int Go.IntKind.i64 (0 : Int)), (V.int Go.IntKind.i64 (0 : Int)), (V.int Go.IntKind.i64 (0 : Int)), (V.int Go.IntKind.i64 (0 : Int)), (V.int Go.IntKind.i64 (0 : Int)), (V.int Go.IntKind.i64 (0 : Int)), (V.int Go.IntKind.i64 (0 : Int)), (V.int Go.IntKind.i64 (0 : Int)), (V.int Go.IntKind.i64 (0 : Int)), (V.int Go.IntKind.i64 (0 : Int)), (V.int Go.IntKind.i64 (0 : Int)), (V.int Go.IntKind.i64 (0 : Int)), (V.int Go.IntKind.i64 (0 : Int)), (V.int Go.IntKind.i64 (0 : Int)), (V.int Go.IntKind.i64 (0 : Int)), (V.int Go.IntKind.i64 (0 : Int)), (V.int Go.IntKind.i64 (0 : Int)), (V.int Go.IntKind.i64 (0 : Int)), (V.int Go.IntKind.i64 (0 : Int)), (V.int Go.IntKind.i64 (0 : Int)), (V.int Go.IntKind.i64 (0 : Int)), (V.int Go.IntKind.i64 (0 : Int)), (V.int Go.IntKind.i64 (0 : Int)), (V.int Go.IntKind.i64 (0 : Int)), (V.int Go.IntKind.i64 (0 : Int)), (V.int Go.IntKind.i64 (0 : Int)), (V.int Go.IntKind.i64 (0 : Int)), (V.int Go.IntKind.i64 (0 : Int)), (V.int Go.IntKind.i64 (0 : Int)), (V.int Go.IntKind.i64 (0 : Int)), (V.int Go.IntKind.i64 (0 : Int)), (V.int Go.IntKind.i64 (0 : Int)), (V.int Go.IntKind.i64 (0 : Int)), (V.int Go.IntKind.i64 (0 : Int)), (V.int Go.IntKind.i64 (0 : Int)), (V.int Go.IntKind.i64 (0 : Int)), (V.int Go.IntKind.i64 (0 : Int)), (V.int Go.IntKind.i64 (0 : Int)), (V.int Go.IntKind.i64 (0 : Int)), (V.int Go.IntKind.i64 (0 : Int)), (V.int Go.IntKind.i64 (0 : Int)), (V.int Go.IntKind.i64 (0 : Int)), (V.int Go.IntKind.i64 (0 : Int)), (V.int Go.IntKind.i64 (0 : Int)), (V.int Go.IntKind.i64 (0 : Int)), (V.int Go.IntKind.i64 (0 : Int)), (V.int Go.IntKind.i64 (0 : Int)), (V.int Go.IntKind.i64 (0 : Int)), (V.int Go.IntKind.i64 (0 : Int))] 0 cz11);
 (Q Ex.ret ⟨[V.undef, V.undef, V.undef, V.undef, (V.lp 4 0), (V.int Go.IntKind.i64 (0 : Int)), (V.int Go.IntKind.i64 (51 : Int)), V.undef, V.undef, V.undef, V.undef, V.undef, V.undef, V.undef, V.undef, V.undef, V.undef, V.undef, V.undef, V.undef, V.undef, V.undef, V.undef, V.undef, V.undef, V.undef, V.undef, V.undef, V.undef, V.undef, V.undef, V.undef, V.undef, V.undef, V.undef, V.undef, V.undef, V.undef, V.undef, V.undef, V.undef, V.undef, V.undef, V.undef, V.undef, V.undef, V.undef, V.undef, V.undef, V.undef, V.undef, V.undef, V.undef, V.undef, V.undef, V.undef, V.undef, V.undef, V.undef, V.undef, V.undef, V.undef, V.undef, V.undef], [(4, cz12)]⟩ hz2)))))
 (brW (iz9 == (0 : Int))
 ((0 + 49 ≤ (List.length (ints t))) ∧ (let cz13 : List V := (List.take 49 (List.drop 0 (ints t)));
 (((List.length cz13) = 49) ∧ 0 + 49 ≤ 49 ∧ (let cz14 : List V := (wrCells [(V.int Go.IntKind.i64 (0 : Int)), (V.int Go.IntKind.i64 (0 : Int)), (V.int Go.IntKind.i64 (0 : Int)), (V.int Go.IntKind.i64 (0 : Int)), (V.int Go.IntKind.i64 (0 : Int)), (V.int Go.IntKind.i64 (0 : Int)), (V.int Go.IntKind.i64 (0 : Int)), (V.int Go.IntKind.i64 (0 : Int)), (V.int Go.IntKind.i64 (0 : Int)), (V.int Go.IntKind.i64 (0 : Int)), (V.int Go.IntKind.i64 (0 : Int)), (V.int Go.IntKind.i64 (0 : Int)), (V.int Go.IntKind.i64 (0 : Int)), (V.int Go.IntKind.i64 (0 : Int)), (V.int Go.IntKind.i64 (0 : Int)), (V.int Go.IntKind.i64 (0 : Int)), (V.int Go.IntKind.i64 (0 : Int)), (V.int Go.IntKind.i64 (0 : Int)), (V.int Go.IntKind.i64 (0 : Int)), (V.int Go.IntKind.i64 (0 : Int)), (V.int Go.IntKind.i64 (0 : Int)), (V.int Go.IntKind.i64 (0 : Int)), (V.int Go.IntKind.i64 (0 : Int)), (V.int Go.IntKind.i64 (0 : Int)), (V.int Go.IntKind.i64 (0 : Int)), (V.int Go.IntKind.i64 (0 : Int)), (V.int Go.IntKind.i64 (0 : Int)), (V.int Go.IntKind.i64 (0 : Int)), (V.int Go.IntKind.i64 (0 : Int)), (V.int Go.IntKind.i64 (0 : Int)), (V.int Go.IntKind.i64 (0 : Int)), (V.int Go.IntKind.i64 (0 : Int)), (V.int Go.IntKind.i64 (0 : Int)), (V.int Go.IntKind.i64 (0 : Int)), (V.int Go.IntKind.i64 (0 : Int)), (V.int Go.IntKind.i64 (0 : Int)), (V.int Go.IntKind.i64 (0 : Int)), (V.int Go.IntKind.i64 (0 : Int)), (V.int Go.IntKind.i64 (0 : Int)), (V.int Go.IntKind.i64 (0 : Int)), (V.int Go.IntKind.i64 (0 : Int)), (V.int Go.IntKind.i64 (0 : Int)), (V.int Go.IntKind.i64 (0 : Int)), (V.int Go.IntKind.i64 (0 : Int)), (V.int Go.IntKind.i64 (0 : Int)), (V.int Go.IntKind.i64 (0 : Int)), (V.int Go.IntKind.i64 (0 : Int)), (V.int Go.IntKind.i64 (0 : Int)), (V.int Go.IntKind.i64 (0 : Int))] 0 cz13);
 (Q Ex.ret ⟨[V.undef, V.undef, V.undef, V.undef, (V.lp 4 0), (V.int Go.IntKind.i64 (0 : Int)), (V.int Go.IntKind.i64 (53 : Int)), V.undef, V.undef, V.undef, V.undef, V.undef, V.undef, V.undef, V.undef, V.undef, V.undef, V.undef, V.undef, V.undef, V.undef, V.undef, V.undef, V.undef, V.undef, V.undef, V.undef, V.undef, V.undef, V.undef, V.undef, V.undef, V.undef, V.undef, V.undef, V.undef, V.undef, V.undef, V.undef, V.undef, V.undef, V.undef, V.undef, V.undef, V.undef, V.undef, V.undef, V.undef, V.undef, V.undef, V.undef, V.undef, V.undef, V.undef, V.undef, V.undef, V.undef, V.undef, V.undef, V.undef, V.undef, V.undef, V.undef, V.undef], [(4, cz14)]⟩ hz2)))))
 ((((0 + ((Int.toNat x) * 6)) + 4) < (List.length (ints t)) ∧ V.isInt Go.IntKind.i64 (gv (ints t) ((0 + ((Int.toNat x) * 6)) + 4)) = true) ∧ (let iz15 : Int := (V.num (gv (ints t) ((0 + ((Int.toNat x) * 6)) + 4)));
 (let iz16 : Int := (Go.IntKind.wrap Go.IntKind.i64 (iz15 - iz9));
 (True ∧ ((0 + ((Int.toNat x) * 6)) + 4) + 1 ≤ (List.length (ints t)) ∧ (let cz17 : List V := (wrCells (ints t) ((0 + ((Int.toNat x) * 6)) + 4) [(V.int Go.IntKind.i64 iz16)]);
 ((((0 + ((Int.toNat x) * 6)) + 0) < (List.length cz17) ∧ V.isInt Go.IntKind.i64 (gv cz17 ((0 + ((Int.toNat x) * 6)) + 0)) = true) ∧ (let iz18 : Int := (V.num (gv cz17 ((0 + ((Int.toNat x) * 6)) + 0)));
 (let iz19 : Int := (Go.IntKind.wrap Go.IntKind.i64 (iz18 - iz9));
 (True ∧ ((0 + ((Int.toNat x) * 6)) + 0) + 1 ≤ (List.length cz17) ∧ (let cz20 : List V := (wrCells cz17 ((0 + ((Int.toNat x) * 6)) + 0) [(V.int Go.IntKind.i64 iz19)]);
 ((48 < (List.length cz20) ∧ V.isInt Go.IntKind.i64 (gv cz20 48) = true) ∧ (let iz21 : Int := (Go.IntKind.wrap Go.IntKind.i64 ((V.num (gv cz20 48)) + iz9));
 (True ∧ 48 + 1 ≤ (List.length cz20) ∧ (let cz22 : List V := (wrCells cz20 48 [(V.int Go.IntKind.i64 iz21)]);
 ((0 + 49 ≤ (List.length cz22)) ∧ (let cz23 : List V := (List.take 49 (List.drop 0 cz22));
 (((List.length cz23) = 49) ∧ 0 + 49 ≤ 49 ∧ (let cz24 : List V := (wrCells [(V.int Go.IntKind.i64 (0 : Int)), (V.int Go.IntKind.i64 (0 : Int)), (V.int Go.IntKind.i64 (0 : Int)), (V.int Go.IntKind.i64 (0 : Int)), (V.int Go.IntKind.i64 (0 : Int)), (V.int Go.IntKind.i64 (0 : Int)), (V.int Go.IntKind.i64 (0 : Int)), (V.int Go.IntKind.i64 (0 : Int)), (V.int Go.IntKind.i64 (0 : Int)), (V.int Go.IntKind.i64 (0 : Int)), (V.int Go.IntKind.i64 (0 : Int)), (V.int Go.IntKind.i64 (0 : Int)), (V.int Go.IntKind.i64 (0 : Int)), (V.int Go.IntKind.i64 (0 : Int)), (V.int Go.IntKind.i64 (0 : Int)), (V.int Go.IntKind.i64 (0 : Int)), (V.int Go.IntKind.i64 (0 : Int)), (V.int Go.IntKind.i64 (0 : Int)), (V.int Go.IntKind.i64 (0 : Int)), (V.int Go.IntKind.i64 (0 : Int)), (V.int Go.IntKind.i64 (0 : Int)), (V.int Go.IntKind.i64 (0 : Int)), (V.int Go.IntKind.i64 (0 : Int)), (V.int Go.IntKind.i64 (0 : Int)), (V.int Go.IntKind.i64 (0 : Int)), (V.int Go.IntKind.i64 (0 : Int)), (V.int Go.IntKind.i64 (0 : Int)), (V.int Go.IntKind.i64 (0 : Int)), (V.int Go.IntKind.i64 (0 : Int)), (V.int Go.IntKind.i64 (0 : Int)), (V.int Go.IntKind.i64 (0 : Int)), (V.int Go.IntKind.i64 (0 : Int)), (V.int Go.IntKind.i64 (0 : Int)), (V.int Go.IntKind.i64 (0 : Int)), (V.int Go.IntKind.i64 (0 : Int)), (V.int Go.IntKind.i64 (0 : Int)), (V.int Go.IntKind.i64 (0 : Int)), (V.int Go.IntKind.i64 (0 : Int)), (V.int Go.IntKind.i64 (0 : Int)), (V.int Go.IntKind.i64 (0 : Int)), (V.int Go.IntKind.i64 (0 : Int)), (V.int Go.IntKind.i64 (0 : Int)), (V.int Go.IntKind.i64 (0 : Int)), (V.int Go.IntKind.i64 (0 : Int)), (V.int Go.IntKind.i64 (0 : Int)), (V.int Go.IntKind.i64 (0 : Int)), (V.int Go.IntKind.i64 (0 : Int)), (V.int Go.IntKind.i64 (0 : Int)), (V.int Go.IntKind.i64 (0 : Int))] 0 cz23);
 (Q Ex.ret ⟨[V.undef, V.undef, V.undef, V.undef, (V.lp 4 0), (V.int Go.IntKind.i64 iz9), (V.int Go.IntKind.i64 (0 : Int)), V.undef, V.undef, V.undef, V.undef, V.undef, V.undef, V.undef, V.undef, V.undef, V.undef, V.undef, V.undef, V.undef, V.undef, V.undef, V.undef, V.undef, V.undef, V.undef, V.undef, V.undef, V.undef, V.undef, V.undef, V.undef, V.undef, V.undef, V.undef, V.undef, V.undef, V.undef, V.undef, V.undef, V.undef, V.undef, V.undef, V.undef, V.undef, V.undef, V.undef, V.undef, V.undef, V.undef, V.undef, V.undef, V.undef, V.undef, V.undef, V.undef, V.undef, V.undef, V.undef, V.undef, V.undef, V.undef, V.undef, V.undef], [(4, cz24)]⟩ hz2)))))))))))))))))))))))))))))))))))))) := wpA_at f42_n_plug (by kernel_rfl)
theorem f42_end1 (x0 : Int) (x1 : Int) (c2 : List V) (h : Heap) (K : V → Heap → Prop) : bodyK Try.prog Try.f42 K Ex.ret ⟨[V.undef, V.undef, V.undef, V.undef, (V.lp 4 0), (V.int Go.IntKind.i64 x0), (V.int Go.IntKind.i64 x1), V.undef, V.undef, V.undef, V.undef, V.undef, V.undef, V.undef, V.undef, V.undef, V.undef, V.undef, V.undef, V.undef, V.undef, V.undef, V.undef, V.undef, V.undef, V.undef, V.undef, V.undef, V.undef, V.undef, V.undef, V.undef, V.undef, V.undef, V.undef, V.undef, V.undef, V.undef, V.undef, V.undef, V.undef, V.undef, V.undef, V.undef, V.undef, V.undef, V.undef, V.undef, V.undef, V.undef, V.undef, V.undef, V.undef, V.undef, V.undef, V.undef, V.undef, V.undef, V.undef, V.undef, V.undef, V.undef, V.undef, V.undef], [(4, c2)]⟩ h = ((0 + 49 ≤ (List.length c2)) ∧ (let cz25 : List V := (List.take 49 (List.drop 0 c2));
 (K (V.tup [(V.agg cz25), (V.int Go.IntKind.i64 x0), (V.int Go.IntKind.i64 x1)]) h))) := by kernel_rfl
end

section
open Go Go.Proofs Jb
set_option linter.unusedSimpArgs false

theorem e11 : enters Try.prog 11 = true := by kernel_rfl
theorem Totals_any {t : List Int} (F : Fits t) {h : Heap} {K : V → Heap → Prop} (m : K (.tup [.int .i64 (totals t).1, .int .i64 (totals t).2.1]) h) : AnyW Try.prog 11 [.agg (ints t)] h K := AnyW.eq e11 (Totals_call t F h) m

theorem at_1 (x s : Int) : (x.toNat * 6 + if s = 1 then 0 else 1) = at_ x s := rfl
theorem at_2 (x s : Int) : (x.toNat * 6 + if s = 1 then 2 else 3) = at_ x s + 2 := by unfold at_; split <;> omega

/-- Less of it is held. -/
def release (t : List Int) (x s n : Int) : List Int × Int :=
  if isA x s = false ∨ fine1 n = false then (t, 2) else if gi t (at_ x s + 2) < n then (t, 53) else (t.set (at_ x s + 2) (IntKind.i64.wrap (gi t (at_ x s + 2) - n)), 0)

theorem release_call (t : List Int) (ht : t.length = 49) (x s n : Int) (h : Heap) : CallW Try.prog 39 [.agg (ints t), .int .i64 x, .int .i64 s, .int .i64 n] h (fun r h' => r = .tup [.agg (ints (release t x s n).1), .int .i64 (release t x s n).2] ∧ h' = h) := by
  refine CallW.forget (K := fun r h' => r = .tup [.agg (ints (release t x s n).1), .int .i64 (release t x s n).2] ∧ h.Sub h') ?_ (fun r h' e => ⟨h, e.2, e.1, rfl⟩)
  refine CallW.body mix f39_cf Try.func39 (by rw [Try.ntmps39]; simp) ?_
  rw [f39_entry, f39_n_wp]
  refine ⟨by simp [ht], fun l hl => ⟨trivial, ?_⟩⟩
  have hs : ∀ o, h.Sub (h.upd l o) := fun o => Heap.sub_new hl (Heap.sub_rfl h)
  rw [f39_n1_eq, wpA_seq, f39_n10_eq, wpA_seq, f39_n100_wp]
  refine is_any ?_
  unfold release
  cases hi : isA x s with
  | false => simp [f39_n101_wp, ht, f39_end1, take_all, wr_all, hs]
  | true =>
    simp
    refine fineL_any ?_
    cases hn : fine1 n with
    | false => simp [f39_n101_wp, ht, f39_end1, take_all, wr_all, hs]
    | true =>
      have := at_lt hi
      simp only [Bool.not_true, cond_false, seqK_normal, f39_n101_wp, brW_false, f39_n11_wp, isBool_bool, flag_bool, true_and, Nat.zero_add]
      refine ⟨⟨(isA_iff.1 hi).1, (isA_iff.1 hi).2.1⟩, pair_any ?_⟩
      rw [at_1, at_2]
      by_cases hf : gi t (at_ x s + 2) < n
      · simp [hf, ht, f39_end1, take_all, wr_all, hs, show at_ x s + 2 < 49 from by omega, show at_ x s ≤ 46 from by omega, ints_wr1]
      · simp [hf, ht, f39_end1, take_all, wr_all, hs, show at_ x s + 2 < 49 from by omega, show at_ x s ≤ 46 from by omega, ints_wr1]

/-- It goes out. -/
def withdraw (t : List Int) (x s n : Int) : List Int × Int :=
  if isA x s = false ∨ n < 1 ∨ fine1 n = false then (t, 2)
  else if IntKind.i64.wrap (free t x s - if s = 1 then gi t (x.toNat * 6 + 4) else 0) < n then (t, 53)
  else (t.set (at_ x s) (IntKind.i64.wrap (gi t (at_ x s) - n)), 0)

theorem withdraw_call (t : List Int) (ht : t.length = 49) (x s n : Int) (h : Heap) : CallW Try.prog 36 [.agg (ints t), .int .i64 x, .int .i64 s, .int .i64 n] h (fun r h' => r = .tup [.agg (ints (withdraw t x s n).1), .int .i64 (withdraw t x s n).2] ∧ h' = h) := by
  refine CallW.forget (K := fun r h' => r = .tup [.agg (ints (withdraw t x s n).1), .int .i64 (withdraw t x s n).2] ∧ h.Sub h') ?_ (fun r h' e => ⟨h, e.2, e.1, rfl⟩)
  refine CallW.body mix f36_cf Try.func36 (by rw [Try.ntmps36]; simp) ?_
  rw [f36_entry, f36_n_wp]
  refine ⟨by simp [ht], fun l hl => ⟨trivial, ?_⟩⟩
  have hs : ∀ o, h.Sub (h.upd l o) := fun o => Heap.sub_new hl (Heap.sub_rfl h)
  rw [f36_n1_eq, wpA_seq, f36_n10_eq, wpA_seq, f36_n100_wp]
  refine is_any ?_
  unfold withdraw
  cases hi : isA x s with
  | false => simp [f36_n101_wp, ht, f36_end1, take_all, wr_all, hs]
  | true =>
    by_cases h1 : n < 1
    · simp [h1, f36_n101_wp, ht, f36_end1, take_all, wr_all, hs]
    simp [h1]
    refine fineL_any ?_
    cases hn : fine1 n with
    | false => simp [f36_n101_wp, ht, f36_end1, take_all, wr_all, hs]
    | true =>
      have := at_lt hi
      have hx := isA_iff.1 hi
      simp only [Bool.not_true, cond_false, seqK_normal, f36_n101_wp, brW_false, f36_n11_wp, isBool_bool, flag_bool, true_and, f36_n111_eq, wpA_seq, f36_n1110_wp]
      by_cases h2 : s = 1
      · subst h2
        simp only [beq_self_eq_true, brW_true, cellsAt_same, ints_len, ht, ints_isInt, ints_num, seqK_normal, f36_n1111_wp, List.drop_zero, take_all ht, Nat.zero_add]
        refine ⟨⟨hx.1, hx.2.1⟩, ⟨by omega, by simp; omega⟩, by omega, free_any ht ?_⟩
        by_cases hf : IntKind.i64.wrap (free t x 1 - gi t (x.toNat * 6 + 4)) < n
        · simp [hf, ht, f36_end1, take_all, wr_all, hs]
        · simp only [isInt_i64, num_int, Int.sub_zero, hf, decide_false, brW_false, true_and]
          refine ⟨⟨hx.1, hx.2.1⟩, pair_any ?_⟩
          rw [at_1 x 1, at_2 x 1]
          simp [hf, ht, f36_end1, take_all, wr_all, hs, show at_ x 1 < 49 from by omega, show at_ x 1 ≤ 48 from by omega, ints_wr1]
      · simp only [beq_dec, h2, decide_false, brW_false, cellsAt_same, ints_len, ht, seqK_normal, f36_n1111s1_wp, f36_n1111_wp, List.drop_zero, take_all ht, Nat.zero_add, Int.sub_zero]
        refine ⟨by omega, free_any ht ?_⟩
        by_cases hf : IntKind.i64.wrap (free t x s) < n
        · simp [hf, h2, ht, f36_end1, take_all, wr_all, hs]
        · simp only [isInt_i64, num_int, Int.sub_zero, hf, decide_false, brW_false, true_and]
          refine ⟨⟨hx.1, hx.2.1⟩, pair_any ?_⟩
          rw [at_1, at_2]
          simp [hf, h2, ht, f36_end1, take_all, wr_all, hs, show at_ x s < 49 from by omega, show at_ x s ≤ 48 from by omega, ints_wr1]

/-- It comes in. -/
def deposit (t : List Int) (x s n : Int) : List Int × Int :=
  if isA x s = false ∨ n < 1 ∨ fine1 n = false then (t, 2)
  else if IntKind.i64.wrap (4611686018427387904 - n) < (if s = 2 then (totals t).2.1 else (totals t).1) then (t, 10)
  else (t.set (at_ x s) (IntKind.i64.wrap (gi t (at_ x s) + n)), 0)

theorem deposit_call (t : List Int) (F : Fits t) (x s n : Int) (h : Heap) : CallW Try.prog 29 [.agg (ints t), .int .i64 x, .int .i64 s, .int .i64 n] h (fun r h' => r = .tup [.agg (ints (deposit t x s n).1), .int .i64 (deposit t x s n).2] ∧ h' = h) := by
  have ht := F.1
  refine CallW.forget (K := fun r h' => r = .tup [.agg (ints (deposit t x s n).1), .int .i64 (deposit t x s n).2] ∧ h.Sub h') ?_ (fun r h' e => ⟨h, e.2, e.1, rfl⟩)
  refine CallW.body mix f29_cf Try.func29 (by rw [Try.ntmps29]; simp) ?_
  rw [f29_entry, f29_n_wp]
  refine ⟨by simp [ht], fun l hl => ⟨trivial, ?_⟩⟩
  have hs : ∀ o, h.Sub (h.upd l o) := fun o => Heap.sub_new hl (Heap.sub_rfl h)
  rw [f29_n1_eq, wpA_seq, f29_n10_eq, wpA_seq, f29_n100_wp]
  refine is_any ?_
  unfold deposit
  cases hi : isA x s with
  | false => simp [f29_n101_wp, ht, f29_end1, take_all, wr_all, hs]
  | true =>
    by_cases h1 : n < 1
    · simp [h1, f29_n101_wp, ht, f29_end1, take_all, wr_all, hs]
    simp [h1]
    refine fineL_any ?_
    cases hn : fine1 n with
    | false => simp [f29_n101_wp, ht, f29_end1, take_all, wr_all, hs]
    | true =>
      have := at_lt hi
      have hx := isA_iff.1 hi
      simp only [Bool.not_true, cond_false, seqK_normal, f29_n101_wp, brW_false, f29_n11_wp, isBool_bool, flag_bool, true_and, cellsAt_same, ints_len, ht, List.drop_zero, take_all ht]
      refine ⟨by omega, Totals_any F ?_⟩
      simp only [isTup_tup, vs_tup, gv_zero, gv_succ, isInt_i64, num_int, true_and, f29_n1111_eq, wpA_seq, f29_n11110_wp, List.length_cons, List.length_nil, decide_true]
      by_cases h2 : s = 2
      · subst h2
        simp only [beq_self_eq_true, brW_true, seqK_normal, f29_n11111_wp, cellsAt_same, ints_len, ht, List.drop_zero, take_all ht, Nat.zero_add]
        by_cases hf : IntKind.i64.wrap (4611686018427387904 - n) < (totals t).2.1
        · simp [hf, ht, f29_end1, take_all, wr_all, hs]
        · simp only [hf, decide_false, brW_false, true_and]
          refine ⟨⟨hx.1, hx.2.1⟩, pair_any ?_⟩
          rw [at_1 x 2, at_2 x 2]
          simp [hf, ht, f29_end1, take_all, wr_all, hs, show at_ x 2 < 49 from by omega, show at_ x 2 ≤ 48 from by omega, ints_wr1]
      · simp only [beq_dec, h2, decide_false, brW_false, seqK_normal, f29_n11111s1_wp, cellsAt_same, ints_len, ht, List.drop_zero, take_all ht, Nat.zero_add]
        by_cases hf : IntKind.i64.wrap (4611686018427387904 - n) < (totals t).1
        · simp [hf, h2, ht, f29_end1, take_all, wr_all, hs]
        · simp only [hf, decide_false, brW_false, true_and]
          refine ⟨⟨hx.1, hx.2.1⟩, pair_any ?_⟩
          rw [at_1, at_2]
          simp [hf, h2, ht, f29_end1, take_all, wr_all, hs, show at_ x s < 49 from by omega, show at_ x s ≤ 48 from by omega, ints_wr1]

/-- What is owed is paid. -/
def settleT (t : List Int) (x : Int) : List Int × Int × Int :=
  if isA x 1 = false then (t, 0, 2) else
  let b := x.toNat * 6
  let r := IntKind.i64.wrap (gi t b - gi t (b + 2))
  let n := if r < gi t (b + 4) then r else gi t (b + 4)
  if gi t (b + 4) = 0 then (t, 0, 51) else if n = 0 then (t, 0, 53) else
  (((t.set (b + 4) (IntKind.i64.wrap (gi t (b + 4) - n))).set b (IntKind.i64.wrap (gi t b - n))).set 48 (IntKind.i64.wrap (gi t 48 + n)), n, 0)

theorem settle_call (t : List Int) (ht : t.length = 49) (x : Int) (h : Heap) : CallW Try.prog 42 [.agg (ints t), .int .i64 x] h (fun r h' => r = .tup [.agg (ints (settleT t x).1), .int .i64 (settleT t x).2.1, .int .i64 (settleT t x).2.2] ∧ h' = h) := by
  refine CallW.body mix f42_cf Try.func42 (by rw [Try.ntmps42]; simp) ?_
  rw [f42_entry, f42_n_wp]
  refine ⟨by simp [ht], trivial, is_any ?_⟩
  unfold settleT
  cases hi : isA x 1 with
  | false => simp [f42_end1, ht, take_all, wr_all]
  | true =>
    have hx := isA_iff.1 hi
    have hb : x.toNat * 6 + 5 < 48 := by omega
    simp only [isBool_bool, flag_bool, Bool.not_true, brW_false, true_and, Nat.zero_add, ints_len, ht, ints_isInt, ints_num, Nat.add_zero, List.drop_zero, take_all ht]
    generalize x.toNat * 6 = b at *
    by_cases h1 : gi t (b + 4) = 0
    · simp [h1, ht, f42_end1, take_all, wr_all, hx, show b < 49 from by omega, show b + 4 < 49 from by omega, show b + 2 < 49 from by omega]
    · by_cases h2 : (if IntKind.i64.wrap (gi t b - gi t (b + 2)) < gi t (b + 4) then IntKind.i64.wrap (gi t b - gi t (b + 2)) else gi t (b + 4)) = 0
      · simp [h1, h2, beq_dec, ht, f42_end1, take_all, wr_all, hx, show b < 49 from by omega, show b + 4 < 49 from by omega, show b + 2 < 49 from by omega]
      · simp [h1, h2, beq_dec, ht, f42_end1, take_all, wr_all, hx, show b < 49 from by omega, show b + 4 < 49 from by omega, show b + 2 < 49 from by omega, show b ≤ 44 from by omega, show b ≤ 48 from by omega, show ¬ b = 48 from by omega, show ¬ b = 44 from by omega, ints_wr1, gi_set]
end

section
set_option linter.all false
set_option maxRecDepth 100000
open Go Go.Proofs Jb
def f31_cf : Cfg := ⟨[2, 3], [(0, [0, 1, 5]), (1, [11, 12, 13, 14, 15, 16, 17, 18, 19, 20, 21, 22, 23, 24, 25, 26, 27, 28, 29, 30, 31, 32, 33, 34, 35, 36]), (2, [2, 3, 37, 38]), (3, [37, 39]), (4, [40, 41, 42, 43, 44, 45, 46, 47]), (5, [48, 49, 50, 51, 52, 53, 54, 55, 56]), (6, [57, 58, 59, 60, 61, 62, 63, 64, 65]), (7, [66, 67, 68, 69, 70, 71, 72, 73, 74, 75, 76, 77]), (8, [9, 78, 79, 80, 81, 82, 83, 84, 85, 86, 87, 88, 89, 90, 91, 92, 93, 94, 95, 96, 97, 98, 99, 100, 101, 102, 103, 104, 105]), (9, [2, 3, 6, 7, 8, 106, 107]), (10, [6, 106, 108, 109, 110, 111, 112, 113, 114, 115, 116]), (11, [117, 118, 119, 120, 121, 122, 123, 124, 125]), (12, [126, 127, 128, 129, 130, 131, 132, 133, 134]), (13, [135, 136, 137, 138, 139, 140, 141, 142, 143]), (14, [144]), (15, [7, 145, 146, 147, 148, 149]), (16, [3, 8, 10, 150, 151, 152, 153, 154]), (17, [2, 155])]⟩
noncomputable def f31_b : Code := bodyOf Try.f31
noncomputable def f31_n : Code :=  (codeAt [] f31_b)
noncomputable def f31_n1 : Code := hide (codeAt [1] f31_b)
noncomputable def f31_n10 : Code := hide (codeAt [1, 0] f31_b)
noncomputable def f31_n100 : Code := hide (codeAt [1, 0, 0] f31_b)
noncomputable def f31_n101 : Code := hide (codeAt [1, 0, 1] f31_b)
noncomputable def f31_n11 : Code := hide (codeAt [1, 1] f31_b)
theorem f31_entry (t : List Int) (d : List Int) (h : Heap) (K : V → Heap → Prop) : bodyW Try.prog f31_cf Try.f31 [(V.agg (ints t)), (V.agg (ints d))] h K = wpA Try.prog f31_cf f31_n ⟨[(V.agg (ints t)), (V.agg (ints d)), V.undef, V.undef, V.undef, V.undef, V.undef, V.undef, V.undef, V.undef, V.undef, V.undef, V.undef, V.undef, V.undef, V.undef, V.undef, V.undef, V.undef, V.undef, V.undef, V.undef, V.undef, V.undef, V.undef, V.undef, V.undef, V.undef, V.undef, V.undef, V.undef, V.undef, V.undef, V.undef, V.undef, V.undef, V.undef, V.undef, V.undef, V.undef, V.undef, V.undef, V.undef, V.undef, V.undef, V.undef, V.undef, V.undef, V.undef, V.undef, V.undef, V.undef, V.undef, V.undef, V.undef, V.undef, V.undef, V.undef, V.undef, V.undef, V.undef, V.undef, V.undef, V.undef, V.undef, V.undef, V.undef, V.undef, V.undef, V.undef, V.undef, V.undef, V.undef, V.undef, V.undef, V.undef, V.undef, V.undef, V.undef, V.undef, V.undef, V.undef, V.undef, V.undef, V.undef, V.undef, V.undef, V.undef, V.undef, V.undef, V.undef, V.undef, V.undef, V.undef, V.undef, V.undef, V.undef, V.undef, V.undef, V.undef, V.undef, V.undef, V.undef, V.undef, V.undef, V.undef, V.undef, V.undef, V.undef, V.undef, V.undef, V.undef, V.undef, V.undef, V.undef, V.undef, V.undef, V.undef, V.undef, V.undef, V.undef, V.undef, V.undef, V.undef, V.undef, V.undef, V.undef, V.undef, V.undef, V.undef, V.undef, V.undef, V.undef, V.undef, V.undef, V.undef, V.undef, V.undef, V.undef, V.undef, V.undef, V.undef, V.undef, V.undef, V.undef, V.undef, V.undef, V.undef, V.undef, V.undef, V.undef, V.undef, V.undef, V.undef, V.undef, V.undef], []⟩ h (bodyK Try.prog Try.f31 K) := by kernel_rfl
theorem f31_n_plug : f31_n = (plug [1] (codeAt [] f31_b) f31_n1) := by
  simp only [f31_n, f31_n1, hide_eq]
  try kernel_rfl
theorem f31_n_wp (t : List Int) (d : List Int) (h : Heap) (Q : Ex → Fr → Heap → Prop) : wpA Try.prog f31_cf f31_n ⟨[(V.agg (ints t)), (V.agg (ints d)), V.undef, V.undef, V.undef, V.undef, V.undef, V.undef, V.undef, V.undef, V.undef, V.undef, V.undef, V.undef, V.undef, V.undef, V.undef, V.undef, V.undef, V.undef, V.undef, V.undef, V.undef, V.undef, V.undef, V.undef, V.undef, V.undef, V.undef, V.undef, V.undef, V.undef, V.undef, V.undef, V.undef, V.undef, V.undef, V.undef, V.undef, V.undef, V.undef, V.undef, V.undef, V.undef, V.undef, V.undef, V.undef, V.undef, V.undef, V.undef, V.undef, V.undef, V.undef, V.undef, V.undef, V.undef, V.undef, V.undef, V.undef, V.undef, V.undef, V.undef, V.undef, V.undef, V.undef, V.undef, V.undef, V.undef, V.undef, V.undef, V.undef, V.undef, V.undef, V.undef, V.undef, V.undef, V.undef, V.undef, V.undef, V.undef, V.undef, V.undef, V.undef, V.undef, V.undef, V.undef, V.undef, V.undef, V.undef, V.undef, V.undef, V.undef, V.undef, V.undef, V.undef, V.undef, V.undef, V.undef, V.undef, V.undef, V.undef, V.undef, V.undef, V.undef, V.undef, V.undef, V.undef, V.undef, V.undef, V.undef, V.undef, V.undef, V.undef, V.undef, V.undef, V.undef, V.undef, V.undef, V.undef, V.undef, V.undef, V.undef, V.undef, V.undef, V.undef, V.undef, V.undef, V.undef, V.undef, V.undef, V.undef, V.undef, V.undef, V.undef, V.undef, V.undef, V.undef, V.undef, V.undef, V.undef, V.undef, V.undef, V.undef, V.undef, V.undef, V.undef, V.undef, V.undef, V.undef, V.undef, V.undef, V.undef, V.undef, V.undef, V.undef, V.undef], []⟩ h Q =
 (((List.length (ints t)) = 49) ∧ (∀ lz1 : Nat, h lz1 = none → (let hz2 : Heap := (Heap.upd h lz1 (Ob.cells (ints t)));
 (((List.length (ints d)) = 8) ∧ (∀ lz3 : Nat, hz2 lz3 = none → (let hz4 : Heap := (Heap.upd hz2 lz3 (Ob.cells (ints d)));
 (True ∧ (wpA Try.prog f31_cf f31_n1 ⟨[V.undef, V.undef, (V.ptr lz1 0), (V.ptr lz3 0), (V.lp 4 0), V.undef, V.undef, V.undef, V.undef, V.undef, V.undef, V.undef, V.undef, V.undef, V.undef, V.undef, V.undef, V.undef, V.undef, V.undef, V.undef, V.undef, V.undef, V.undef, V.undef, V.undef, V.undef, V.undef, V.undef, V.undef, V.undef, V.undef, V.undef, V.undef, V.undef, V.undef, V.undef, V.undef, V.undef, V.undef, V.undef, V.undef, V.undef, V.undef, V.undef, V.undef, V.undef, V.undef, V.undef, V.undef, V.undef, V.undef, V.undef, V.undef, V.undef, V.undef, V.undef, V.undef, V.undef, V.undef, V.undef, V.undef, V.undef, V.undef, V.undef, V.undef, V.undef, V.undef, V.undef, V.undef, V.undef, V.undef, V.undef, V.undef, V.undef, V.undef, V.undef, V.undef, V.undef, V.undef, V.undef, V.undef, V.undef, V.undef, V.undef, V.undef, V.undef, V.undef, V.undef, V.undef, V.undef, V.undef, V.undef, V.undef, V.undef, V.undef, V.undef, V.undef, V.undef, V.undef, V.undef, V.undef, V.undef, V.undef, V.undef, V.undef, V.undef, V.undef, V.undef, V.undef, V.undef, V.undef, V.undef, V.undef, V.undef, V.undef, V.undef, V.undef, V.undef, V.undef, V.undef, V.undef, V.undef, V.undef, V.undef, V.undef, V.undef, V.undef, V.undef, V.undef, V.undef, V.undef, V.undef, V.undef, V.undef, V.undef, V.undef, V.undef, V.undef, V.undef, V.undef, V.undef, V.undef, V.undef, V.undef, V.undef, V.undef, V.undef, V.undef, V.undef, V.undef, V.undef, V.undef, V.undef, V.undef, V.undef], [(4, [(V.int Go.IntKind.i64 (0 : Int)), (V.int Go.IntKind.i64 (0 : Int)), (V.int Go.IntKind.i64 (0 : Int)), (V.int Go.IntKind.i64 (0 : Int)), (V.int Go.IntKind.i64 (0 : Int)), (V.int Go.IntKind.i64 (0 : Int)), (V.int Go.IntKind.i64 (0 : Int)), (V.int Go.IntKind.i64 (0 : Int)), (V.int Go.IntKind.i64 (0 : Int)), (V.int Go.IntKind.i64 (0 : Int)), (V.int Go.IntKind.i64 (0 : Int)), (V.int Go.IntKind.i64 (0 : Int)), (V.int Go.IntKind.i64 (0 : Int)), (V.int Go.IntKind.i64 (0 : Int)), (V.int Go.IntKind.i64 (0 : Int)), (V.int Go.IntKind.i64 (0 : Int)), (V.int Go.IntKind.i64 (0 : Int)), (V.int Go.IntKind.i64 (0 : Int)), (V.int Go.IntKind.i64 (0 : Int)), (V.int Go.IntKind.i64 (0 : Int)), (V.int Go.IntKind.i64 (0 : Int)), (V.int Go.IntKind.i64 (0 : Int)), (V.int Go.IntKind.i64 (0 : Int)), (V.int Go.IntKind.i64 (0 : Int)), (V.int Go.IntKind.i64 (0 : Int)), (V.int Go.IntKind.i64 (0 : Int)), (V.int Go.IntKind.i64 (0 : Int)), (V.int Go.IntKind.i64 (0 : Int)), (V.int Go.IntKind.i64 (0 : Int)), (V.int Go.IntKind.i64 (0 : Int)), (V.int Go.IntKind.i64 (0 : Int)), (V.int Go.IntKind.i64 (0 : Int)), (V.int Go.IntKind.i64 (0 : Int)), (V.int Go.IntKind.i64 (0 : Int)), (V.int Go.IntKind.i64 (0 : Int)), (V.int Go.IntKind.i64 (0 : Int)), (V.int Go.IntKind.i64 (0 : Int)), (V.int Go.IntKind.i64 (0 : Int)), (V.int Go.IntKind.i64 (0 : Int)), (V.int Go.IntKind.i64 (0 : Int)), (V.int Go.IntKind.i64 (0 : Int)), (V.int Go.IntKind.i64 (0 : Int)), (V.int Go.IntKind.i64 (0 : Int)), (V.int Go.IntKind.i64 (0 : Int)), (V.int Go.IntKind.i64 (0 : Int)), (V.int Go.IntKind.i64 (0 : Int)), (V.int Go.IntKind.i64 (0 : Int)), (V.int Go.IntKind.i64 (0 : Int)), (V.int Go.IntKind.i64 (0 : Int))])]⟩ hz4 Q)))))))) := wpA_at f31_n_plug (by kernel_rfl)
theorem f31_n1_eq : f31_n1 = Code.seq f31_n10 f31_n11 := by
  simp only [f31_n1, f31_n10, f31_n11, hide_eq]
  kernel_rfl
theorem f31_n10_eq : f31_n10 = Code.seq f31_n100 f31_n101 := by
  simp only [f31_n10, f31_n100, f31_n101, hide_eq]
  kernel_rfl
theorem f31_n100_plug : f31_n100 = (codeAt [1, 0, 0] f31_b) := by
  simp only [f31_n100, hide_eq]
  try kernel_rfl
theorem f31_n100_wp (l0 : Nat) (l1 : Nat) (c2 : List V) (h : Heap) (Q : Ex → Fr → Heap → Prop) : wpA Try.prog f31_cf f31_n100 ⟨[V.undef, V.undef, (V.ptr l0 0), (V.ptr l1 0), (V.lp 4 0), V.undef, V.undef, V.undef, V.undef, V.undef, V.undef, V.undef, V.undef, V.undef, V.undef, V.undef, V.undef, V.undef, V.undef, V.undef, V.undef, V.undef, V.undef, V.undef, V.undef, V.undef, V.undef, V.undef, V.undef, V.undef, V.undef, V.undef, V.undef, V.undef, V.undef, V.undef, V.undef, V.undef, V.undef, V.undef, V.undef, V.undef, V.undef, V.undef, V.undef, V.undef, V.undef, V.undef, V.undef, V.undef, V.undef, V.undef, V.undef, V.undef, V.undef, V.undef, V.undef, V.undef, V.undef, V.undef, V.undef, V.undef, V.undef, V.undef, V.undef, V.undef, V.undef, V.undef, V.undef, V.undef, V.undef, V.undef, V.undef, V.undef, V.undef, V.undef, V.undef, V.undef, V.undef, V.undef, V.undef, V.undef, V.undef, V.undef, V.undef, V.undef, V.undef, V.undef, V.undef, V.undef, V.undef, V.undef, V.undef, V.undef, V.undef, V.undef, V.undef, V.undef, V.undef, V.undef, V.undef, V.undef, V.undef, V.undef, V.undef, V.undef, V.undef, V.undef, V.undef, V.undef, V.undef, V.undef, V.undef, V.undef, V.undef, V.undef, V.undef, V.undef, V.undef, V.undef, V.undef, V.undef, V.undef, V.undef, V.undef, V.undef, V.undef, V.undef, V.undef, V.undef, V.undef, V.undef, V.undef, V.undef, V.undef, V.undef, V.undef, V.undef, V.undef, V.undef, V.undef, V.undef, V.undef, V.undef, V.undef, V.undef, V.undef, V.undef, V.undef, V.undef, V.undef, V.undef, V.undef, V.undef, V.undef, V.undef], [(4, c2)]⟩ h Q =
 ((0 < (List.length (cellsAt h l1)) ∧ V.isInt Go.IntKind.i64 (gv (cellsAt h l1) 0) = true) ∧ (let iz5 : Int := (V.num (gv (cellsAt h l1) 0));
 (AnyW Try.prog 32 [(V.int Go.IntKind.i64 iz5), (V.int Go.IntKind.i64 (1 : Int))] h (fun (rz6 : V) (hz7 : Heap) =>
 ((True ∧ V.isBool rz6 = true) ∧ (((!(!(V.flag rz6))) = true → (!(!(V.flag rz6))) = true) ∧ (((!(!(V.flag rz6))) = true → (1 < (List.length (cellsAt hz7 l1)) ∧ V.isInt Go.IntKind.i64 (gv (cellsAt hz7 l1) 1) = true)) ∧ (let iz8 : Int := (V.num (gv (cellsAt hz7 l1) 1));
 (let kz9 : Bool → Heap → Prop := fun (xz10 : Bool) (hz11 : Heap) =>
 (((!(!(V.flag rz6))) = true → (!(!(V.flag rz6))) = true) ∧ ((((!(V.flag rz6)) = false → (!(!(V.flag rz6))) = true) ∧ True) ∧ (let bz12 : Bool := (cond (!(V.flag rz6)) true (!xz10));
 (((!bz12) = true → (!bz12) = true) ∧ (((!bz12) = true → (2 < (List.length (cellsAt hz11 l1)) ∧ V.isInt Go.IntKind.i64 (gv (cellsAt hz11 l1) 2) = true)) ∧ (let iz13 : Int := (V.num (gv (cellsAt hz11 l1) 2));
 (((!bz12) = true → (!bz12) = true) ∧ (((!bz12) = true → (3 < (List.length (cellsAt hz11 l1)) ∧ V.isInt Go.IntKind.i64 (gv (cellsAt hz11 l1) 3) = true)) ∧ (let iz14 : Int := (V.num (gv (cellsAt hz11 l1) 3));
 (((!bz12) = true → (!bz12) = true) ∧ (((!bz12) = true → (4 < (List.length (cellsAt hz11 l1)) ∧ V.isInt Go.IntKind.i64 (gv (cellsAt hz11 l1) 4) = true)) ∧ (let iz15 : Int := (V.num (gv (cellsAt hz11 l1) 4));
 (((!bz12) = true → (!bz12) = true) ∧ (((!bz12) = true → (5 < (List.length (cellsAt hz11 l1)) ∧ V.isInt Go.IntKind.i64 (gv (cellsAt hz11 l1) 5) = true)) ∧ (let iz16 : Int := (V.num (gv (cellsAt hz11 l1) 5));
 (((!bz12) = true → (!bz12) = true) ∧ (((!bz12) = true → (6 < (List.length (cellsAt hz11 l1)) ∧ V.isInt Go.IntKind.i64 (gv (cellsAt hz11 l1) 6) = true)) ∧ (let iz17 : Int := (V.num (gv (cellsAt hz11 l1) 6));
 (((!bz12) = true → (!bz12) = true) ∧ (((!bz12) = true → (7 < (List.length (cellsAt hz11 l1)) ∧ V.isInt Go.IntKind.i64 (gv (cellsAt hz11 l1) 7) = true)) ∧ (let iz18 : Int := (V.num (gv (cellsAt hz11 l1) 7));
 (((!bz12) = true → (!bz12) = true) ∧ (((!bz12) = true → (!bz12) = true) ∧ (((!bz12) = true → (!bz12) = true) ∧ (((!bz12) = true → (!bz12) = true) ∧ (((!bz12) = true → (!bz12) = true) ∧ (((!bz12) = true → (!bz12) = true) ∧ (((!bz12) = true → (True ∧ (True ∧ (True ∧ (True ∧ (True ∧ (True ∧ True))))))) ∧ (let kz19 : Bool → Heap → Prop := fun (xz20 : Bool) (hz21 : Heap) =>
 (((!bz12) = true → (!bz12) = true) ∧ (((bz12 = false → (!bz12) = true) ∧ True) ∧ (Q Ex.normal ⟨[V.undef, V.undef, (V.ptr l0 0), (V.ptr l1 0), (V.lp 4 0), V.undef, V.undef, V.undef, V.undef, V.undef, V.undef, V.undef, V.undef, V.undef, V.undef, V.undef, V.undef, V.undef, V.undef, V.undef, V.undef, V.undef, V.undef, V.undef, V.undef, V.undef, V.undef, V.undef, V.undef, V.undef, V.undef, V.undef, V.undef, V.undef, V.undef, V.undef, V.undef, (V.bool (cond bz12 true (!xz20))), V.undef, V.undef, V.undef, V.undef, V.undef, V.undef, V.undef, V.undef, V.undef, V.undef, V.undef, V.undef, V.undef, V.undef, V.undef, V.undef, V.undef, V.undef, V.undef, V.undef, V.undef, V.undef, V.undef, V.undef, V.undef, V.undef, V.undef, V.undef, V.undef, V.undef, V.undef, V.undef, V.undef, V.undef, V.undef, V.undef, V.undef, V.undef, V.undef, V.undef, V.undef, V.undef, V.undef, V.undef, V.undef, V.undef, V.undef, V.undef, V.undef, V.undef, V.undef, V.undef, V.undef, V.undef, V.undef, V.undef, V.undef, V.undef, V.undef, V.undef, V.undef, V.undef, V.undef, V.undef, V.undef, V.undef, V.undef, V.undef, V.undef, V.undef, V.undef, V.undef, V.undef, V.undef, V.undef, V.undef, V.undef, V.undef, V.undef, V.undef, V.undef, V.undef, V.undef, V.undef, V.undef, V.undef, V.undef, V.undef, V.undef, V.undef, V.undef, V.undef, V.undef, V.undef, V.undef, V.undef, V.undef, V.undef, V.undef, V.undef, V.undef, V.undef, V.undef, V.undef, V.undef, V.undef, V.undef, V.undef, V.undef, V.undef, V.undef, V.undef, V.undef, V.undef, V.undef, V.undef, V.undef, V.undef], [(4, c2)]⟩ hz21)));
 brW (!bz12)
 (((!bz12) = true) ∧ (AnyW Try.prog 24 [(V.sl 1 [[(V.int Go.IntKind.i64 iz13)], [(V.int Go.IntKind.i64 iz14)], [(V.int Go.IntKind.i64 iz15)], [(V.int Go.IntKind.i64 iz16)], [(V.int Go.IntKind.i64 iz17)], [(V.int Go.IntKind.i64 iz18)]] G.full)] hz11 (fun (rz22 : V) (hz23 : Heap) =>
 ((True ∧ V.isBool rz22 = true) ∧ (kz19 (V.flag rz22) hz23)))))
 (kz19 false hz11))))))))))))))))))))))))))))));
 brW (!(!(V.flag rz6)))
 (((!(!(V.flag rz6))) = true) ∧ (AnyW Try.prog 32 [(V.int Go.IntKind.i64 iz8), (V.int Go.IntKind.i64 (1 : Int))] hz7 (fun (rz24 : V) (hz25 : Heap) =>
 ((True ∧ V.isBool rz24 = true) ∧ (kz9 (V.flag rz24) hz25)))))
 (kz9 false hz7)))))))))) := wpA_at f31_n100_plug (by kernel_rfl)
theorem f31_n101_plug : f31_n101 = (codeAt [1, 0, 1] f31_b) := by
  simp only [f31_n101, hide_eq]
  try kernel_rfl
theorem f31_n101_wp (l0 : Nat) (l1 : Nat) (b2 : Bool) (c3 : List V) (h : Heap) (Q : Ex → Fr → Heap → Prop) : wpA Try.prog f31_cf f31_n101 ⟨[V.undef, V.undef, (V.ptr l0 0), (V.ptr l1 0), (V.lp 4 0), V.undef, V.undef, V.undef, V.undef, V.undef, V.undef, V.undef, V.undef, V.undef, V.undef, V.undef, V.undef, V.undef, V.undef, V.undef, V.undef, V.undef, V.undef, V.undef, V.undef, V.undef, V.undef, V.undef, V.undef, V.undef, V.undef, V.undef, V.undef, V.undef, V.undef, V.undef, V.undef, (V.bool b2), V.undef, V.undef, V.undef, V.undef, V.undef, V.undef, V.undef, V.undef, V.undef, V.undef, V.undef, V.undef, V.undef, V.undef, V.undef, V.undef, V.undef, V.undef, V.undef, V.undef, V.undef, V.undef, V.undef, V.undef, V.undef, V.undef, V.undef, V.undef, V.undef, V.undef, V.undef, V.undef, V.undef, V.undef, V.undef, V.undef, V.undef, V.undef, V.undef, V.undef, V.undef, V.undef, V.undef, V.undef, V.undef, V.undef, V.undef, V.undef, V.undef, V.undef, V.undef, V.undef, V.undef, V.undef, V.undef, V.undef, V.undef, V.undef, V.undef, V.undef, V.undef, V.undef, V.undef, V.undef, V.undef, V.undef, V.undef, V.undef, V.undef, V.undef, V.undef, V.undef, V.undef, V.undef, V.undef, V.undef, V.undef, V.undef, V.undef, V.undef, V.undef, V.undef, V.undef, V.undef, V.undef, V.undef, V.undef, V.undef, V.undef, V.undef, V.undef, V.undef, V.undef, V.undef, V.undef, V.undef, V.undef, V.undef, V.undef, V.undef, V.undef, V.undef, V.undef, V.undef, V.undef, V.undef, V.undef, V.undef, V.undef, V.undef, V.undef, V.undef, V.undef, V.undef, V.undef, V.undef, V.undef, V.undef], [(4, c3)]⟩ h Q =
 (brW b2
 ((0 + 49 ≤ (List.length (cellsAt h l0))) ∧ (let cz26 : List V := (List.take 49 (List.drop 0 (cellsAt h l0)));
 (((List.length cz26) = 49) ∧ 0 + 49 ≤ (List.length c3) ∧ (Q Ex.ret ⟨[V.undef, V.undef, V.undef, V.undef, (V.lp 4 0), (V.int Go.IntKind.i64 (2 : Int)), V.undef, V.undef, V.undef, V.undef, V.undef, V.undef, V.undef, V.undef, V.undef, V.undef, V.undef, V.undef, V.undef, V.undef, V.undef, V.undef, V.undef, V.undef, V.undef, V.undef, V.undef, V.undef, V.undef, V.undef, V.undef, V.undef, V.undef, V.undef, V.undef, V.undef, V.undef, V.undef, V.undef, V.undef, V.undef, V.undef, V.undef, V.undef, V.undef, V.undef, V.undef, V.undef, V.undef, V.undef, V.undef, V.undef, V.undef, V.undef, V.undef, V.undef, V.undef, V.undef, V.undef, V.undef, V.undef, V.undef, V.undef, V.undef, V.undef, V.undef, V.undef, V.undef, V.undef, V.undef, V.undef, V.undef, V.undef, V.undef, V.undef, V.undef, V.undef, V.undef, V.undef, V.undef, V.undef, V.undef, V.undef, V.undef, V.undef, V.undef, V.undef, V.undef, V.undef, V.undef, V.undef, V.undef, V.undef, V.undef, V.undef, V.undef, V.undef, V.undef, V.undef, V.undef, V.undef, V.undef, V.undef, V.undef, V.undef, V.undef, V.undef, V.undef, V.undef, V.undef, V.undef, V.undef, V.undef, V.undef, V.undef, V.undef, V.undef, V.undef, V.undef, V.undef, V.undef, V.undef, V.undef, V.undef, V.undef, V.undef, V.undef, V.undef, V.undef, V.undef, V.undef, V.undef, V.undef, V.undef, V.undef, V.undef, V.undef, V.undef, V.undef, V.undef, V.undef, V.undef, V.undef, V.undef, V.undef, V.undef, V.undef, V.undef, V.undef, V.undef, V.undef, V.undef, V.undef, V.undef, V.undef, V.undef], [(4, (wrCells c3 0 cz26))]⟩ h))))
 (Q Ex.normal ⟨[V.undef, V.undef, (V.ptr l0 0), (V.ptr l1 0), (V.lp 4 0), V.undef, V.undef, V.undef, V.undef, V.undef, V.undef, V.undef, V.undef, V.undef, V.undef, V.undef, V.undef, V.undef, V.undef, V.undef, V.undef, V.undef, V.undef, V.undef, V.undef, V.undef, V.undef, V.undef, V.undef, V.undef, V.undef, V.undef, V.undef, V.undef, V.undef, V.undef, V.undef, (V.bool b2), V.undef, V.undef, V.undef, V.undef, V.undef, V.undef, V.undef, V.undef, V.undef, V.undef, V.undef, V.undef, V.undef, V.undef, V.undef, V.undef, V.undef, V.undef, V.undef, V.undef, V.undef, V.undef, V.undef, V.undef, V.undef, V.undef, V.undef, V.undef, V.undef, V.undef, V.undef, V.undef, V.undef, V.undef, V.undef, V.undef, V.undef, V.undef, V.undef, V.undef, V.undef, V.undef, V.undef, V.undef, V.undef, V.undef, V.undef, V.undef, V.undef, V.undef, V.undef, V.undef, V.undef, V.undef, V.undef, V.undef, V.undef, V.undef, V.undef, V.undef, V.undef, V.undef, V.undef, V.undef, V.undef, V.undef, V.undef, V.undef, V.undef, V.undef, V.undef, V.undef, V.undef, V.undef, V.undef, V.undef, V.undef, V.undef, V.undef, V.undef, V.undef, V.undef, V.undef, V.undef, V.undef, V.undef, V.undef, V.undef, V.undef, V.undef, V.undef, V.undef, V.undef, V.undef, V.undef, V.undef, V.undef, V.undef, V.undef, V.undef, V.undef, V.undef, V.undef, V.undef, V.undef, V.undef, V.undef, V.undef, V.undef, V.undef, V.undef, V.undef, V.undef, V.undef, V.undef, V.undef, V.undef, V.undef], [(4, c3)]⟩ h)) := wpA_at f31_n101_plug (by kernel_rfl)
theorem f31_n11_plug : f31_n11 = (codeAt [1, 1] f31_b) := by
  simp only [f31_n11, hide_eq]
  try kernel_rfl
theorem f31_n11_wp (l0 : Nat) (l1 : Nat) (b2 : Bool) (c3 : List V) (h : Heap) (Q : Ex → Fr → Heap → Prop) : wpA Try.prog f31_cf f31_n11 ⟨[V.undef, V.undef, (V.ptr l0 0), (V.ptr l1 0), (V.lp 4 0), V.undef, V.undef, V.undef, V.undef, V.undef, V.undef, V.undef, V.undef, V.undef, V.undef, V.undef, V.undef, V.undef, V.undef, V.undef, V.undef, V.undef, V.undef, V.undef, V.undef, V.undef, V.undef, V.undef, V.undef, V.undef, V.undef, V.undef, V.undef, V.undef, V.undef, V.undef, V.undef, (V.bool b2), V.undef, V.undef, V.undef, V.undef, V.undef, V.undef, V.undef, V.undef, V.undef, V.undef, V.undef, V.undef, V.undef, V.undef, V.undef, V.undef, V.undef, V.undef, V.undef, V.undef, V.undef, V.undef, V.undef, V.undef, V.undef, V.undef, V.undef, V.undef, V.undef, V.undef, V.undef, V.undef, V.undef, V.undef, V.undef, V.undef, V.undef, V.undef, V.undef, V.undef, V.undef, V.undef, V.undef, V.undef, V.undef, V.undef, V.undef, V.undef, V.undef, V.undef, V.undef, V.undef, V.undef, V.undef, V.undef, V.undef, V.undef, V.undef, V.undef, V.undef, V.undef, V.undef, V.undef, V.undef, V.undef, V.undef, V.undef, V.undef, V.undef, V.undef, V.undef, V.undef, V.undef, V.undef, V.undef, V.undef, V.undef, V.undef, V.undef, V.undef, V.undef, V.undef, V.undef, V.undef, V.undef, V.undef, V.undef, V.undef, V.undef, V.undef, V.undef, V.undef, V.undef, V.undef, V.undef, V.undef, V.undef, V.undef, V.undef, V.undef, V.undef, V.undef, V.undef, V.undef, V.undef, V.undef, V.undef, V.undef, V.undef, V.undef, V.undef, V.undef, V.undef, V.undef, V.undef, V.undef, V.undef, V.undef], [(4, c3)]⟩ h Q =
 ((0 + 49 ≤ (List.length (cellsAt h l0))) ∧ (let cz27 : List V := (List.take 49 (List.drop 0 (cellsAt h l0)));
 (True ∧ (((List.length cz27) = 49) ∧ 0 + 49 ≤ 49 ∧ (let cz28 : List V := (wrCells [(V.int Go.IntKind.i64 (0 : Int)), (V.int Go.IntKind.i64 (0 : Int)), (V.int Go.IntKind.i64 (0 : Int)), (V.int Go.IntKind.i64 (0 : Int)), (V.int Go.IntKind.i64 (0 : Int)), (V.int Go.IntKind.i64 (0 : Int)), (V.int Go.IntKind.i64 (0 : Int)), (V.int Go.IntKind.i64 (0 : Int)), (V.int Go.IntKind.i64 (0 : Int)), (V.int Go.IntKind.i64 (0 : Int)), (V.int Go.IntKind.i64 (0 : Int)), (V.int Go.IntKind.i64 (0 : Int)), (V.int Go.IntKind.i64 (0 : Int)), (V.int Go.IntKind.i64 (0 : Int)), (V.int Go.IntKind.i64 (0 : Int)), (V.int Go.IntKind.i64 (0 : Int)), (V.int Go.IntKind.i64 (0 : Int)), (V.int Go.IntKind.i64 (0 : Int)), (V.int Go.IntKind.i64 (0 : Int)), (V.int Go.IntKind.i64 (0 : Int)), (V.int Go.IntKind.i64 (0 : Int)), (V.int Go.IntKind.i64 (0 : Int)), (V.int Go.IntKind.i64 (0 : Int)), (V.int Go.IntKind.i64 (0 : Int)), (V.int Go.IntKind.i64 (0 : Int)), (V.int Go.IntKind.i64 (0 : Int)), (V.int Go.IntKind.i64 (0 : Int)), (V.int Go.IntKind.i64 (0 : Int)), (V.int Go.IntKind.i64 (0 : Int)), (V.int Go.IntKind.i64 (0 : Int)), (V.int Go.IntKind.i64 (0 : Int)), (V.int Go.IntKind.i64 (0 : Int)), (V.int Go.IntKind.i64 (0 : Int)), (V.int Go.IntKind.i64 (0 : Int)), (V.int Go.IntKind.i64 (0 : Int)), (V.int Go.IntKind.i64 (0 : Int)), (V.int Go.IntKind.i64 (0 : Int)), (V.int Go.IntKind.i64 (0 : Int)), (V.int Go.IntKind.i64 (0 : Int)), (V.int Go.IntKind.i64 (0 : Int)), (V.int Go.IntKind.i64 (0 : Int)), (V.int Go.IntKind.i64 (0 : Int)), (V.int Go.IntKind.i64 (0 : Int)), (V.int Go.IntKind.i64 (0 : Int)), (V.int Go.IntKind.i64 (0 : Int)), (V.int Go.IntKind.i64 (0 : Int)), (V.int Go.IntKind.i64 (0 : Int)), (V.int Go.IntKind.i64 (0 : Int)), (V.int Go.IntKind.i64 (0 : Int))] 0 cz27);
 ((0 < (List.length (cellsAt h l1)) ∧ V.isInt Go.IntKind.i64 (gv (cellsAt h l1) 0) = true) ∧ (let iz29 : Int := (V.num (gv (cellsAt h l1) 0));
 ((0 ≤ iz29 ∧ iz29 < 8) ∧ ((1 < (List.length (cellsAt h l1)) ∧ V.isInt Go.IntKind.i64 (gv (cellsAt h l1) 1) = true) ∧ (let iz30 : Int := (V.num (gv (cellsAt h l1) 1));
 ((0 ≤ iz30 ∧ iz30 < 8) ∧ ((((0 + ((Int.toNat iz29) * 6)) + 2) < (List.length (cellsAt h l0)) ∧ V.isInt Go.IntKind.i64 (gv (cellsAt h l0) ((0 + ((Int.toNat iz29) * 6)) + 2)) = true) ∧ (let iz31 : Int := (V.num (gv (cellsAt h l0) ((0 + ((Int.toNat iz29) * 6)) + 2)));
 ((4 < (List.length (cellsAt h l1)) ∧ V.isInt Go.IntKind.i64 (gv (cellsAt h l1) 4) = true) ∧ (let iz32 : Int := (V.num (gv (cellsAt h l1) 4));
 (let iz33 : Int := (Go.IntKind.wrap Go.IntKind.i64 (iz31 - iz32));
 (True ∧ ((0 + ((Int.toNat iz29) * 6)) + 2) + 1 ≤ (List.length (cellsAt h l0)) ∧ (let hz34 : Heap := (Heap.upd h l0 (Ob.cells (wrCells (cellsAt h l0) ((0 + ((Int.toNat iz29) * 6)) + 2) [(V.int Go.IntKind.i64 iz33)])));
 ((((0 + ((Int.toNat iz30) * 6)) + 3) < (List.length (cellsAt hz34 l0)) ∧ V.isInt Go.IntKind.i64 (gv (cellsAt hz34 l0) ((0 + ((Int.toNat iz30) * 6)) + 3)) = true) ∧ (let iz35 : Int := (V.num (gv (cellsAt hz34 l0) ((0 + ((Int.toNat iz30) * 6)) + 3)));
 ((5 < (List.length (cellsAt hz34 l1)) ∧ V.isInt Go.IntKind.i64 (gv (cellsAt hz34 l1) 5) = true) ∧ (let iz36 : Int := (V.num (gv (cellsAt hz34 l1) 5));
 (let iz37 : Int := (Go.IntKind.wrap Go.IntKind.i64 (iz35 - iz36));
 (True ∧ ((0 + ((Int.toNat iz30) * 6)) + 3) + 1 ≤ (List.length (cellsAt hz34 l0)) ∧ (let hz38 : Heap := (Heap.upd hz34 l0 (Ob.cells (wrCells (cellsAt hz34 l0) ((0 + ((Int.toNat iz30) * 6)) + 3) [(V.int Go.IntKind.i64 iz37)])));
 ((((0 + ((Int.toNat iz29) * 6)) + 2) < (List.length (cellsAt hz38 l0)) ∧ V.isInt Go.IntKind.i64 (gv (cellsAt hz38 l0) ((0 + ((Int.toNat iz29) * 6)) + 2)) = true) ∧ (let iz39 : Int := (V.num (gv (cellsAt hz38 l0) ((0 + ((Int.toNat iz29) * 6)) + 2)));
 (let bz40 : Bool := (decide (iz39 < (0 : Int)));
 (((!bz40) = true → (!bz40) = true) ∧ (((!bz40) = true → (!bz40) = true) ∧ (((!bz40) = true → (!bz40) = true) ∧ (((!bz40) = true → (((0 + ((Int.toNat iz30) * 6)) + 3) < (List.length (cellsAt hz38 l0)) ∧ V.isInt Go.IntKind.i64 (gv (cellsAt hz38 l0) ((0 + ((Int.toNat iz30) * 6)) + 3)) = true)) ∧ (let iz41 : Int := (V.num (gv (cellsAt hz38 l0) ((0 + ((Int.toNat iz30) * 6)) + 3)));
 (((!bz40) = true → (!bz40) = true) ∧ (let bz42 : Bool := (decide (iz41 < (0 : Int)));
 (((bz40 = false → (!bz40) = true) ∧ True) ∧ (((!(cond bz40 true bz42)) = true → (!(cond bz40 true bz42)) = true) ∧ (((!(cond bz40 true bz42)) = true → (!(cond bz40 true bz42)) = true) ∧ (((!(cond bz40 true bz42)) = true → (!(cond bz40 true bz42)) = true) ∧ (((!(cond bz40 true bz42)) = true → (((0 + ((Int.toNat iz29) * 6)) + 0) < (List.length (cellsAt hz38 l0)) ∧ V.isInt Go.IntKind.i64 (gv (cellsAt hz38 l0) ((0 + ((Int.toNat iz29) * 6)) + 0)) = true)) ∧ (let iz43 : Int := (V.num (gv (cellsAt hz38 l0) ((0 + ((Int.toNat iz29) * 6)) + 0)));
 (((!(cond bz40 true bz42)) = true → (!(cond bz40 true bz42)) = true) ∧ (((!(cond bz40 true bz42)) = true → (!(cond bz40 true bz42)) = true) ∧ (((!(cond bz40 true bz42)) = true → (!(cond bz40 true bz42)) = true) ∧ (((!(cond bz40 true bz42)) = true → (((0 + ((Int.toNat iz29) * 6)) + 2) < (List.length (cellsAt hz38 l0)) ∧ V.isInt Go.IntKind.i64 (gv (cellsAt hz38 l0) ((0 + ((Int.toNat iz29) * 6)) + 2)) = true)) ∧ (let iz44 : Int := (V.num (gv (cellsAt hz38 l0) ((0 + ((Int.toNat iz29) * 6)) + 2)));
 (((!(cond bz40 true bz42)) = true → (!(cond bz40 true bz42)) = true) ∧ (((!(cond bz40 true bz42)) = true → (!(cond bz40 true bz42)) = true) ∧ (let iz45 : Int := (Go.IntKind.wrap Go.IntKind.i64 (iz43 - iz44));
 (((!(cond bz40 true bz42)) = true → (!(cond bz40 true bz42)) = true) ∧ (((!(cond bz40 true bz42)) = true → (2 < (List.length (cellsAt hz38 l1)) ∧ V.isInt Go.IntKind.i64 (gv (cellsAt hz38 l1) 2) = true)) ∧ (let iz46 : Int := (V.num (gv (cellsAt hz38 l1) 2));
 (((!(cond bz40 true bz42)) = true → (!(cond bz40 true bz42)) = true) ∧ (((!(cond bz40 true bz42)) = true → (!(cond bz40 true bz42)) = true) ∧ ((((cond bz40 true bz42) = false → (!(cond bz40 true bz42)) = true) ∧ True) ∧ (let bz47 : Bool := (cond (cond bz40 true bz42) true (decide (iz45 < iz46)));
 (((!bz47) = true → (!bz47) = true) ∧ (((!bz47) = true → (!bz47) = true) ∧ (((!bz47) = true → (!bz47) = true) ∧ (((!bz47) = true → (((0 + ((Int.toNat iz30) * 6)) + 1) < (List.length (cellsAt hz38 l0)) ∧ V.isInt Go.IntKind.i64 (gv (cellsAt hz38 l0) ((0 + ((Int.toNat iz30) * 6)) + 1)) = true)) ∧ (let iz48 : Int := (V.num (gv (cellsAt hz38 l0) ((0 + ((Int.toNat iz30) * 6)) + 1)));
 (((!bz47) = true → (!bz47) = true) ∧ (((!bz47) = true → (!bz47) = true) ∧ (((!bz47) = true → (!bz47) = true) ∧ (((!bz47) = true → (((0 + ((Int.toNat iz30) * 6)) + 3) < (List.length (cellsAt hz38 l0)) ∧ V.isInt Go.IntKind.i64 (gv (cellsAt hz38 l0) ((0 + ((Int.toNat iz30) * 6)) + 3)) = true)) ∧ (let iz49 : Int := (V.num (gv (cellsAt hz38 l0) ((0 + ((Int.toNat iz30) * 6)) + 3)));
 (((!bz47) = true → (!bz47) = true) ∧ (((!bz47) = true → (!bz47) = true) ∧ (let iz50 : Int := (Go.IntKind.wrap Go.IntKind.i64 (iz48 - iz49));
 (((!bz47) = true → (!bz47) = true) ∧ (((!bz47) = true → (3 < (List.length (cellsAt hz38 l1)) ∧ V.isInt Go.IntKind.i64 (gv (cellsAt hz38 l1) 3) = true)) ∧ (let iz51 : Int := (V.num (gv (cellsAt hz38 l1) 3));
 (((!bz47) = true → (!bz47) = true) ∧ (((!bz47) = true → (!bz47) = true) ∧ (((bz47 = false → (!bz47) = true) ∧ True) ∧ (let bz52 : Bool := (cond bz47 true (decide (iz50 < iz51)));
 (brW bz52
 ((0 + 49 ≤ (List.length cz28)) ∧ (let cz53 : List V := (List.take 49 (List.drop 0 cz28));
 (((List.length cz53) = 49) ∧ 0 + 49 ≤ (List.length c3) ∧ (Q Ex.ret ⟨[V.undef, V.undef, V.undef, V.undef, (V.lp 4 0), (V.int Go.IntKind.i64 (53 : Int)), V.undef, V.undef, V.undef, V.undef, V.undef, V.undef, V.undef, V.undef, V.undef, V.undef, V.undef, V.undef, V.undef, V.undef, V.undef, V.undef, V.undef, V.undef, V.undef, V.undef, V.undef, V.undef, V.undef, V.undef, V.undef, V.undef, V.undef, V.undef, V.undef, V.undef, V.undef, V.undef, V.undef, V.undef, V.undef, V.undef, V.undef, V.undef, V.undef, V.undef, V.undef, V.undef, V.undef, V.undef, V.undef, V.undef, V.undef, V.undef, V.undef, V.undef, V.undef, V.undef, V.undef, V.undef, V.undef, V.undef, V.undef, V.undef, V.undef, V.undef, V.undef, V.undef, V.undef, V.undef, V.undef, V.undef, V.undef, V.undef, V.undef, V.undef, V.undef, V.undef, V.undef, V.undef, V.undef, V.undef, V.undef, V.undef, V.undef, V.undef, V.undef, V.undef, V.undef, V.undef, V.undef, V.undef, V.undef, V.undef, V.undef, V.undef, V.undef, V.undef, V.undef, V.undef, V.undef, V.undef, V.undef, V.undef, V.undef, V.undef, V.undef, V.undef, V.undef, V.undef, V.undef, V.undef, V.undef, V.undef, V.undef, V.undef, V.undef, V.undef, V.undef, V.undef, V.undef, V.undef, V.undef, V.undef, V.undef, V.undef, V.undef, V.undef, V.undef, V.undef, V.undef, V.undef, V.undef, V.undef, V.undef, V.undef, V.undef, V.undef, V.undef, V.undef, V.undef, V.undef, V.undef, V.undef, V.undef, V.undef, V.undef, V.undef, V.undef, V.undef, V.undef, V.undef, V.undef, V.undef, V.undef, V.undef], [(4, (wrCells c3 0 cz53))]⟩ hz38))))
 ((((0 + ((Int.toNat iz29) * 6)) + 0) < (List.length (cellsAt hz38 l0)) ∧ V.isInt Go.IntKind.i64 (gv (cellsAt hz38 l0) ((0 + ((Int.toNat iz29) * 6)) + 0)) = true) ∧ (let iz54 : Int := (V.num (gv (cellsAt hz38 l0) ((0 + ((Int.toNat iz29) * 6)) + 0)));
 ((2 < (List.length (cellsAt hz38 l1)) ∧ V.isInt Go.IntKind.i64 (gv (cellsAt hz38 l1) 2) = true) ∧ (let iz55 : Int := (V.num (gv (cellsAt hz38 l1) 2));
 (let iz56 : Int := (Go.IntKind.wrap Go.IntKind.i64 (iz54 - iz55));
 (True ∧ ((0 + ((Int.toNat iz29) * 6)) + 0) + 1 ≤ (List.length (cellsAt hz38 l0)) ∧ (let hz57 : Heap := (Heap.upd hz38 l0 (Ob.cells (wrCells (cellsAt hz38 l0) ((0 + ((Int.toNat iz29) * 6)) + 0) [(V.int Go.IntKind.i64 iz56)])));
 ((((0 + ((Int.toNat iz30) * 6)) + 0) < (List.length (cellsAt hz57 l0)) ∧ V.isInt Go.IntKind.i64 (gv (cellsAt hz57 l0) ((0 + ((Int.toNat iz30) * 6)) + 0)) = true) ∧ (let iz58 : Int := (V.num (gv (cellsAt hz57 l0) ((0 + ((Int.toNat iz30) * 6)) + 0)));
 ((2 < (List.length (cellsAt hz57 l1)) ∧ V.isInt Go.IntKind.i64 (gv (cellsAt hz57 l1) 2) = true) ∧ (let iz59 : Int := (V.num (gv (cellsAt hz57 l1) 2));
 (let iz60 : Int := (Go.IntKind.wrap Go.IntKind.i64 (iz58 + iz59));
 (True ∧ ((0 + ((Int.toNat iz30) * 6)) + 0) + 1 ≤ (List.length (cellsAt hz57 l0)) ∧ (let hz61 : Heap := (Heap.upd hz57 l0 (Ob.cells (wrCells (cellsAt hz57 l0) ((0 + ((Int.toNat iz30) * 6)) + 0) [(V.int Go.IntKind.i64 iz60)])));
 ((((0 + ((Int.toNat iz30) * 6)) + 1) < (List.length (cellsAt hz61 l0)) ∧ V.isInt Go.IntKind.i64 (gv (cellsAt hz61 l0) ((0 + ((Int.toNat iz30) * 6)) + 1)) = true) ∧ (let iz62 : Int := (V.num (gv (cellsAt hz61 l0) ((0 + ((Int.toNat iz30) * 6)) + 1)));
 ((3 < (List.length (cellsAt hz61 l1)) ∧ V.isInt Go.IntKind.i64 (gv (cellsAt hz61 l1) 3) = true) ∧ (let iz63 : Int := (V.num (gv (cellsAt hz61 l1) 3));
 (let iz64 : Int := (Go.IntKind.wrap Go.IntKind.i64 (iz62 - iz63));
 (True ∧ ((0 + ((Int.toNat iz30) * 6)) + 1) + 1 ≤ (List.length (cellsAt hz61 l0)) ∧ (let hz65 : Heap := (Heap.upd hz61 l0 (Ob.cells (wrCells (cellsAt hz61 l0) ((0 + ((Int.toNat iz30) * 6)) + 1) [(V.int Go.IntKind.i64 iz64)])));
 ((((0 + ((Int.toNat iz29) * 6)) + 1) < (List.length (cellsAt hz65 l0)) ∧ V.isInt Go.IntKind.i64 (gv (cellsAt hz65 l0) ((0 + ((Int.toNat iz29) * 6)) + 1)) = true) ∧ (let iz66 : Int := (V.num (gv (cellsAt hz65 l0) ((0 + ((Int.toNat iz29) * 6)) + 1)));
 ((3 < (List.length (cellsAt hz65 l1)) ∧ V.isInt Go.IntKind.i64 (gv (cellsAt hz65 l1) 3) = true) ∧ (let iz67 : Int := (V.num (gv (cellsAt hz65 l1) 3));
 (let iz68 : Int := (Go.IntKind.wrap Go.IntKind.i64 (iz66 + iz67));
 (True ∧ ((0 + ((Int.toNat iz29) * 6)) + 1) + 1 ≤ (List.length (cellsAt hz65 l0)) ∧ (let hz69 : Heap := (Heap.upd hz65 l0 (Ob.cells (wrCells (cellsAt hz65 l0) ((0 + ((Int.toNat iz29) * 6)) + 1) [(V.int Go.IntKind.i64 iz68)])));
 ((6 < (List.length (cellsAt hz69 l1)) ∧ V.isInt Go.IntKind.i64 (gv (cellsAt hz69 l1) 6) = true) ∧ (let iz70 : Int := (V.num (gv (cellsAt hz69 l1) 6));
 (AnyW Try.prog 57 [(V.ptr l0 (0 + ((Int.toNat iz29) * 6))), (V.int Go.IntKind.i64 iz70), (V.ptr l1 0)] hz69 (fun (rz71 : V) (hz72 : Heap) =>
 (V.isTup 0 rz71 = true ∧ ((7 < (List.length (cellsAt hz72 l1)) ∧ V.isInt Go.IntKind.i64 (gv (cellsAt hz72 l1) 7) = true) ∧ (let iz73 : Int := (V.num (gv (cellsAt hz72 l1) 7));
 (AnyW Try.prog 57 [(V.ptr l0 (0 + ((Int.toNat iz30) * 6))), (V.int Go.IntKind.i64 iz73), (V.ptr l1 0)] hz72 (fun (rz74 : V) (hz75 : Heap) =>
 (V.isTup 0 rz74 = true ∧ ((0 + 49 ≤ (List.length (cellsAt hz75 l0))) ∧ (let cz76 : List V := (List.take 49 (List.drop 0 (cellsAt hz75 l0)));
 (((List.length cz76) = 49) ∧ 0 + 49 ≤ (List.length c3) ∧ (Q Ex.ret ⟨[V.undef, V.undef, V.undef, V.undef, (V.lp 4 0), (V.int Go.IntKind.i64 (0 : Int)), V.undef, V.undef, V.undef, V.undef, V.undef, V.undef, V.undef, V.undef, V.undef, V.undef, V.undef, V.undef, V.undef, V.undef, V.undef, V.undef, V.undef, V.undef, V.undef, V.undef, V.undef, V.undef, V.undef, V.undef, V.undef, V.undef, V.undef, V.undef, V.undef, V.undef, V.undef, V.undef, V.undef, V.undef, V.undef, V.undef, V.undef, V.undef, V.undef, V.undef, V.undef, V.undef, V.undef, V.undef, V.undef, V.undef, V.undef, V.undef, V.undef, V.undef, V.undef, V.undef, V.undef, V.undef, V.undef, V.undef, V.undef, V.undef, V.undef, V.undef, V.undef, V.undef, V.undef, V.undef, V.undef, V.undef, V.undef, V.undef, V.undef, V.undef, V.undef, V.undef, V.undef, V.undef, V.undef, V.undef, V.undef, V.undef, V.undef, V.undef, V.undef, V.undef, V.undef, V.undef, V.undef, V.undef, V.undef, V.undef, V.undef, V.undef, V.undef, V.undef, V.undef, V.undef, V.undef, V.undef, V.undef, V.undef, V.undef, V.undef, V.undef, V.undef, V.undef, V.undef, V.undef, V.undef, V.undef, V.undef, V.undef, V.undef, V.undef, V.undef, V.undef, V.undef, V.undef, V.undef, V.undef, V.undef, V.undef, V.undef, V.undef, V.undef, V.undef, V.undef, V.undef, V.undef, V.undef, V.undef, V.undef, V.undef, V.undef, V.undef, V.undef, V.undef, V.undef, V.undef, V.undef, V.undef, V.undef, V.undef, V.undef, V.undef, V.undef, V.undef, V.undef, V.undef, V.undef, V.undef, V.undef, V.undef], [(4, (wrCells c3 0 cz76))]⟩ hz75))))))))))))))))))))))))))))))))))))))))))))))))))))))))))))))))))))))))))))))))))))))))))))))))))))))))))))))))))))))) := wpA_at f31_n11_plug (by kernel_rfl)
theorem f31_end1 (x0 : Int) (c1 : List V) (h : Heap) (K : V → Heap → Prop) : bodyK Try.prog Try.f31 K Ex.ret ⟨[V.undef, V.undef, V.undef, V.undef, (V.lp 4 0), (V.int Go.IntKind.i64 x0), V.undef, V.undef, V.undef, V.undef, V.undef, V.undef, V.undef, V.undef, V.undef, V.undef, V.undef, V.undef, V.undef, V.undef, V.undef, V.undef, V.undef, V.undef, V.undef, V.undef, V.undef, V.undef, V.undef, V.undef, V.undef, V.undef, V.undef, V.undef, V.undef, V.undef, V.undef, V.undef, V.undef, V.undef, V.undef, V.undef, V.undef, V.undef, V.undef, V.undef, V.undef, V.undef, V.undef, V.undef, V.undef, V.undef, V.undef, V.undef, V.undef, V.undef, V.undef, V.undef, V.undef, V.undef, V.undef, V.undef, V.undef, V.undef, V.undef, V.undef, V.undef, V.undef, V.undef, V.undef, V.undef, V.undef, V.undef, V.undef, V.undef, V.undef, V.undef, V.undef, V.undef, V.undef, V.undef, V.undef, V.undef, V.undef, V.undef, V.undef, V.undef, V.undef, V.undef, V.undef, V.undef, V.undef, V.undef, V.undef, V.undef, V.undef, V.undef, V.undef, V.undef, V.undef, V.undef, V.undef, V.undef, V.undef, V.undef, V.undef, V.undef, V.undef, V.undef, V.undef, V.undef, V.undef, V.undef, V.undef, V.undef, V.undef, V.undef, V.undef, V.undef, V.undef, V.undef, V.undef, V.undef, V.undef, V.undef, V.undef, V.undef, V.undef, V.undef, V.undef, V.undef, V.undef, V.undef, V.undef, V.undef, V.undef, V.undef, V.undef, V.undef, V.undef, V.undef, V.undef, V.undef, V.undef, V.undef, V.undef, V.undef, V.undef, V.undef, V.undef, V.undef, V.undef, V.undef, V.undef, V.undef, V.undef], [(4, c1)]⟩ h = ((0 + 49 ≤ (List.length c1)) ∧ (let cz77 : List V := (List.take 49 (List.drop 0 c1));
 (K (V.tup [(V.agg cz77), (V.int Go.IntKind.i64 x0)]) h))) := by kernel_rfl
end

section
open Go Go.Proofs Jb
set_option linter.unusedSimpArgs false

theorem e57 : enters Try.prog 57 = true := by kernel_rfl
theorem capped_any {a b : Int} {h : Heap} {K : V → Heap → Prop} (m : K (.int .i64 (capped a b)) h) : AnyW Try.prog 58 [.int .i64 a, .int .i64 b] h K := AnyW.eq e58 (capped_call a b h) m

/-- A fee more is owed, so much more was traded for. -/
def oweT (t : List Int) (b : Nat) (fee vol : Int) : List Int := (t.set (b + 4) (capped (gi t (b + 4)) fee)).set (b + 5) (capped (gi t (b + 5)) vol)

theorem owe_call {t d : List Int} {p r po ro : Nat} {n : Int} {h : Heap} (hp : h p = some (.cells (ints t))) (hr : h r = some (.cells (ints d))) (ht : po + 5 < t.length) (hd : ro + 2 < d.length) :
    CallW Try.prog 57 [.ptr p po, .int .i64 n, .ptr r ro] h (fun r h' => r = .tup [] ∧ h' = h.upd p (.cells (ints (oweT t po n (gi d (ro + 2)))))) := by
  refine CallW.body mix f57_cf Try.func57 (by rw [Try.ntmps57]; simp) ?_
  rw [f57_entry, f57_n_wp]
  have cp : cellsAt h p = ints t := by simp [cellsAt, hp]
  have cr : cellsAt h r = ints d := by simp [cellsAt, hr]
  simp only [cp, cr, ints_len, ints_isInt, ints_num]
  refine ⟨⟨by omega, by simp; omega⟩, ⟨by omega, by simp; omega⟩, ⟨by omega, by simp; omega⟩, capped_any ?_⟩
  simp only [cp, cr, ints_len, ints_isInt, ints_num, isInt_i64, true_and, num_int]
  refine ⟨⟨⟨by omega, by simp; omega⟩, trivial⟩, ⟨⟨by omega, by simp; omega⟩, trivial⟩, capped_any ?_⟩
  have h4 : po + 4 < t.length := by omega
  simp [cp, f57_end1, h4, ht, ints_wr1, oweT]
  omega

theorem owe_any {t d : List Int} {p r po ro : Nat} {n : Int} {h : Heap} (hp : h p = some (.cells (ints t))) (hr : h r = some (.cells (ints d))) (ht : po + 5 < t.length) (hd : ro + 2 < d.length) {K : V → Heap → Prop}
    (m : K (.tup []) (h.upd p (.cells (ints (oweT t po n (gi d (ro + 2))))))) : AnyW Try.prog 57 [.ptr p po, .int .i64 n, .ptr r ro] h K :=
  AnyW.call e57 ((owe_call hp hr ht hd).mono fun r h' e => by obtain ⟨rfl, rfl⟩ := e; exact m)

/-- What a deal holds can be. -/
def fineD (d : List Int) : Bool := (d.drop 2).all fine1

def tradeT (t d : List Int) : List Int × Int :=
  let b := (gi d 0).toNat * 6
  let s := (gi d 1).toNat * 6
  if isA (gi d 0) 1 = false ∨ isA (gi d 1) 1 = false ∨ fineD d = false then (t, 2) else
  let t1 := t.set (b + 2) (IntKind.i64.wrap (gi t (b + 2) - gi d 4))
  let t2 := t1.set (s + 3) (IntKind.i64.wrap (gi t1 (s + 3) - gi d 5))
  if gi t2 (b + 2) < 0 ∨ gi t2 (s + 3) < 0 ∨ IntKind.i64.wrap (gi t2 b - gi t2 (b + 2)) < gi d 2 ∨ IntKind.i64.wrap (gi t2 (s + 1) - gi t2 (s + 3)) < gi d 3 then (t, 53) else
  let t3 := t2.set b (IntKind.i64.wrap (gi t2 b - gi d 2))
  let t4 := t3.set s (IntKind.i64.wrap (gi t3 s + gi d 2))
  let t5 := t4.set (s + 1) (IntKind.i64.wrap (gi t4 (s + 1) - gi d 3))
  let t6 := t5.set (b + 1) (IntKind.i64.wrap (gi t5 (b + 1) + gi d 3))
  let t7 := oweT t6 b (gi d 6) (gi d 2)
  (oweT t7 s (gi d 7) (gi d 2), 0)

theorem eight (d : List Int) (hd : d.length = 8) : col (d.drop 2) = [[.int .i64 (gi d 2)], [.int .i64 (gi d 3)], [.int .i64 (gi d 4)], [.int .i64 (gi d 5)], [.int .i64 (gi d 6)], [.int .i64 (gi d 7)]] := by
  match d, hd with
  | [a, b, c, d, e, f, g, h], _ => rfl

theorem trade_call (t d : List Int) (ht : t.length = 49) (hd : d.length = 8) (h : Heap) : CallW Try.prog 31 [.agg (ints t), .agg (ints d)] h (fun r h' => r = .tup [.agg (ints (tradeT t d).1), .int .i64 (tradeT t d).2] ∧ h' = h) := by
  refine CallW.forget (K := fun r h' => r = .tup [.agg (ints (tradeT t d).1), .int .i64 (tradeT t d).2] ∧ h.Sub h') ?_ (fun r h' e => ⟨h, e.2, e.1, rfl⟩)
  refine CallW.body mix f31_cf Try.func31 (by rw [Try.ntmps31]; simp) ?_
  rw [f31_entry, f31_n_wp]
  refine ⟨by simp [ht], fun l hl => ⟨by simp [hd], fun q hq => ⟨trivial, ?_⟩⟩⟩
  have hlq : l ≠ q := by rintro rfl; simp at hq
  have hql : q ≠ l := fun e => hlq e.symm
  have hq0 : h q = none := by rw [upd_ne h _ hql] at hq; exact hq
  have hs : ∀ o o', h.Sub ((h.upd l o).upd q o') := fun o o' => Heap.sub_new hq0 (Heap.sub_new hl (Heap.sub_rfl h))
  have swap : ∀ (h : Heap) o o', (h.upd q o).upd l o' = (h.upd l o').upd q o := fun h o o' => by
    funext x; simp only [Heap.upd]; split <;> split <;> first | rfl | (subst_vars; exact (hlq rfl).elim)
  have cq : ∀ o, cellsAt ((h.upd l o).upd q (.cells (ints d))) q = ints d := fun o => cellsAt_same _ _ _
  have cl : ∀ cs o, cellsAt ((h.upd l (.cells cs)).upd q o) l = cs := fun cs o => by rw [cellsAt_ne _ _ hlq, cellsAt_same]
  rw [f31_n1_eq, wpA_seq, f31_n10_eq, wpA_seq, f31_n100_wp]
  simp only [cq, cl, ints_len, hd, ints_isInt, ints_num]
  refine ⟨by simp, is_any ?_⟩
  unfold tradeT
  cases h1 : isA (gi d 0) 1 with
  | false => simp [f31_n101_wp, ht, cl, cq, f31_end1, take_all, wr_all, hs]
  | true =>
    simp [hd, cq, cl]
    refine is_any ?_
    cases h2 : isA (gi d 1) 1 with
    | false => simp [f31_n101_wp, ht, cl, cq, f31_end1, take_all, wr_all, hs]
    | true =>
      simp [hd, cq, cl, ← eight d hd]
      refine fine_any (l := d.drop 2) (by simp [hd]) ?_
      have h3' : (d.drop 2).all fine1 = fineD d := rfl
      rw [h3']
      cases h3 : fineD d with
      | false => simp [f31_n101_wp, ht, cl, cq, f31_end1, take_all, wr_all, hs]
      | true =>
        have x1 := isA_iff.1 h1
        have x2 := isA_iff.1 h2
        have b1 : (gi d 0).toNat * 6 + 5 < 48 := by omega
        have b2 : (gi d 1).toNat * 6 + 5 < 48 := by omega
        simp only [isBool_bool, flag_bool, Bool.not_true, cond_false, seqK_normal, f31_n101_wp, brW_false, f31_n11_wp, true_and, cq, cl, ints_len, ht, hd, List.drop_zero, take_all ht, Nat.zero_add, ints_isInt, ints_num, x1.1, x1.2.1, x2.1, x2.2.1]
        generalize (gi d 0).toNat * 6 = b at *
        generalize (gi d 1).toNat * 6 = s at *
        have n1 : b + 2 < 49 := by omega
        have n2 : s + 3 < 49 := by omega
        have n3 : b < 49 := by omega
        have n4 : s < 49 := by omega
        have n5 : b + 1 < 49 := by omega
        have n6 : s + 1 < 49 := by omega
        simp only [n1, n2, n3, n4, n5, n6, decide_true, true_and, ints_wr1, ht, List.length_set, swap, upd_upd, cq, cl, ints_len, ints_isInt, ints_num, Nat.add_zero]
        generalize hT : (t.set (b + 2) (IntKind.i64.wrap (gi t (b + 2) - gi d 4))).set (s + 3) (IntKind.i64.wrap (gi (t.set (b + 2) (IntKind.i64.wrap (gi t (b + 2) - gi d 4))) (s + 3) - gi d 5)) = t2
        have l2 : t2.length = 49 := by rw [← hT]; simp [ht]
        refine ⟨by omega, by omega, by simp, by simp, by simp, by omega, by simp [hd], by omega, ?_⟩
        by_cases c1 : gi t2 (b + 2) < 0
        · simp [c1, cl, cq, l2, n1, n2, n3, n4, n5, n6, ht, hd, f31_end1, take_all, wr_all, hs]
        by_cases c2 : gi t2 (s + 3) < 0
        · simp [c1, c2, cl, cq, l2, n1, n2, n3, n4, n5, n6, ht, hd, f31_end1, take_all, wr_all, hs]
        by_cases c3 : IntKind.i64.wrap (gi t2 b - gi t2 (b + 2)) < gi d 2
        · simp [c1, c2, c3, cl, cq, l2, n1, n2, n3, n4, n5, n6, ht, hd, f31_end1, take_all, wr_all, hs]
        by_cases c4 : IntKind.i64.wrap (gi t2 (s + 1) - gi t2 (s + 3)) < gi d 3
        · simp [c1, c2, c3, c4, cl, cq, l2, n1, n2, n3, n4, n5, n6, ht, hd, f31_end1, take_all, wr_all, hs]
        simp only [c1, c2, c3, c4, cl, cq, l2, n1, n2, n3, n4, n5, n6, ht, hd, decide_false, Bool.not_false, brW_false, cond_false, ints_len, decide_true, true_and, implies_true, ints_wr1, List.length_set, swap, upd_upd]
        refine ⟨by simp, by simp, by simp, by omega, by simp, by omega, by simp, by omega, by simp, by omega, by simp, ?_⟩
        generalize hT6 : (((t2.set b (IntKind.i64.wrap (gi t2 b - gi d 2))).set s (IntKind.i64.wrap (gi (t2.set b (IntKind.i64.wrap (gi t2 b - gi d 2))) s + gi d 2))).set (s + 1) (IntKind.i64.wrap (gi ((t2.set b (IntKind.i64.wrap (gi t2 b - gi d 2))).set s (IntKind.i64.wrap (gi (t2.set b (IntKind.i64.wrap (gi t2 b - gi d 2))) s + gi d 2))) (s + 1) - gi d 3))).set (b + 1) (IntKind.i64.wrap (gi (((t2.set b (IntKind.i64.wrap (gi t2 b - gi d 2))).set s (IntKind.i64.wrap (gi (t2.set b (IntKind.i64.wrap (gi t2 b - gi d 2))) s + gi d 2))).set (s + 1) (IntKind.i64.wrap (gi ((t2.set b (IntKind.i64.wrap (gi t2 b - gi d 2))).set s (IntKind.i64.wrap (gi (t2.set b (IntKind.i64.wrap (gi t2 b - gi d 2))) s + gi d 2))) (s + 1) - gi d 3))) (b + 1) + gi d 3)) = t6
        have l6 : t6.length = 49 := by rw [← hT6]; simp [l2]
        refine owe_any (t := t6) (d := d) (by simp [Heap.upd, hlq]) (by simp) (by omega) (by omega) ?_
        simp only [isTup_tup, List.length_nil, decide_true, true_and, swap, upd_upd, cq, ints_len, hd, ints_isInt, ints_num, Nat.zero_add]
        refine ⟨by simp, ?_⟩
        have l7 : (oweT t6 b (gi d 6) (gi d 2)).length = 49 := by simp [oweT, l6]
        refine owe_any (t := oweT t6 b (gi d 6) (gi d 2)) (d := d) (by simp [Heap.upd, hlq]) (by simp) (by omega) (by omega) ?_
        have l8 : (oweT (oweT t6 b (gi d 6) (gi d 2)) s (gi d 7) (gi d 2)).length = 49 := by simp [oweT, l6]
        simp [swap, upd_upd, cl, l8, f31_end1, take_all, wr_all, hs]
end

section
set_option linter.all false
set_option maxRecDepth 100000
open Go Go.Proofs Jb
def f71_cf : Cfg := ⟨[], [(0, [4]), (1, [5, 6, 7, 8, 9, 10, 11, 12, 13, 14, 15, 16, 17]), (2, [0, 1, 18]), (3, [18, 19, 20, 21]), (4, [0, 1, 22]), (5, [0, 1, 22, 23, 24, 25])]⟩
noncomputable def f71_b : Code := bodyOf Try.f71
noncomputable def f71_n : Code :=  (codeAt [] f71_b)
theorem f71_entry (a : Int) (b : Int) (h : Heap) (K : V → Heap → Prop) : bodyW Try.prog f71_cf Try.f71 [(V.int Go.IntKind.i64 a), (V.int Go.IntKind.i64 b)] h K = wpA Try.prog f71_cf f71_n ⟨[(V.int Go.IntKind.i64 a), (V.int Go.IntKind.i64 b), V.undef, V.undef, V.undef, V.undef, V.undef, V.undef, V.undef, V.undef, V.undef, V.undef, V.undef, V.undef, V.undef, V.undef, V.undef, V.undef, V.undef, V.undef, V.undef, V.undef, V.undef, V.undef, V.undef, V.undef], []⟩ h (bodyK Try.prog Try.f71 K) := by kernel_rfl
theorem f71_n_plug : f71_n = (codeAt [] f71_b) := by
  simp only [f71_n, hide_eq]
  try kernel_rfl
theorem f71_n_wp (a : Int) (b : Int) (h : Heap) (Q : Ex → Fr → Heap → Prop) : wpA Try.prog f71_cf f71_n ⟨[(V.int Go.IntKind.i64 a), (V.int Go.IntKind.i64 b), V.undef, V.undef, V.undef, V.undef, V.undef, V.undef, V.undef, V.undef, V.undef, V.undef, V.undef, V.undef, V.undef, V.undef, V.undef, V.undef, V.undef, V.undef, V.undef, V.undef, V.undef, V.undef, V.undef, V.undef], []⟩ h Q =
 (let bz1 : Bool := (!(decide (a < (0 : Int))));
 (((!(decide (a < (0 : Int)))) = true → bz1 = true) ∧ (let bz2 : Bool := (!(decide (a < (0 : Int))));
 ((((decide (a < (0 : Int))) = false → bz2 = true) ∧ True) ∧ (let bz3 : Bool := (cond (decide (a < (0 : Int))) true (decide (b < (0 : Int))));
 (((!bz3) = true → (!bz3) = true) ∧ (let bz4 : Bool := (decide ((4611686018427387904 : Int) < a));
 (((bz3 = false → (!bz3) = true) ∧ True) ∧ (((!(cond bz3 true bz4)) = true → (!(cond bz3 true bz4)) = true) ∧ (let bz5 : Bool := (decide ((4611686018427387904 : Int) < b));
 ((((cond bz3 true bz4) = false → (!(cond bz3 true bz4)) = true) ∧ True) ∧ (let bz6 : Bool := (cond (cond bz3 true bz4) true bz5);
 (brW bz6
 (Q Ex.ret ⟨[V.undef, V.undef, V.undef, V.undef, (V.int Go.IntKind.i64 (0 : Int)), V.undef, V.undef, V.undef, V.undef, V.undef, V.undef, V.undef, V.undef, V.undef, V.undef, V.undef, V.undef, V.undef, V.undef, V.undef, V.undef, V.undef, V.undef, V.undef, V.undef, V.undef], []⟩ h)
 (let iz7 : Int := (Go.IntKind.wrap Go.IntKind.i64 ((4611686018427387904 : Int) - b));
 (brW (decide (iz7 < a))
 (let iz8 : Int := (4611686018427387904 : Int);
 (Q Ex.ret ⟨[V.undef, V.undef, V.undef, V.undef, (V.int Go.IntKind.i64 iz8), V.undef, V.undef, V.undef, V.undef, V.undef, V.undef, V.undef, V.undef, V.undef, V.undef, V.undef, V.undef, V.undef, V.undef, V.undef, V.undef, V.undef, V.undef, V.undef, V.undef, V.undef], []⟩ h))
 (let iz9 : Int := (Go.IntKind.wrap Go.IntKind.i64 (a + b));
 (Q Ex.ret ⟨[V.undef, V.undef, V.undef, V.undef, (V.int Go.IntKind.i64 iz9), V.undef, V.undef, V.undef, V.undef, V.undef, V.undef, V.undef, V.undef, V.undef, V.undef, V.undef, V.undef, V.undef, V.undef, V.undef, V.undef, V.undef, V.undef, V.undef, V.undef, V.undef], []⟩ h))))))))))))))))) := wpA_at f71_n_plug (by kernel_rfl)
theorem f71_end1 (x0 : Int) (h : Heap) (K : V → Heap → Prop) : bodyK Try.prog Try.f71 K Ex.ret ⟨[V.undef, V.undef, V.undef, V.undef, (V.int Go.IntKind.i64 x0), V.undef, V.undef, V.undef, V.undef, V.undef, V.undef, V.undef, V.undef, V.undef, V.undef, V.undef, V.undef, V.undef, V.undef, V.undef, V.undef, V.undef, V.undef, V.undef, V.undef, V.undef], []⟩ h = (K (V.int Go.IntKind.i64 x0) h) := by kernel_rfl
end

section
set_option linter.all false
set_option maxRecDepth 100000
open Go Go.Proofs Jb
def f27_cf : Cfg := ⟨[], [(0, [2]), (1, [0, 3, 4, 5, 6, 7, 8])]⟩
noncomputable def f27_b : Code := bodyOf Try.f27
noncomputable def f27_n : Code :=  (codeAt [] f27_b)
theorem f27_entry (n : Int) (h : Heap) (K : V → Heap → Prop) : bodyW Try.prog f27_cf Try.f27 [(V.int Go.IntKind.i64 n)] h K = wpA Try.prog f27_cf f27_n ⟨[(V.int Go.IntKind.i64 n), V.undef, V.undef, V.undef, V.undef, V.undef, V.undef, V.undef, V.undef], []⟩ h (bodyK Try.prog Try.f27 K) := by kernel_rfl
theorem f27_n_plug : f27_n = (codeAt [] f27_b) := by
  simp only [f27_n, hide_eq]
  try kernel_rfl
theorem f27_n_wp (n : Int) (h : Heap) (Q : Ex → Fr → Heap → Prop) : wpA Try.prog f27_cf f27_n ⟨[(V.int Go.IntKind.i64 n), V.undef, V.undef, V.undef, V.undef, V.undef, V.undef, V.undef, V.undef], []⟩ h Q =
 (((decide ((0 : Int) ≤ n)) = true → (decide ((0 : Int) ≤ n)) = true) ∧ (let bz1 : Bool := (decide (n ≤ (4611686018427387904 : Int)));
 ((((decide ((0 : Int) ≤ n)) = true → (decide ((0 : Int) ≤ n)) = true) ∧ True) ∧ (let bz2 : Bool := (cond (decide ((0 : Int) ≤ n)) bz1 false);
 (Q Ex.ret ⟨[V.undef, V.undef, (V.bool bz2), V.undef, V.undef, V.undef, V.undef, V.undef, V.undef], []⟩ h))))) := wpA_at f27_n_plug (by kernel_rfl)
theorem f27_end1 (b0 : Bool) (h : Heap) (K : V → Heap → Prop) : bodyK Try.prog Try.f27 K Ex.ret ⟨[V.undef, V.undef, (V.bool b0), V.undef, V.undef, V.undef, V.undef, V.undef, V.undef], []⟩ h = (K (V.bool b0) h) := by kernel_rfl
end

section
set_option linter.all false
set_option maxRecDepth 100000
open Go Go.Proofs Jb
def f34_cf : Cfg := ⟨[], [(0, [4]), (1, [0, 1, 5, 6, 7, 8, 9, 10, 11, 12, 13, 14, 15, 16, 17, 18])]⟩
noncomputable def f34_b : Code := bodyOf Try.f34
noncomputable def f34_n : Code :=  (codeAt [] f34_b)
theorem f34_entry (a : Int) (s : Int) (h : Heap) (K : V → Heap → Prop) : bodyW Try.prog f34_cf Try.f34 [(V.int Go.IntKind.i64 a), (V.int Go.IntKind.i64 s)] h K = wpA Try.prog f34_cf f34_n ⟨[(V.int Go.IntKind.i64 a), (V.int Go.IntKind.i64 s), V.undef, V.undef, V.undef, V.undef, V.undef, V.undef, V.undef, V.undef, V.undef, V.undef, V.undef, V.undef, V.undef, V.undef, V.undef, V.undef, V.undef], []⟩ h (bodyK Try.prog Try.f34 K) := by kernel_rfl
theorem f34_n_plug : f34_n = (codeAt [] f34_b) := by
  simp only [f34_n, hide_eq]
  try kernel_rfl
theorem f34_n_wp (a : Int) (s : Int) (h : Heap) (Q : Ex → Fr → Heap → Prop) : wpA Try.prog f34_cf f34_n ⟨[(V.int Go.IntKind.i64 a), (V.int Go.IntKind.i64 s), V.undef, V.undef, V.undef, V.undef, V.undef, V.undef, V.undef, V.undef, V.undef, V.undef, V.undef, V.undef, V.undef, V.undef, V.undef, V.undef, V.undef], []⟩ h Q =
 (((decide ((0 : Int) ≤ a)) = true → (decide ((0 : Int) ≤ a)) = true) ∧ ((((decide ((0 : Int) ≤ a)) = true → (decide ((0 : Int) ≤ a)) = true) ∧ True) ∧ (let bz1 : Bool := (cond (decide ((0 : Int) ≤ a)) (decide (a < (8 : Int))) false);
 ((bz1 = true → bz1 = true) ∧ ((bz1 = true → bz1 = true) ∧ (let bz2 : Bool := (bz1 && !(s == (1 : Int)));
 (((bz1 && !(s == (1 : Int))) = true → bz2 = true) ∧ (let bz3 : Bool := (bz1 && !(s == (1 : Int)));
 ((bz1 = true → bz1 = true) ∧ ((bz1 = true → (((s == (1 : Int)) = false → bz3 = true) ∧ True)) ∧ (let bz4 : Bool := (cond (s == (1 : Int)) true (s == (2 : Int)));
 (((bz1 = true → bz1 = true) ∧ True) ∧ (Q Ex.ret ⟨[V.undef, V.undef, V.undef, V.undef, (V.bool (cond bz1 bz4 false)), V.undef, V.undef, V.undef, V.undef, V.undef, V.undef, V.undef, V.undef, V.undef, V.undef, V.undef, V.undef, V.undef, V.undef], []⟩ h))))))))))))) := wpA_at f34_n_plug (by kernel_rfl)
theorem f34_end1 (b0 : Bool) (h : Heap) (K : V → Heap → Prop) : bodyK Try.prog Try.f34 K Ex.ret ⟨[V.undef, V.undef, V.undef, V.undef, (V.bool b0), V.undef, V.undef, V.undef, V.undef, V.undef, V.undef, V.undef, V.undef, V.undef, V.undef, V.undef, V.undef, V.undef, V.undef], []⟩ h = (K (V.bool b0) h) := by kernel_rfl
end

section
set_option linter.all false
set_option maxRecDepth 100000
open Go Go.Proofs Jb
def f14_cf : Cfg := ⟨[], [(0, [0, 6]), (1, [8, 9, 10]), (2, [1, 2, 3, 11]), (3, [1, 3, 11, 12, 13, 14, 15]), (4, [2, 16]), (5, [7, 17, 18, 19, 20, 21, 22]), (6, [7, 17, 23, 24, 25, 26, 27])]⟩
noncomputable def f14_b : Code := bodyOf Try.f14
noncomputable def f14_n : Code :=  (codeAt [] f14_b)
theorem f14_entry (t : List Int) (x : Int) (s : Int) (h : Heap) (K : V → Heap → Prop) : bodyW Try.prog f14_cf Try.f14 [(V.agg (ints t)), (V.int Go.IntKind.i64 x), (V.int Go.IntKind.i64 s)] h K = wpA Try.prog f14_cf f14_n ⟨[(V.agg (ints t)), (V.int Go.IntKind.i64 x), (V.int Go.IntKind.i64 s), V.undef, V.undef, V.undef, V.undef, V.undef, V.undef, V.undef, V.undef, V.undef, V.undef, V.undef, V.undef, V.undef, V.undef, V.undef, V.undef, V.undef, V.undef, V.undef, V.undef, V.undef, V.undef, V.undef, V.undef, V.undef], []⟩ h (bodyK Try.prog Try.f14 K) := by kernel_rfl
theorem f14_n_plug : f14_n = (codeAt [] f14_b) := by
  simp only [f14_n, hide_eq]
  try kernel_rfl
theorem f14_n_wp (t : List Int) (x : Int) (s : Int) (h : Heap) (Q : Ex → Fr → Heap → Prop) : wpA Try.prog f14_cf f14_n ⟨[(V.agg (ints t)), (V.int Go.IntKind.i64 x), (V.int Go.IntKind.i64 s), V.undef, V.undef, V.undef, V.undef, V.undef, V.undef, V.undef, V.undef, V.undef, V.undef, V.undef, V.undef, V.undef, V.undef, V.undef, V.undef, V.undef, V.undef, V.undef, V.undef, V.undef, V.undef, V.undef, V.undef, V.undef], []⟩ h Q =
 (((List.length (ints t)) = 49) ∧ (AnyW Try.prog 34 [(V.int Go.IntKind.i64 x), (V.int Go.IntKind.i64 s)] h (fun (rz1 : V) (hz2 : Heap) =>
 ((True ∧ V.isBool rz1 = true) ∧ (brW (!(V.flag rz1))
 (Q Ex.ret ⟨[V.undef, V.undef, V.undef, V.undef, V.undef, V.undef, (V.int Go.IntKind.i64 (0 : Int)), V.undef, V.undef, V.undef, V.undef, V.undef, V.undef, V.undef, V.undef, V.undef, V.undef, V.undef, V.undef, V.undef, V.undef, V.undef, V.undef, V.undef, V.undef, V.undef, V.undef, V.undef], []⟩ hz2)
 ((0 ≤ x ∧ x < 8) ∧ (((0 + ((Int.toNat x) * 6)) + 6 ≤ (List.length (ints t))) ∧ (let cz3 : List V := (List.take 6 (List.drop (0 + ((Int.toNat x) * 6)) (ints t)));
 (True ∧ (((List.length cz3) = 6) ∧ 0 + 6 ≤ 6 ∧ (let cz4 : List V := (wrCells [(V.int Go.IntKind.i64 (0 : Int)), (V.int Go.IntKind.i64 (0 : Int)), (V.int Go.IntKind.i64 (0 : Int)), (V.int Go.IntKind.i64 (0 : Int)), (V.int Go.IntKind.i64 (0 : Int)), (V.int Go.IntKind.i64 (0 : Int))] 0 cz3);
 (brW (s == (1 : Int))
 ((0 < (List.length cz4) ∧ V.isInt Go.IntKind.i64 (gv cz4 0) = true) ∧ ((2 < (List.length cz4) ∧ V.isInt Go.IntKind.i64 (gv cz4 2) = true) ∧ (let iz5 : Int := (Go.IntKind.wrap Go.IntKind.i64 ((V.num (gv cz4 0)) - (V.num (gv cz4 2))));
 (Q Ex.ret ⟨[V.undef, V.undef, V.undef, V.undef, V.undef, V.undef, (V.int Go.IntKind.i64 iz5), V.undef, V.undef, V.undef, V.undef, V.undef, V.undef, V.undef, V.undef, V.undef, V.undef, V.undef, V.undef, V.undef, V.undef, V.undef, V.undef, V.undef, V.undef, V.undef, V.undef, V.undef], []⟩ hz2))))
 ((1 < (List.length cz4) ∧ V.isInt Go.IntKind.i64 (gv cz4 1) = true) ∧ ((3 < (List.length cz4) ∧ V.isInt Go.IntKind.i64 (gv cz4 3) = true) ∧ (let iz6 : Int := (Go.IntKind.wrap Go.IntKind.i64 ((V.num (gv cz4 1)) - (V.num (gv cz4 3))));
 (Q Ex.ret ⟨[V.undef, V.undef, V.undef, V.undef, V.undef, V.undef, (V.int Go.IntKind.i64 iz6), V.undef, V.undef, V.undef, V.undef, V.undef, V.undef, V.undef, V.undef, V.undef, V.undef, V.undef, V.undef, V.undef, V.undef, V.undef, V.undef, V.undef, V.undef, V.undef, V.undef, V.undef], []⟩ hz2)))))))))))))))) := wpA_at f14_n_plug (by kernel_rfl)
theorem f14_end1 (x0 : Int) (h : Heap) (K : V → Heap → Prop) : bodyK Try.prog Try.f14 K Ex.ret ⟨[V.undef, V.undef, V.undef, V.undef, V.undef, V.undef, (V.int Go.IntKind.i64 x0), V.undef, V.undef, V.undef, V.undef, V.undef, V.undef, V.undef, V.undef, V.undef, V.undef, V.undef, V.undef, V.undef, V.undef, V.undef, V.undef, V.undef, V.undef, V.undef, V.undef, V.undef], []⟩ h = (K (V.int Go.IntKind.i64 x0) h) := by kernel_rfl
end

section
set_option linter.all false
set_option maxRecDepth 100000
open Go Go.Proofs Jb
def f59_cf : Cfg := ⟨[], [(0, [0]), (1, [2, 11]), (2, [3, 12, 13, 14, 15, 16, 17, 18, 19, 20, 21, 22]), (3, [1, 4, 23, 24, 25, 26, 27, 28, 29, 30, 31, 32]), (4, [3, 12, 33, 34, 35, 36, 37, 38, 39, 40, 41, 42]), (5, [1, 4, 43, 44, 45, 46, 47, 48, 49, 50, 51, 52]), (6, [5, 53])]⟩
noncomputable def f59_b : Code := bodyOf Try.f59
noncomputable def f59_n : Code :=  (codeAt [] f59_b)
noncomputable def f59_n1 : Code := hide (codeAt [1] f59_b)
noncomputable def f59_n10 : Code := hide (codeAt [1, 0] f59_b)
noncomputable def f59_n11 : Code := hide (codeAt [1, 1] f59_b)
theorem f59_entry (t : List Int) (x : Int) (s : Int) (n : Int) (m : Int) (h : Heap) (K : V → Heap → Prop) : bodyW Try.prog f59_cf Try.f59 [(V.agg (ints t)), (V.int Go.IntKind.i64 x), (V.int Go.IntKind.i64 s), (V.int Go.IntKind.i64 n), (V.int Go.IntKind.i64 m)] h K = wpA Try.prog f59_cf f59_n ⟨[(V.agg (ints t)), (V.int Go.IntKind.i64 x), (V.int Go.IntKind.i64 s), (V.int Go.IntKind.i64 n), (V.int Go.IntKind.i64 m), V.undef, V.undef, V.undef, V.undef, V.undef, V.undef, V.undef, V.undef, V.undef, V.undef, V.undef, V.undef, V.undef, V.undef, V.undef, V.undef, V.undef, V.undef, V.undef, V.undef, V.undef, V.undef, V.undef, V.undef, V.undef, V.undef, V.undef, V.undef, V.undef, V.undef, V.undef, V.undef, V.undef, V.undef, V.undef, V.undef, V.undef, V.undef, V.undef, V.undef, V.undef, V.undef, V.undef, V.undef, V.undef, V.undef, V.undef, V.undef, V.undef], []⟩ h (bodyK Try.prog Try.f59 K) := by kernel_rfl
theorem f59_n_plug : f59_n = (plug [1] (codeAt [] f59_b) f59_n1) := by
  simp only [f59_n, f59_n1, hide_eq]
  try kernel_rfl
theorem f59_n_wp (t : List Int) (x : Int) (s : Int) (n : Int) (m : Int) (h : Heap) (Q : Ex → Fr → Heap → Prop) : wpA Try.prog f59_cf f59_n ⟨[(V.agg (ints t)), (V.int Go.IntKind.i64 x), (V.int Go.IntKind.i64 s), (V.int Go.IntKind.i64 n), (V.int Go.IntKind.i64 m), V.undef, V.undef, V.undef, V.undef, V.undef, V.undef, V.undef, V.undef, V.undef, V.undef, V.undef, V.undef, V.undef, V.undef, V.undef, V.undef, V.undef, V.undef, V.undef, V.undef, V.undef, V.undef, V.undef, V.undef, V.undef, V.undef, V.undef, V.undef, V.undef, V.undef, V.undef, V.undef, V.undef, V.undef, V.undef, V.undef, V.undef, V.undef, V.undef, V.undef, V.undef, V.undef, V.undef, V.undef, V.undef, V.undef, V.undef, V.undef, V.undef], []⟩ h Q =
 (((List.length (ints t)) = 49) ∧ (True ∧ (wpA Try.prog f59_cf f59_n1 ⟨[V.undef, (V.int Go.IntKind.i64 x), (V.int Go.IntKind.i64 s), (V.int Go.IntKind.i64 n), (V.int Go.IntKind.i64 m), (V.lp 5 0), V.undef, V.undef, V.undef, V.undef, (V.lp 10 0), V.undef, V.undef, V.undef, V.undef, V.undef, V.undef, V.undef, V.undef, V.undef, V.undef, V.undef, V.undef, V.undef, V.undef, V.undef, V.undef, V.undef, V.undef, V.undef, V.undef, V.undef, V.undef, V.undef, V.undef, V.undef, V.undef, V.undef, V.undef, V.undef, V.undef, V.undef, V.undef, V.undef, V.undef, V.undef, V.undef, V.undef, V.undef, V.undef, V.undef, V.undef, V.undef, V.undef], [(5, (ints t)), (10, [(V.int Go.IntKind.i64 (0 : Int)), (V.int Go.IntKind.i64 (0 : Int)), (V.int Go.IntKind.i64 (0 : Int)), (V.int Go.IntKind.i64 (0 : Int)), (V.int Go.IntKind.i64 (0 : Int)), (V.int Go.IntKind.i64 (0 : Int)), (V.int Go.IntKind.i64 (0 : Int)), (V.int Go.IntKind.i64 (0 : Int)), (V.int Go.IntKind.i64 (0 : Int)), (V.int Go.IntKind.i64 (0 : Int)), (V.int Go.IntKind.i64 (0 : Int)), (V.int Go.IntKind.i64 (0 : Int)), (V.int Go.IntKind.i64 (0 : Int)), (V.int Go.IntKind.i64 (0 : Int)), (V.int Go.IntKind.i64 (0 : Int)), (V.int Go.IntKind.i64 (0 : Int)), (V.int Go.IntKind.i64 (0 : Int)), (V.int Go.IntKind.i64 (0 : Int)), (V.int Go.IntKind.i64 (0 : Int)), (V.int Go.IntKind.i64 (0 : Int)), (V.int Go.IntKind.i64 (0 : Int)), (V.int Go.IntKind.i64 (0 : Int)), (V.int Go.IntKind.i64 (0 : Int)), (V.int Go.IntKind.i64 (0 : Int)), (V.int Go.IntKind.i64 (0 : Int)), (V.int Go.IntKind.i64 (0 : Int)), (V.int Go.IntKind.i64 (0 : Int)), (V.int Go.IntKind.i64 (0 : Int)), (V.int Go.IntKind.i64 (0 : Int)), (V.int Go.IntKind.i64 (0 : Int)), (V.int Go.IntKind.i64 (0 : Int)), (V.int Go.IntKind.i64 (0 : Int)), (V.int Go.IntKind.i64 (0 : Int)), (V.int Go.IntKind.i64 (0 : Int)), (V.int Go.IntKind.i64 (0 : Int)), (V.int Go.IntKind.i64 (0 : Int)), (V.int Go.IntKind.i64 (0 : Int)), (V.int Go.IntKind.i64 (0 : Int)), (V.int Go.IntKind.i64 (0 : Int)), (V.int Go.IntKind.i64 (0 : Int)), (V.int Go.IntKind.i64 (0 : Int)), (V.int Go.IntKind.i64 (0 : Int)), (V.int Go.IntKind.i64 (0 : Int)), (V.int Go.IntKind.i64 (0 : Int)), (V.int Go.IntKind.i64 (0 : Int)), (V.int Go.IntKind.i64 (0 : Int)), (V.int Go.IntKind.i64 (0 : Int)), (V.int Go.IntKind.i64 (0 : Int)), (V.int Go.IntKind.i64 (0 : Int))])]⟩ h Q))) := wpA_at f59_n_plug (by kernel_rfl)
theorem f59_n1_eq : f59_n1 = Code.seq f59_n10 f59_n11 := by
  simp only [f59_n1, f59_n10, f59_n11, hide_eq]
  kernel_rfl
theorem f59_n10_plug : f59_n10 = (codeAt [1, 0] f59_b) := by
  simp only [f59_n10, hide_eq]
  try kernel_rfl
theorem f59_n10_wp (x0 : Int) (x1 : Int) (x2 : Int) (x3 : Int) (c4 : List V) (c5 : List V) (h : Heap) (Q : Ex → Fr → Heap → Prop) : wpA Try.prog f59_cf f59_n10 ⟨[V.undef, (V.int Go.IntKind.i64 x0), (V.int Go.IntKind.i64 x1), (V.int Go.IntKind.i64 x2), (V.int Go.IntKind.i64 x3), (V.lp 5 0), V.undef, V.undef, V.undef, V.undef, (V.lp 10 0), V.undef, V.undef, V.undef, V.undef, V.undef, V.undef, V.undef, V.undef, V.undef, V.undef, V.undef, V.undef, V.undef, V.undef, V.undef, V.undef, V.undef, V.undef, V.undef, V.undef, V.undef, V.undef, V.undef, V.undef, V.undef, V.undef, V.undef, V.undef, V.undef, V.undef, V.undef, V.undef, V.undef, V.undef, V.undef, V.undef, V.undef, V.undef, V.undef, V.undef, V.undef, V.undef, V.undef], [(5, c4), (10, c5)]⟩ h Q =
 (brW (x1 == (1 : Int))
 ((0 ≤ x0 ∧ x0 < 8) ∧ ((((0 + ((Int.toNat x0) * 6)) + 0) < (List.length c4) ∧ V.isInt Go.IntKind.i64 (gv c4 ((0 + ((Int.toNat x0) * 6)) + 0)) = true) ∧ (let iz1 : Int := (V.num (gv c4 ((0 + ((Int.toNat x0) * 6)) + 0)));
 (let iz2 : Int := (Go.IntKind.wrap Go.IntKind.i64 (iz1 + x2));
 ((0 ≤ x0 ∧ x0 < 8) ∧ (True ∧ ((0 + ((Int.toNat x0) * 6)) + 0) + 1 ≤ (List.length c4) ∧ (let cz3 : List V := (wrCells c4 ((0 + ((Int.toNat x0) * 6)) + 0) [(V.int Go.IntKind.i64 iz2)]);
 ((0 ≤ x0 ∧ x0 < 8) ∧ ((((0 + ((Int.toNat x0) * 6)) + 2) < (List.length cz3) ∧ V.isInt Go.IntKind.i64 (gv cz3 ((0 + ((Int.toNat x0) * 6)) + 2)) = true) ∧ (let iz4 : Int := (V.num (gv cz3 ((0 + ((Int.toNat x0) * 6)) + 2)));
 (let iz5 : Int := (Go.IntKind.wrap Go.IntKind.i64 (iz4 + x3));
 ((0 ≤ x0 ∧ x0 < 8) ∧ (True ∧ ((0 + ((Int.toNat x0) * 6)) + 2) + 1 ≤ (List.length cz3) ∧ (let cz6 : List V := (wrCells cz3 ((0 + ((Int.toNat x0) * 6)) + 2) [(V.int Go.IntKind.i64 iz5)]);
 (Q Ex.normal ⟨[V.undef, V.undef, V.undef, V.undef, V.undef, (V.lp 5 0), V.undef, V.undef, V.undef, V.undef, (V.lp 10 0), V.undef, V.undef, V.undef, V.undef, V.undef, V.undef, V.undef, V.undef, V.undef, V.undef, V.undef, V.undef, V.undef, V.undef, V.undef, V.undef, V.undef, V.undef, V.undef, V.undef, V.undef, V.undef, V.undef, V.undef, V.undef, V.undef, V.undef, V.undef, V.undef, V.undef, V.undef, V.undef, V.undef, V.undef, V.undef, V.undef, V.undef, V.undef, V.undef, V.undef, V.undef, V.undef, V.undef], [(5, cz6), (10, c5)]⟩ h)))))))))))))))
 ((0 ≤ x0 ∧ x0 < 8) ∧ ((((0 + ((Int.toNat x0) * 6)) + 1) < (List.length c4) ∧ V.isInt Go.IntKind.i64 (gv c4 ((0 + ((Int.toNat x0) * 6)) + 1)) = true) ∧ (let iz7 : Int := (V.num (gv c4 ((0 + ((Int.toNat x0) * 6)) + 1)));
 (let iz8 : Int := (Go.IntKind.wrap Go.IntKind.i64 (iz7 + x2));
 ((0 ≤ x0 ∧ x0 < 8) ∧ (True ∧ ((0 + ((Int.toNat x0) * 6)) + 1) + 1 ≤ (List.length c4) ∧ (let cz9 : List V := (wrCells c4 ((0 + ((Int.toNat x0) * 6)) + 1) [(V.int Go.IntKind.i64 iz8)]);
 ((0 ≤ x0 ∧ x0 < 8) ∧ ((((0 + ((Int.toNat x0) * 6)) + 3) < (List.length cz9) ∧ V.isInt Go.IntKind.i64 (gv cz9 ((0 + ((Int.toNat x0) * 6)) + 3)) = true) ∧ (let iz10 : Int := (V.num (gv cz9 ((0 + ((Int.toNat x0) * 6)) + 3)));
 (let iz11 : Int := (Go.IntKind.wrap Go.IntKind.i64 (iz10 + x3));
 ((0 ≤ x0 ∧ x0 < 8) ∧ (True ∧ ((0 + ((Int.toNat x0) * 6)) + 3) + 1 ≤ (List.length cz9) ∧ (let cz12 : List V := (wrCells cz9 ((0 + ((Int.toNat x0) * 6)) + 3) [(V.int Go.IntKind.i64 iz11)]);
 (Q Ex.normal ⟨[V.undef, V.undef, V.undef, V.undef, V.undef, (V.lp 5 0), V.undef, V.undef, V.undef, V.undef, (V.lp 10 0), V.undef, V.undef, V.undef, V.undef, V.undef, V.undef, V.undef, V.undef, V.undef, V.undef, V.undef, V.undef, V.undef, V.undef, V.undef, V.undef, V.undef, V.undef, V.undef, V.undef, V.undef, V.undef, V.undef, V.undef, V.undef, V.undef, V.undef, V.undef, V.undef, V.undef, V.undef, V.undef, V.undef, V.undef, V.undef, V.undef, V.undef, V.undef, V.undef, V.undef, V.undef, V.undef, V.undef], [(5, cz12), (10, c5)]⟩ h)))))))))))))))) := wpA_at f59_n10_plug (by kernel_rfl)
theorem f59_n11_plug : f59_n11 = (codeAt [1, 1] f59_b) := by
  simp only [f59_n11, hide_eq]
  try kernel_rfl
theorem f59_n11_wp (c0 : List V) (c1 : List V) (h : Heap) (Q : Ex → Fr → Heap → Prop) : wpA Try.prog f59_cf f59_n11 ⟨[V.undef, V.undef, V.undef, V.undef, V.undef, (V.lp 5 0), V.undef, V.undef, V.undef, V.undef, (V.lp 10 0), V.undef, V.undef, V.undef, V.undef, V.undef, V.undef, V.undef, V.undef, V.undef, V.undef, V.undef, V.undef, V.undef, V.undef, V.undef, V.undef, V.undef, V.undef, V.undef, V.undef, V.undef, V.undef, V.undef, V.undef, V.undef, V.undef, V.undef, V.undef, V.undef, V.undef, V.undef, V.undef, V.undef, V.undef, V.undef, V.undef, V.undef, V.undef, V.undef, V.undef, V.undef, V.undef, V.undef], [(5, c0), (10, c1)]⟩ h Q =
 ((0 + 49 ≤ (List.length c0)) ∧ (let cz13 : List V := (List.take 49 (List.drop 0 c0));
 (((List.length cz13) = 49) ∧ 0 + 49 ≤ (List.length c1) ∧ (Q Ex.ret ⟨[V.undef, V.undef, V.undef, V.undef, V.undef, V.undef, V.undef, V.undef, V.undef, V.undef, (V.lp 10 0), V.undef, V.undef, V.undef, V.undef, V.undef, V.undef, V.undef, V.undef, V.undef, V.undef, V.undef, V.undef, V.undef, V.undef, V.undef, V.undef, V.undef, V.undef, V.undef, V.undef, V.undef, V.undef, V.undef, V.undef, V.undef, V.undef, V.undef, V.undef, V.undef, V.undef, V.undef, V.undef, V.undef, V.undef, V.undef, V.undef, V.undef, V.undef, V.undef, V.undef, V.undef, V.undef, V.undef], [(10, (wrCells c1 0 cz13))]⟩ h)))) := wpA_at f59_n11_plug (by kernel_rfl)
theorem f59_end1 (c0 : List V) (h : Heap) (K : V → Heap → Prop) : bodyK Try.prog Try.f59 K Ex.ret ⟨[V.undef, V.undef, V.undef, V.undef, V.undef, V.undef, V.undef, V.undef, V.undef, V.undef, (V.lp 10 0), V.undef, V.undef, V.undef, V.undef, V.undef, V.undef, V.undef, V.undef, V.undef, V.undef, V.undef, V.undef, V.undef, V.undef, V.undef, V.undef, V.undef, V.undef, V.undef, V.undef, V.undef, V.undef, V.undef, V.undef, V.undef, V.undef, V.undef, V.undef, V.undef, V.undef, V.undef, V.undef, V.undef, V.undef, V.undef, V.undef, V.undef, V.undef, V.undef, V.undef, V.undef, V.undef, V.undef], [(10, c0)]⟩ h = ((0 + 49 ≤ (List.length c0)) ∧ (let cz14 : List V := (List.take 49 (List.drop 0 c0));
 (K (V.agg cz14) h))) := by kernel_rfl
end

section
set_option linter.all false
set_option maxRecDepth 100000
open Go Go.Proofs Jb
def f28_cf : Cfg := ⟨[], [(0, [0, 6, 7]), (1, [2, 12, 13]), (2, [14]), (3, [15, 16, 17, 18, 19, 20]), (4, [15]), (5, [21]), (6, [23, 24]), (7, [22, 25]), (8, [26, 27, 28, 29, 30, 31, 32, 33, 34]), (9, [26, 35, 36, 37, 38, 39, 40, 41, 42]), (10, [1, 3, 8, 9, 22, 43, 44, 45, 46, 47]), (11, [10, 11, 48, 49, 50, 51, 52, 53, 54])]⟩
noncomputable def f28_b : Code := bodyOf Try.f28
noncomputable def f28_n : Code :=  (codeAt [] f28_b)
noncomputable def f28_n11 : Code := hide (codeAt [1, 1] f28_b)
noncomputable def f28_n110 : Code := hide (codeAt [1, 1, 0] f28_b)
noncomputable def f28_n111 : Code := hide (codeAt [1, 1, 1] f28_b)
noncomputable def f28_n1110 : Code := hide (codeAt [1, 1, 1, 0] f28_b)
noncomputable def f28_n111010 : Code := hide (codeAt [1, 1, 1, 0, 1, 0] f28_b)
noncomputable def f28_n1110100 : Code := hide (codeAt [1, 1, 1, 0, 1, 0, 0] f28_b)
noncomputable def f28_n11101001 : Code := hide (codeAt [1, 1, 1, 0, 1, 0, 0, 1] f28_b)
noncomputable def f28_n1111 : Code := hide (codeAt [1, 1, 1, 1] f28_b)
noncomputable def f28_n111010010 : Code := hide (codeAt [1, 1, 1, 0, 1, 0, 0, 1, 0] f28_b)
noncomputable def f28_n111010011 : Code := hide (codeAt [1, 1, 1, 0, 1, 0, 0, 1, 1] f28_b)
theorem f28_entry (t : List Int) (a : Int) (n : Int) (h : Heap) (K : V → Heap → Prop) : bodyW Try.prog f28_cf Try.f28 [(V.agg (ints t)), (V.int Go.IntKind.i64 a), (V.int Go.IntKind.i64 n)] h K = wpA Try.prog f28_cf f28_n ⟨[(V.agg (ints t)), (V.int Go.IntKind.i64 a), (V.int Go.IntKind.i64 n), V.undef, V.undef, V.undef, V.undef, V.undef, V.undef, V.undef, V.undef, V.undef, V.undef, V.undef, V.undef, V.undef, V.undef, V.undef, V.undef, V.undef, V.undef, V.undef, V.undef, V.undef, V.undef, V.undef, V.undef, V.undef, V.undef, V.undef, V.undef, V.undef, V.undef, V.undef, V.undef, V.undef, V.undef, V.undef, V.undef, V.undef, V.undef, V.undef, V.undef, V.undef, V.undef, V.undef, V.undef, V.undef, V.undef, V.undef, V.undef, V.undef, V.undef, V.undef, V.undef], []⟩ h (bodyK Try.prog Try.f28 K) := by kernel_rfl
theorem f28_n_plug : f28_n = (plug [1, 1] (codeAt [] f28_b) f28_n11) := by
  simp only [f28_n, f28_n11, hide_eq]
  try kernel_rfl
theorem f28_n_wp (t : List Int) (a : Int) (n : Int) (h : Heap) (Q : Ex → Fr → Heap → Prop) : wpA Try.prog f28_cf f28_n ⟨[(V.agg (ints t)), (V.int Go.IntKind.i64 a), (V.int Go.IntKind.i64 n), V.undef, V.undef, V.undef, V.undef, V.undef, V.undef, V.undef, V.undef, V.undef, V.undef, V.undef, V.undef, V.undef, V.undef, V.undef, V.undef, V.undef, V.undef, V.undef, V.undef, V.undef, V.undef, V.undef, V.undef, V.undef, V.undef, V.undef, V.undef, V.undef, V.undef, V.undef, V.undef, V.undef, V.undef, V.undef, V.undef, V.undef, V.undef, V.undef, V.undef, V.undef, V.undef, V.undef, V.undef, V.undef, V.undef, V.undef, V.undef, V.undef, V.undef, V.undef, V.undef], []⟩ h Q =
 (((List.length (ints t)) = 49) ∧ ((True ∧ True) ∧ (wpA Try.prog f28_cf f28_n11 ⟨[V.undef, (V.int Go.IntKind.i64 a), V.undef, (V.lp 3 0), V.undef, V.undef, V.undef, V.undef, (V.sl 1 [[(V.int Go.IntKind.i64 n)]] G.full), V.undef, V.undef, V.undef, V.undef, V.undef, V.undef, V.undef, V.undef, V.undef, V.undef, V.undef, V.undef, V.undef, V.undef, V.undef, V.undef, V.undef, V.undef, V.undef, V.undef, V.undef, V.undef, V.undef, V.undef, V.undef, V.undef, V.undef, V.undef, V.undef, V.undef, V.undef, V.undef, V.undef, V.undef, V.undef, V.undef, V.undef, V.undef, V.undef, V.undef, V.undef, V.undef, V.undef, V.undef, V.undef, V.undef], [(3, (ints t))]⟩ h Q))) := wpA_at f28_n_plug (by kernel_rfl)
theorem f28_n11_eq : f28_n11 = Code.seq f28_n110 f28_n111 := by
  simp only [f28_n11, f28_n110, f28_n111, hide_eq]
  kernel_rfl
theorem f28_n110_plug : f28_n110 = (codeAt [1, 1, 0] f28_b) := by
  simp only [f28_n110, hide_eq]
  try kernel_rfl
theorem f28_n110_wp (x0 : Int) (e1 : List (List V)) (g2 : G) (c3 : List V) (h : Heap) (Q : Ex → Fr → Heap → Prop) : wpA Try.prog f28_cf f28_n110 ⟨[V.undef, (V.int Go.IntKind.i64 x0), V.undef, (V.lp 3 0), V.undef, V.undef, V.undef, V.undef, (V.sl 1 e1 g2), V.undef, V.undef, V.undef, V.undef, V.undef, V.undef, V.undef, V.undef, V.undef, V.undef, V.undef, V.undef, V.undef, V.undef, V.undef, V.undef, V.undef, V.undef, V.undef, V.undef, V.undef, V.undef, V.undef, V.undef, V.undef, V.undef, V.undef, V.undef, V.undef, V.undef, V.undef, V.undef, V.undef, V.undef, V.undef, V.undef, V.undef, V.undef, V.undef, V.undef, V.undef, V.undef, V.undef, V.undef, V.undef, V.undef], [(3, c3)]⟩ h Q =
 (brW (x0 == (1 : Int))
 ((48 < (List.length c3) ∧ V.isInt Go.IntKind.i64 (gv c3 48) = true) ∧ ((True ∧ True) ∧ ((List.length e1) + 1 ≤ mostLen ∧ appG 1 (List.length e1) 1 g2 h (fun (gz1 : G) (hz2 : Heap) =>
 (let ez3 : List (List V) := (e1 ++ [[(V.int Go.IntKind.i64 (V.num (gv c3 48)))]]);
 (Q Ex.normal ⟨[V.undef, (V.int Go.IntKind.i64 x0), V.undef, (V.lp 3 0), V.undef, V.undef, V.undef, V.undef, (V.sl 1 ez3 gz1), V.undef, V.undef, V.undef, V.undef, V.undef, V.undef, V.undef, V.undef, V.undef, V.undef, V.undef, V.undef, V.undef, V.undef, V.undef, V.undef, V.undef, V.undef, V.undef, V.undef, V.undef, V.undef, V.undef, V.undef, V.undef, V.undef, V.undef, V.undef, V.undef, V.undef, V.undef, V.undef, V.undef, V.undef, V.undef, V.undef, V.undef, V.undef, V.undef, V.undef, V.undef, V.undef, V.undef, V.undef, V.undef, V.undef], [(3, c3)]⟩ hz2))))))
 (Q Ex.normal ⟨[V.undef, (V.int Go.IntKind.i64 x0), V.undef, (V.lp 3 0), V.undef, V.undef, V.undef, V.undef, (V.sl 1 e1 g2), V.undef, V.undef, V.undef, V.undef, V.undef, V.undef, (V.bool (x0 == (1 : Int))), V.undef, V.undef, V.undef, V.undef, V.undef, V.undef, V.undef, V.undef, V.undef, V.undef, V.undef, V.undef, V.undef, V.undef, V.undef, V.undef, V.undef, V.undef, V.undef, V.undef, V.undef, V.undef, V.undef, V.undef, V.undef, V.undef, V.undef, V.undef, V.undef, V.undef, V.undef, V.undef, V.undef, V.undef, V.undef, V.undef, V.undef, V.undef, V.undef], [(3, c3)]⟩ h)) := wpA_at f28_n110_plug (by kernel_rfl)
theorem f28_n111_eq : f28_n111 = Code.seq f28_n1110 f28_n1111 := by
  simp only [f28_n111, f28_n1110, f28_n1111, hide_eq]
  kernel_rfl
theorem f28_n1110_plug : f28_n1110 = (plug [1, 0] (codeAt [1, 1, 1, 0] f28_b) f28_n111010) := by
  simp only [f28_n1110, f28_n111010, hide_eq]
  try kernel_rfl
theorem f28_n1110_wp (x0 : Int) (e1 : List (List V)) (g2 : G) (c3 : List V) (h : Heap) (Q : Ex → Fr → Heap → Prop) : wpA Try.prog f28_cf f28_n1110 ⟨[V.undef, (V.int Go.IntKind.i64 x0), V.undef, (V.lp 3 0), V.undef, V.undef, V.undef, V.undef, (V.sl 1 e1 g2), V.undef, V.undef, V.undef, V.undef, V.undef, V.undef, V.undef, V.undef, V.undef, V.undef, V.undef, V.undef, V.undef, V.undef, V.undef, V.undef, V.undef, V.undef, V.undef, V.undef, V.undef, V.undef, V.undef, V.undef, V.undef, V.undef, V.undef, V.undef, V.undef, V.undef, V.undef, V.undef, V.undef, V.undef, V.undef, V.undef, V.undef, V.undef, V.undef, V.undef, V.undef, V.undef, V.undef, V.undef, V.undef, V.undef], [(3, c3)]⟩ h Q =
 (wpA Try.prog f28_cf f28_n111010 ⟨[V.undef, (V.int Go.IntKind.i64 x0), V.undef, (V.lp 3 0), V.undef, V.undef, V.undef, V.undef, (V.sl 1 e1 g2), (V.int Go.IntKind.i64 (0 : Int)), V.undef, V.undef, V.undef, V.undef, V.undef, V.undef, V.undef, V.undef, V.undef, V.undef, V.undef, V.undef, V.undef, V.undef, V.undef, V.undef, V.undef, V.undef, V.undef, V.undef, V.undef, V.undef, V.undef, V.undef, V.undef, V.undef, V.undef, V.undef, V.undef, V.undef, V.undef, V.undef, V.undef, V.undef, V.undef, V.undef, V.undef, V.undef, V.undef, V.undef, V.undef, V.undef, V.undef, V.undef, V.undef], [(3, c3)]⟩ h (blockK 0 Q)) := wpA_at f28_n1110_plug (by kernel_rfl)
theorem f28_n1110s1_wp (x0 : Int) (e1 : List (List V)) (g2 : G) (b3 : Bool) (c4 : List V) (h : Heap) (Q : Ex → Fr → Heap → Prop) : wpA Try.prog f28_cf f28_n1110 ⟨[V.undef, (V.int Go.IntKind.i64 x0), V.undef, (V.lp 3 0), V.undef, V.undef, V.undef, V.undef, (V.sl 1 e1 g2), V.undef, V.undef, V.undef, V.undef, V.undef, V.undef, (V.bool b3), V.undef, V.undef, V.undef, V.undef, V.undef, V.undef, V.undef, V.undef, V.undef, V.undef, V.undef, V.undef, V.undef, V.undef, V.undef, V.undef, V.undef, V.undef, V.undef, V.undef, V.undef, V.undef, V.undef, V.undef, V.undef, V.undef, V.undef, V.undef, V.undef, V.undef, V.undef, V.undef, V.undef, V.undef, V.undef, V.undef, V.undef, V.undef, V.undef], [(3, c4)]⟩ h Q =
 (wpA Try.prog f28_cf f28_n111010 ⟨[V.undef, (V.int Go.IntKind.i64 x0), V.undef, (V.lp 3 0), V.undef, V.undef, V.undef, V.undef, (V.sl 1 e1 g2), (V.int Go.IntKind.i64 (0 : Int)), V.undef, V.undef, V.undef, V.undef, V.undef, V.undef, V.undef, V.undef, V.undef, V.undef, V.undef, V.undef, V.undef, V.undef, V.undef, V.undef, V.undef, V.undef, V.undef, V.undef, V.undef, V.undef, V.undef, V.undef, V.undef, V.undef, V.undef, V.undef, V.undef, V.undef, V.undef, V.undef, V.undef, V.undef, V.undef, V.undef, V.undef, V.undef, V.undef, V.undef, V.undef, V.undef, V.undef, V.undef, V.undef], [(3, c4)]⟩ h (blockK 0 Q)) := wpA_at f28_n1110_plug (by kernel_rfl)
theorem f28_n111010_eq : f28_n111010 = Code.loop f28_n1110100 := by
  simp only [f28_n111010, f28_n1110100, hide_eq]
  kernel_rfl
def f28_n1110100_F (x0 : Int) (e1 : List (List V)) (g2 : G) (x3 : Int) (c4 : List V) : Fr := ⟨[V.undef, (V.int Go.IntKind.i64 x0), V.undef, (V.lp 3 0), V.undef, V.undef, V.undef, V.undef, (V.sl 1 e1 g2), (V.int Go.IntKind.i64 x3), V.undef, V.undef, V.undef, V.undef, V.undef, V.undef, V.undef, V.undef, V.undef, V.undef, V.undef, V.undef, V.undef, V.undef, V.undef, V.undef, V.undef, V.undef, V.undef, V.undef, V.undef, V.undef, V.undef, V.undef, V.undef, V.undef, V.undef, V.undef, V.undef, V.undef, V.undef, V.undef, V.undef, V.undef, V.undef, V.undef, V.undef, V.undef, V.undef, V.undef, V.undef, V.undef, V.undef, V.undef, V.undef], [(3, c4)]⟩
theorem f28_n1110100_plug : f28_n1110100 = (plug [1] (codeAt [1, 1, 1, 0, 1, 0, 0] f28_b) f28_n11101001) := by
  simp only [f28_n1110100, f28_n11101001, hide_eq]
  try kernel_rfl
theorem f28_n1110100_wp (x0 : Int) (e1 : List (List V)) (g2 : G) (x3 : Int) (c4 : List V) (h : Heap) (Q : Ex → Fr → Heap → Prop) : wpA Try.prog f28_cf f28_n1110100 ⟨[V.undef, (V.int Go.IntKind.i64 x0), V.undef, (V.lp 3 0), V.undef, V.undef, V.undef, V.undef, (V.sl 1 e1 g2), (V.int Go.IntKind.i64 x3), V.undef, V.undef, V.undef, V.undef, V.undef, V.undef, V.undef, V.undef, V.undef, V.undef, V.undef, V.undef, V.undef, V.undef, V.undef, V.undef, V.undef, V.undef, V.undef, V.undef, V.undef, V.undef, V.undef, V.undef, V.undef, V.undef, V.undef, V.undef, V.undef, V.undef, V.undef, V.undef, V.undef, V.undef, V.undef, V.undef, V.undef, V.undef, V.undef, V.undef, V.undef, V.undef, V.undef, V.undef, V.undef], [(3, c4)]⟩ h Q =
 (let bz4 : Bool := (decide (x3 < (8 : Int)));
 (brW bz4
 (wpA Try.prog f28_cf f28_n11101001 ⟨[V.undef, (V.int Go.IntKind.i64 x0), V.undef, (V.lp 3 0), V.undef, V.undef, V.undef, V.undef, (V.sl 1 e1 g2), (V.int Go.IntKind.i64 x3), V.undef, V.undef, V.undef, V.undef, V.undef, V.undef, V.undef, V.undef, V.undef, V.undef, V.undef, V.undef, (V.bool bz4), V.undef, V.undef, V.undef, V.undef, V.undef, V.undef, V.undef, V.undef, V.undef, V.undef, V.undef, V.undef, V.undef, V.undef, V.undef, V.undef, V.undef, V.undef, V.undef, V.undef, V.undef, V.undef, V.undef, V.undef, V.undef, V.undef, V.undef, V.undef, V.undef, V.undef, V.undef, V.undef], [(3, c4)]⟩ h Q)
 (Q (Ex.exit 0) ⟨[V.undef, (V.int Go.IntKind.i64 x0), V.undef, (V.lp 3 0), V.undef, V.undef, V.undef, V.undef, (V.sl 1 e1 g2), (V.int Go.IntKind.i64 x3), V.undef, V.undef, V.undef, V.undef, V.undef, V.undef, V.undef, V.undef, V.undef, V.undef, V.undef, V.undef, (V.bool bz4), V.undef, V.undef, V.undef, V.undef, V.undef, V.undef, V.undef, V.undef, V.undef, V.undef, V.undef, V.undef, V.undef, V.undef, V.undef, V.undef, V.undef, V.undef, V.undef, V.undef, V.undef, V.undef, V.undef, V.undef, V.undef, V.undef, V.undef, V.undef, V.undef, V.undef, V.undef, V.undef], [(3, c4)]⟩ h))) := wpA_at f28_n1110100_plug (by kernel_rfl)
theorem f28_n11101001_eq : f28_n11101001 = Code.seq f28_n111010010 f28_n111010011 := by
  simp only [f28_n11101001, f28_n111010010, f28_n111010011, hide_eq]
  kernel_rfl
theorem f28_n1111_plug : f28_n1111 = (codeAt [1, 1, 1, 1] f28_b) := by
  simp only [f28_n1111, hide_eq]
  try kernel_rfl
theorem f28_n1111_wp (x0 : Int) (e1 : List (List V)) (g2 : G) (x3 : Int) (b4 : Bool) (c5 : List V) (h : Heap) (Q : Ex → Fr → Heap → Prop) : wpA Try.prog f28_cf f28_n1111 ⟨[V.undef, (V.int Go.IntKind.i64 x0), V.undef, (V.lp 3 0), V.undef, V.undef, V.undef, V.undef, (V.sl 1 e1 g2), (V.int Go.IntKind.i64 x3), V.undef, V.undef, V.undef, V.undef, V.undef, V.undef, V.undef, V.undef, V.undef, V.undef, V.undef, V.undef, (V.bool b4), V.undef, V.undef, V.undef, V.undef, V.undef, V.undef, V.undef, V.undef, V.undef, V.undef, V.undef, V.undef, V.undef, V.undef, V.undef, V.undef, V.undef, V.undef, V.undef, V.undef, V.undef, V.undef, V.undef, V.undef, V.undef, V.undef, V.undef, V.undef, V.undef, V.undef, V.undef, V.undef], [(3, c5)]⟩ h Q =
 (AnyW Try.prog 56 [(V.sl 1 e1 g2)] h (fun (rz5 : V) (hz6 : Heap) =>
 (V.isTup 2 rz5 = true ∧ ((True ∧ V.isInt Go.IntKind.i64 (gv (V.vs rz5) 0) = true) ∧ (let iz7 : Int := (V.num (gv (V.vs rz5) 0));
 ((True ∧ V.isInt Go.IntKind.i64 (gv (V.vs rz5) 1) = true) ∧ (let iz8 : Int := (V.num (gv (V.vs rz5) 1));
 ((true = true) ∧ ((true = true) ∧ (((iz8 == (0 : Int)) = true → (iz8 == (0 : Int)) = true) ∧ (let bz9 : Bool := (decide (iz7 ≤ (4611686018427387904 : Int)));
 ((((iz8 == (0 : Int)) = true → (iz8 == (0 : Int)) = true) ∧ True) ∧ (let bz10 : Bool := (cond (iz8 == (0 : Int)) bz9 false);
 (Q Ex.ret ⟨[V.undef, V.undef, V.undef, V.undef, V.undef, V.undef, (V.int Go.IntKind.i64 iz7), (V.bool bz10), V.undef, V.undef, V.undef, V.undef, V.undef, V.undef, V.undef, V.undef, V.undef, V.undef, V.undef, V.undef, V.undef, V.undef, V.undef, V.undef, V.undef, V.undef, V.undef, V.undef, V.undef, V.undef, V.undef, V.undef, V.undef, V.undef, V.undef, V.undef, V.undef, V.undef, V.undef, V.undef, V.undef, V.undef, V.undef, V.undef, V.undef, V.undef, V.undef, V.undef, V.undef, V.undef, V.undef, V.undef, V.undef, V.undef, V.undef], []⟩ hz6)))))))))))))) := wpA_at f28_n1111_plug (by kernel_rfl)
theorem f28_n111010010_plug : f28_n111010010 = (codeAt [1, 1, 1, 0, 1, 0, 0, 1, 0] f28_b) := by
  simp only [f28_n111010010, hide_eq]
  try kernel_rfl
theorem f28_n111010010_wp (x0 : Int) (e1 : List (List V)) (g2 : G) (x3 : Int) (b4 : Bool) (c5 : List V) (h : Heap) (Q : Ex → Fr → Heap → Prop) : wpA Try.prog f28_cf f28_n111010010 ⟨[V.undef, (V.int Go.IntKind.i64 x0), V.undef, (V.lp 3 0), V.undef, V.undef, V.undef, V.undef, (V.sl 1 e1 g2), (V.int Go.IntKind.i64 x3), V.undef, V.undef, V.undef, V.undef, V.undef, V.undef, V.undef, V.undef, V.undef, V.undef, V.undef, V.undef, (V.bool b4), V.undef, V.undef, V.undef, V.undef, V.undef, V.undef, V.undef, V.undef, V.undef, V.undef, V.undef, V.undef, V.undef, V.undef, V.undef, V.undef, V.undef, V.undef, V.undef, V.undef, V.undef, V.undef, V.undef, V.undef, V.undef, V.undef, V.undef, V.undef, V.undef, V.undef, V.undef, V.undef], [(3, c5)]⟩ h Q =
 (brW (x0 == (1 : Int))
 ((0 ≤ x3 ∧ x3 < 8) ∧ ((((0 + ((Int.toNat x3) * 6)) + 0) < (List.length c5) ∧ V.isInt Go.IntKind.i64 (gv c5 ((0 + ((Int.toNat x3) * 6)) + 0)) = true) ∧ (let iz11 : Int := (V.num (gv c5 ((0 + ((Int.toNat x3) * 6)) + 0)));
 ((True ∧ True) ∧ ((List.length e1) + 1 ≤ mostLen ∧ appG 1 (List.length e1) 1 g2 h (fun (gz12 : G) (hz13 : Heap) =>
 (let ez14 : List (List V) := (e1 ++ [[(V.int Go.IntKind.i64 iz11)]]);
 (Q Ex.normal ⟨[V.undef, (V.int Go.IntKind.i64 x0), V.undef, (V.lp 3 0), V.undef, V.undef, V.undef, V.undef, (V.sl 1 ez14 gz12), (V.int Go.IntKind.i64 x3), V.undef, V.undef, V.undef, V.undef, V.undef, V.undef, V.undef, V.undef, V.undef, V.undef, V.undef, V.undef, V.undef, V.undef, V.undef, V.undef, V.undef, V.undef, V.undef, V.undef, V.undef, V.undef, V.undef, V.undef, V.undef, V.undef, V.undef, V.undef, V.undef, V.undef, V.undef, V.undef, V.undef, V.undef, V.undef, V.undef, V.undef, V.undef, V.undef, V.undef, V.undef, V.undef, V.undef, V.undef, V.undef], [(3, c5)]⟩ hz13))))))))
 ((0 ≤ x3 ∧ x3 < 8) ∧ ((((0 + ((Int.toNat x3) * 6)) + 1) < (List.length c5) ∧ V.isInt Go.IntKind.i64 (gv c5 ((0 + ((Int.toNat x3) * 6)) + 1)) = true) ∧ (let iz15 : Int := (V.num (gv c5 ((0 + ((Int.toNat x3) * 6)) + 1)));
 ((True ∧ True) ∧ ((List.length e1) + 1 ≤ mostLen ∧ appG 1 (List.length e1) 1 g2 h (fun (gz16 : G) (hz17 : Heap) =>
 (let ez18 : List (List V) := (e1 ++ [[(V.int Go.IntKind.i64 iz15)]]);
 (Q Ex.normal ⟨[V.undef, (V.int Go.IntKind.i64 x0), V.undef, (V.lp 3 0), V.undef, V.undef, V.undef, V.undef, (V.sl 1 ez18 gz16), (V.int Go.IntKind.i64 x3), V.undef, V.undef, V.undef, V.undef, V.undef, V.undef, V.undef, V.undef, V.undef, V.undef, V.undef, V.undef, V.undef, V.undef, V.undef, V.undef, V.undef, V.undef, V.undef, V.undef, V.undef, V.undef, V.undef, V.undef, V.undef, V.undef, V.undef, V.undef, V.undef, V.undef, V.undef, V.undef, V.undef, V.undef, V.undef, V.undef, V.undef, V.undef, V.undef, V.undef, V.undef, V.undef, V.undef, V.undef, V.undef], [(3, c5)]⟩ hz17))))))))) := wpA_at f28_n111010010_plug (by kernel_rfl)
theorem f28_n111010011_plug : f28_n111010011 = (codeAt [1, 1, 1, 0, 1, 0, 0, 1, 1] f28_b) := by
  simp only [f28_n111010011, hide_eq]
  try kernel_rfl
theorem f28_n111010011_wp (x0 : Int) (e1 : List (List V)) (g2 : G) (x3 : Int) (c4 : List V) (h : Heap) (Q : Ex → Fr → Heap → Prop) : wpA Try.prog f28_cf f28_n111010011 ⟨[V.undef, (V.int Go.IntKind.i64 x0), V.undef, (V.lp 3 0), V.undef, V.undef, V.undef, V.undef, (V.sl 1 e1 g2), (V.int Go.IntKind.i64 x3), V.undef, V.undef, V.undef, V.undef, V.undef, V.undef, V.undef, V.undef, V.undef, V.undef, V.undef, V.undef, V.undef, V.undef, V.undef, V.undef, V.undef, V.undef, V.undef, V.undef, V.undef, V.undef, V.undef, V.undef, V.undef, V.undef, V.undef, V.undef, V.undef, V.undef, V.undef, V.undef, V.undef, V.undef, V.undef, V.undef, V.undef, V.undef, V.undef, V.undef, V.undef, V.undef, V.undef, V.undef, V.undef], [(3, c4)]⟩ h Q =
 (let iz19 : Int := (Go.IntKind.wrap Go.IntKind.i64 (x3 + (1 : Int)));
 (Q Ex.normal ⟨[V.undef, (V.int Go.IntKind.i64 x0), V.undef, (V.lp 3 0), V.undef, V.undef, V.undef, V.undef, (V.sl 1 e1 g2), (V.int Go.IntKind.i64 iz19), V.undef, V.undef, V.undef, V.undef, V.undef, V.undef, V.undef, V.undef, V.undef, V.undef, V.undef, V.undef, V.undef, V.undef, V.undef, V.undef, V.undef, V.undef, V.undef, V.undef, V.undef, V.undef, V.undef, V.undef, V.undef, V.undef, V.undef, V.undef, V.undef, V.undef, V.undef, V.undef, V.undef, V.undef, V.undef, V.undef, V.undef, V.undef, V.undef, V.undef, V.undef, V.undef, V.undef, V.undef, V.undef], [(3, c4)]⟩ h)) := wpA_at f28_n111010011_plug (by kernel_rfl)
theorem f28_end1 (x0 : Int) (b1 : Bool) (h : Heap) (K : V → Heap → Prop) : bodyK Try.prog Try.f28 K Ex.ret ⟨[V.undef, V.undef, V.undef, V.undef, V.undef, V.undef, (V.int Go.IntKind.i64 x0), (V.bool b1), V.undef, V.undef, V.undef, V.undef, V.undef, V.undef, V.undef, V.undef, V.undef, V.undef, V.undef, V.undef, V.undef, V.undef, V.undef, V.undef, V.undef, V.undef, V.undef, V.undef, V.undef, V.undef, V.undef, V.undef, V.undef, V.undef, V.undef, V.undef, V.undef, V.undef, V.undef, V.undef, V.undef, V.undef, V.undef, V.undef, V.undef, V.undef, V.undef, V.undef, V.undef, V.undef, V.undef, V.undef, V.undef, V.undef, V.undef], []⟩ h = (K (V.tup [(V.int Go.IntKind.i64 x0), (V.bool b1)]) h) := by kernel_rfl
end

section
open Go Go.Proofs Jb
set_option linter.unusedSimpArgs false
set_option maxRecDepth 4000

theorem e56 : enters Try.prog 56 = true := by kernel_rfl
theorem e34 : enters Try.prog 34 = true := by kernel_rfl
theorem e27 : enters Try.prog 27 = true := by kernel_rfl
theorem e28 : enters Try.prog 28 = true := by kernel_rfl
theorem e14 : enters Try.prog 14 = true := by kernel_rfl
theorem e59 : enters Try.prog 59 = true := by kernel_rfl
theorem e71 : enters Try.prog 71 = true := by kernel_rfl

theorem refSum_call (l : List Int) (g : G) (hl : l.length < 1048576) (hr : ∀ n ∈ l, I64 n) (h : Heap) : CallW Try.prog 56 [.sl 1 (col l) g] h (fun r h' => r = .tup [.int .i64 (sumR l).1, .int .i64 (sumR l).2] ∧ h' = h) := by
  refine CallW.body mix f56_cf Try.func56 (by rw [Try.ntmps56]; simp) ?_
  rw [f56_entry, f56_n_wp]
  refine ⟨trivial, ?_⟩
  rw [nilB, f56_n11_eq, wpA_seq, f56_n110_wp, f56_n11010_eq]
  refine wpA_loop (σ := Nat × List Bool) (fun s => f56_n110100_F (col l) g s.1 (bls s.2)) (fun _ => h) (fun s => l.length - s.1)
    (fun s => s.1 ≤ l.length ∧ s.2.length = 137 ∧ sg s.2 = (l.take s.1).sum ∧ vl s.2 136 ≤ s.1 * 18446744073709551616) (0, List.replicate 137 false) rfl rfl ⟨by simp, by simp, by unfold sg; rw [vl_nil]; simp, by rw [vl_nil]; simp⟩ ?_
  rintro ⟨i, O⟩ ⟨hi, hO, hs, hv⟩
  simp only at hi hO hs hv
  simp only [f56_n110100_F]
  rw [f56_n110100_wp]
  by_cases hlt : i < l.length
  · simp only [show ((i : Int) < l.length) from by omega, col_len, decide_true, brW_true, Int.toNat_natCast, col_get l hlt, gv_zero, num_int, isInt_i64, List.length_cons, List.length_nil, List.drop_zero, bls_len, hO, take_allB hO, and_true, true_and]
    refine ⟨by omega, by omega, by omega, AnyW.call e69 ((Of_call (gi l i) (hr _ (gi_mem l hlt)) h).mono ?_)⟩
    rintro r h' ⟨⟨A, hA, sA, vA, rfl⟩, rfl⟩
    simp only [cells_agg, isAgg_agg, bls_len, hA, decide_true, true_and]
    refine ⟨by omega, AnyW.call e68 ((Plus_call O A hO hA ?_ h').mono ?_)⟩
    · have : i * 18446744073709551616 ≤ 1048576 * 18446744073709551616 := Nat.mul_le_mul_right _ (by omega)
      omega
    rintro r h' ⟨⟨B, hB, sB, vB, rfl⟩, rfl⟩
    have w : wrCells (bls O) 0 (bls B) = bls B := wr_allB hO hB
    simp only [cells_agg, isAgg_agg, bls_len, hB, decide_true, true_and, w, wrap_up i (by omega), seqK_normal]
    refine ⟨by omega, (i + 1, B), rfl, ⟨by simp only; omega, hB, ?_, ?_⟩, by simp only; omega⟩
    · simp only
      rw [take_next l hlt, List.sum_append, sB, hs, sA]; simp
    · simp only
      omega
  · have e : l.take i = l := by rw [List.take_of_length_le]; omega
    rw [e] at hs
    simp only [show ¬ ((i : Int) < l.length) from by omega, col_len, decide_false, brW_false, seqK_exit, blockK_exit, if_true, seqK_normal, f56_n111_wp, List.drop_zero, bls_len, hO, take_allB hO]
    refine ⟨by omega, AnyW.eq e70 (told_call O hO h) ?_⟩
    rw [hs]
    have : toldR l.sum = sumR l := rfl
    rw [this]
    simp [f56_end1]
theorem refSum_any {l : List Int} {g : G} (hl : l.length < 1048576) (hr : ∀ n ∈ l, I64 n) {h : Heap} {K : V → Heap → Prop} (m : K (.tup [.int .i64 (sumR l).1, .int .i64 (sumR l).2]) h) : AnyW Try.prog 56 [.sl 1 (col l) g] h K := AnyW.eq e56 (refSum_call l g hl hr h) m

theorem refCapped_call (a b : Int) (h : Heap) : CallW Try.prog 71 [.int .i64 a, .int .i64 b] h (fun r h' => r = .int .i64 (capped a b) ∧ h' = h) := by
  refine CallW.body mix f71_cf Try.func71 (by rw [Try.ntmps71]; simp) ?_
  rw [f71_entry, f71_n_wp]
  unfold capped Mx
  by_cases h1 : a < 0
  · simp [h1, f71_end1]
  by_cases h2 : b < 0
  · simp [h1, h2, f71_end1]
  by_cases h3 : 4611686018427387904 < a
  · simp [h1, h2, h3, f71_end1]
  by_cases h4 : 4611686018427387904 < b
  · simp [h1, h2, h3, h4, f71_end1]
  have w : IntKind.i64.wrap (4611686018427387904 - b) = 4611686018427387904 - b := by rw [Go.IntWalk.i64_in]; omega
  by_cases h5 : 4611686018427387904 < a + b
  · simp [h1, h2, h3, h4, h5, w, show 4611686018427387904 - b < a from by omega, f71_end1]
  · simp [h1, h2, h3, h4, h5, w, show ¬ 4611686018427387904 - b < a from by omega, f71_end1]
    rw [Go.IntWalk.i64_in]; omega
theorem refCapped_any {a b : Int} {h : Heap} {K : V → Heap → Prop} (m : K (.int .i64 (capped a b)) h) : AnyW Try.prog 71 [.int .i64 a, .int .i64 b] h K := AnyW.eq e71 (refCapped_call a b h) m

theorem refFine_any {n : Int} {h : Heap} {K : V → Heap → Prop} (m : K (.bool (fine1 n)) h) : AnyW Try.prog 27 [.int .i64 n] h K := by
  refine AnyW.eq e27 (v := .bool (fine1 n)) ?_ m
  refine CallW.body mix f27_cf Try.func27 (by rw [Try.ntmps27]; simp) ?_
  rw [f27_entry, f27_n_wp]
  unfold fine1 Mx
  by_cases h1 : 0 ≤ n <;> by_cases h2 : n ≤ 4611686018427387904 <;> simp_all [f27_end1]

theorem may_any {a s : Int} {h : Heap} {K : V → Heap → Prop} (m : K (.bool (isA a s)) h) : AnyW Try.prog 34 [.int .i64 a, .int .i64 s] h K := by
  refine AnyW.eq e34 (v := .bool (isA a s)) ?_ m
  refine CallW.body mix f34_cf Try.func34 (by rw [Try.ntmps34]; simp) ?_
  rw [f34_entry, f34_n_wp]
  unfold isA
  by_cases h1 : 0 ≤ a <;> by_cases h2 : a < 8 <;> by_cases h3 : s = 1 <;> by_cases h4 : s = 2 <;> simp_all [f34_end1]

theorem refFree_call (t : List Int) (ht : t.length = 49) (x s : Int) (h : Heap) : CallW Try.prog 14 [.agg (ints t), .int .i64 x, .int .i64 s] h (fun r h' => r = .int .i64 (free t x s) ∧ h' = h) := by
  refine CallW.body mix f14_cf Try.func14 (by rw [Try.ntmps14]; simp) ?_
  rw [f14_entry, f14_n_wp]
  refine ⟨by simp [ht], may_any ?_⟩
  unfold free
  cases hi : isA x s with
  | false => simp [f14_end1]
  | true =>
    have hx := isA_iff.1 hi
    have hp := purse_len ht (i := x.toNat) (by omega)
    have q : ∀ j, j < 6 → gi (purse t x.toNat) j = gi t (x.toNat * 6 + j) := fun j hj => purse_get t hj
    have e : List.take 6 (List.drop (x.toNat * 6) (ints t)) = ints (purse t x.toNat) := by rw [ints_drop, ints_take]; rfl
    simp only [isBool_bool, flag_bool, Bool.not_true, brW_false, true_and, Nat.zero_add, e, wr_purse (purse t x.toNat) hp, ints_len, hp, ints_isInt, ints_num, ht]
    refine ⟨⟨hx.1, hx.2.1⟩, by omega, by omega, ?_⟩
    by_cases h1 : s = 1
    · simp [h1, f14_end1, at_, q]
    · simp [h1, beq_dec, f14_end1, at_, q]
theorem refFree_any {t : List Int} (ht : t.length = 49) {x s : Int} {h : Heap} {K : V → Heap → Prop} (m : K (.int .i64 (free t x s)) h) : AnyW Try.prog 14 [.agg (ints t), .int .i64 x, .int .i64 s] h K := AnyW.eq e14 (refFree_call t ht x s h) m

/-- So much more of an asset, so much more held. -/
def putT (t : List Int) (x s n m : Int) : List Int := (t.set (at_ x s) (IntKind.i64.wrap (gi t (at_ x s) + n))).set (at_ x s + 2) (IntKind.i64.wrap (gi t (at_ x s + 2) + m))
theorem putT_len (t : List Int) (x s n m : Int) : (putT t x s n m).length = t.length := by simp [putT]

theorem put_call (t : List Int) (ht : t.length = 49) (x s n m : Int) (hx : 0 ≤ x ∧ x < 8) (h : Heap) : CallW Try.prog 59 [.agg (ints t), .int .i64 x, .int .i64 s, .int .i64 n, .int .i64 m] h (fun r h' => r = .agg (ints (putT t x s n m)) ∧ h' = h) := by
  refine CallW.body mix f59_cf Try.func59 (by rw [Try.ntmps59]; simp) ?_
  rw [f59_entry, f59_n_wp]
  refine ⟨by simp [ht], trivial, ?_⟩
  rw [f59_n1_eq, wpA_seq, f59_n10_wp]
  have hb : x.toNat * 6 + 5 < 48 := by omega
  unfold putT at_
  generalize x.toNat * 6 = b at *
  by_cases h1 : s = 1
  · simp [h1, hx, ht, show b < 49 from by omega, show b ≤ 48 from by omega, show b + 2 < 49 from by omega, show b ≤ 46 from by omega, ints_wr1, gi_set, f59_n11_wp, f59_end1, take_all, wr_all]
  · simp [h1, beq_dec, hx, ht, show b + 1 < 49 from by omega, show b ≤ 47 from by omega, show b + 3 < 49 from by omega, show b ≤ 45 from by omega, ints_wr1, gi_set, f59_n11_wp, f59_end1, take_all, wr_all]
theorem put_any {t : List Int} (ht : t.length = 49) {x s n m : Int} (hx : 0 ≤ x ∧ x < 8) {h : Heap} {K : V → Heap → Prop} (k : K (.agg (ints (putT t x s n m))) h) : AnyW Try.prog 59 [.agg (ints t), .int .i64 x, .int .i64 s, .int .i64 n, .int .i64 m] h K := AnyW.eq e59 (put_call t ht x s n m hx h) k
end

section
set_option linter.all false
set_option maxRecDepth 100000
open Go Go.Proofs Jb
def f12_cf : Cfg := ⟨[], [(0, [0, 2, 3]), (1, [5, 8, 9, 10, 11, 12]), (2, [1, 7, 13, 14, 15, 16, 17]), (3, [4, 6, 18, 19])]⟩
noncomputable def f12_b : Code := bodyOf Try.f12
noncomputable def f12_n : Code :=  (codeAt [] f12_b)
theorem f12_entry (t : List Int) (h : Heap) (K : V → Heap → Prop) : bodyW Try.prog f12_cf Try.f12 [(V.agg (ints t))] h K = wpA Try.prog f12_cf f12_n ⟨[(V.agg (ints t)), V.undef, V.undef, V.undef, V.undef, V.undef, V.undef, V.undef, V.undef, V.undef, V.undef, V.undef, V.undef, V.undef, V.undef, V.undef, V.undef, V.undef, V.undef, V.undef], []⟩ h (bodyK Try.prog Try.f12 K) := by kernel_rfl
theorem f12_n_plug : f12_n = (codeAt [] f12_b) := by
  simp only [f12_n, hide_eq]
  try kernel_rfl
theorem f12_n_wp (t : List Int) (h : Heap) (Q : Ex → Fr → Heap → Prop) : wpA Try.prog f12_cf f12_n ⟨[(V.agg (ints t)), V.undef, V.undef, V.undef, V.undef, V.undef, V.undef, V.undef, V.undef, V.undef, V.undef, V.undef, V.undef, V.undef, V.undef, V.undef, V.undef, V.undef, V.undef, V.undef], []⟩ h Q =
 (((List.length (ints t)) = 49) ∧ ((0 + 49 ≤ (List.length (ints t))) ∧ (let cz1 : List V := (List.take 49 (List.drop 0 (ints t)));
 (AnyW Try.prog 28 [(V.agg cz1), (V.int Go.IntKind.i64 (1 : Int)), (V.int Go.IntKind.i64 (0 : Int))] h (fun (rz2 : V) (hz3 : Heap) =>
 (V.isTup 2 rz2 = true ∧ ((True ∧ V.isInt Go.IntKind.i64 (gv (V.vs rz2) 0) = true) ∧ (let iz4 : Int := (V.num (gv (V.vs rz2) 0));
 ((True ∧ V.isBool (gv (V.vs rz2) 1) = true) ∧ (let bz5 : Bool := (V.flag (gv (V.vs rz2) 1));
 ((true = true) ∧ ((true = true) ∧ ((0 + 49 ≤ (List.length (ints t))) ∧ (let cz6 : List V := (List.take 49 (List.drop 0 (ints t)));
 (AnyW Try.prog 28 [(V.agg cz6), (V.int Go.IntKind.i64 (2 : Int)), (V.int Go.IntKind.i64 (0 : Int))] hz3 (fun (rz7 : V) (hz8 : Heap) =>
 (V.isTup 2 rz7 = true ∧ ((True ∧ V.isInt Go.IntKind.i64 (gv (V.vs rz7) 0) = true) ∧ (let iz9 : Int := (V.num (gv (V.vs rz7) 0));
 ((True ∧ V.isBool (gv (V.vs rz7) 1) = true) ∧ (let bz10 : Bool := (V.flag (gv (V.vs rz7) 1));
 ((true = true) ∧ ((true = true) ∧ (Q Ex.ret ⟨[V.undef, V.undef, (V.int Go.IntKind.i64 iz4), (V.int Go.IntKind.i64 iz9), V.undef, V.undef, V.undef, V.undef, V.undef, V.undef, V.undef, V.undef, V.undef, V.undef, V.undef, V.undef, V.undef, V.undef, V.undef, V.undef], []⟩ hz8)))))))))))))))))))))))) := wpA_at f12_n_plug (by kernel_rfl)
theorem f12_end1 (x0 : Int) (x1 : Int) (h : Heap) (K : V → Heap → Prop) : bodyK Try.prog Try.f12 K Ex.ret ⟨[V.undef, V.undef, (V.int Go.IntKind.i64 x0), (V.int Go.IntKind.i64 x1), V.undef, V.undef, V.undef, V.undef, V.undef, V.undef, V.undef, V.undef, V.undef, V.undef, V.undef, V.undef, V.undef, V.undef, V.undef, V.undef], []⟩ h = (K (V.tup [(V.int Go.IntKind.i64 x0), (V.int Go.IntKind.i64 x1)]) h) := by kernel_rfl
end
