/- Proved here: of Keeps5, that what the Go functions of this part compute is as their contracts say (texts S9, S38, S40, S37, S35, S60, Ch, Cg, Cf, S43, S41, Co, S7), for every input; no condition beyond those that each theorem states. -/
import Derived.Test.YtmcmknjoegjalaaKeeps2
import Derived.KernelRfl
import Derived.Test.YtmcmknjoegjalaaProg
import Derived.Test.YtmcmknjoegjalaaKeeps4
set_option linter.all false
section
set_option linter.all false
set_option maxRecDepth 100000
open Go Go.Proofs Jb
def f9_cf : Cfg := ⟨[], [(0, [0, 2]), (1, [9, 10, 11]), (2, [1, 12]), (3, [12]), (4, [13]), (5, [15, 16, 68]), (6, [14, 17, 18, 19, 20]), (7, [4, 21, 22, 23, 24, 25, 26, 27, 28, 29, 30, 31, 32, 33, 34, 35, 36, 37, 38, 39, 40, 41, 42, 43, 44, 45, 46, 47, 48, 49, 50, 51, 52, 53, 54, 55, 56, 57, 58, 59, 60, 61, 62, 63, 64, 65, 66, 67]), (8, [1, 3, 68]), (9, [3, 5, 14, 69, 70, 71, 72, 73]), (10, [1, 7, 74, 75, 76, 77, 78]), (11, [6, 8, 79, 80, 81, 82])]⟩
noncomputable def f9_b : Code := bodyOf Try.f9
noncomputable def f9_n : Code :=  (codeAt [] f9_b)
noncomputable def f9_n11 : Code := hide (codeAt [1, 1] f9_b)
noncomputable def f9_n110 : Code := hide (codeAt [1, 1, 0] f9_b)
noncomputable def f9_n11010 : Code := hide (codeAt [1, 1, 0, 1, 0] f9_b)
noncomputable def f9_n110100 : Code := hide (codeAt [1, 1, 0, 1, 0, 0] f9_b)
noncomputable def f9_n1101001 : Code := hide (codeAt [1, 1, 0, 1, 0, 0, 1] f9_b)
noncomputable def f9_n111 : Code := hide (codeAt [1, 1, 1] f9_b)
noncomputable def f9_n11010010 : Code := hide (codeAt [1, 1, 0, 1, 0, 0, 1, 0] f9_b)
noncomputable def f9_n1101001001 : Code := hide (codeAt [1, 1, 0, 1, 0, 0, 1, 0, 0, 1] f9_b)
noncomputable def f9_n11010010010 : Code := hide (codeAt [1, 1, 0, 1, 0, 0, 1, 0, 0, 1, 0] f9_b)
noncomputable def f9_n11010010011 : Code := hide (codeAt [1, 1, 0, 1, 0, 0, 1, 0, 0, 1, 1] f9_b)
noncomputable def f9_n11010011 : Code := hide (codeAt [1, 1, 0, 1, 0, 0, 1, 1] f9_b)
theorem f9_entry (t : List Int) (h : Heap) (K : V → Heap → Prop) : bodyW Try.prog f9_cf Try.f9 [(V.agg (ints t))] h K = wpA Try.prog f9_cf f9_n ⟨[(V.agg (ints t)), V.undef, V.undef, V.undef, V.undef, V.undef, V.undef, V.undef, V.undef, V.undef, V.undef, V.undef, V.undef, V.undef, V.undef, V.undef, V.undef, V.undef, V.undef, V.undef, V.undef, V.undef, V.undef, V.undef, V.undef, V.undef, V.undef, V.undef, V.undef, V.undef, V.undef, V.undef, V.undef, V.undef, V.undef, V.undef, V.undef, V.undef, V.undef, V.undef, V.undef, V.undef, V.undef, V.undef, V.undef, V.undef, V.undef, V.undef, V.undef, V.undef, V.undef, V.undef, V.undef, V.undef, V.undef, V.undef, V.undef, V.undef, V.undef, V.undef, V.undef, V.undef, V.undef, V.undef, V.undef, V.undef, V.undef, V.undef, V.undef, V.undef, V.undef, V.undef, V.undef, V.undef, V.undef, V.undef, V.undef, V.undef, V.undef, V.undef, V.undef, V.undef, V.undef], []⟩ h (bodyK Try.prog Try.f9 K) := by kernel_rfl
theorem f9_n_plug : f9_n = (plug [1, 1] (codeAt [] f9_b) f9_n11) := by
  simp only [f9_n, f9_n11, hide_eq]
  try kernel_rfl
theorem f9_n_wp (t : List Int) (h : Heap) (Q : Ex → Fr → Heap → Prop) : wpA Try.prog f9_cf f9_n ⟨[(V.agg (ints t)), V.undef, V.undef, V.undef, V.undef, V.undef, V.undef, V.undef, V.undef, V.undef, V.undef, V.undef, V.undef, V.undef, V.undef, V.undef, V.undef, V.undef, V.undef, V.undef, V.undef, V.undef, V.undef, V.undef, V.undef, V.undef, V.undef, V.undef, V.undef, V.undef, V.undef, V.undef, V.undef, V.undef, V.undef, V.undef, V.undef, V.undef, V.undef, V.undef, V.undef, V.undef, V.undef, V.undef, V.undef, V.undef, V.undef, V.undef, V.undef, V.undef, V.undef, V.undef, V.undef, V.undef, V.undef, V.undef, V.undef, V.undef, V.undef, V.undef, V.undef, V.undef, V.undef, V.undef, V.undef, V.undef, V.undef, V.undef, V.undef, V.undef, V.undef, V.undef, V.undef, V.undef, V.undef, V.undef, V.undef, V.undef, V.undef, V.undef, V.undef, V.undef, V.undef], []⟩ h Q =
 (((List.length (ints t)) = 49) ∧ ((48 < (List.length (ints t)) ∧ V.isInt Go.IntKind.i64 (gv (ints t) 48) = true) ∧ (AnyW Try.prog 27 [(V.int Go.IntKind.i64 (V.num (gv (ints t) 48)))] h (fun (rz1 : V) (hz2 : Heap) =>
 ((True ∧ V.isBool rz1 = true) ∧ (brW (!(V.flag rz1))
 (Q Ex.ret ⟨[V.undef, V.undef, (V.bool false), V.undef, V.undef, V.undef, V.undef, V.undef, V.undef, V.undef, V.undef, V.undef, V.undef, V.undef, V.undef, V.undef, V.undef, V.undef, V.undef, V.undef, V.undef, V.undef, V.undef, V.undef, V.undef, V.undef, V.undef, V.undef, V.undef, V.undef, V.undef, V.undef, V.undef, V.undef, V.undef, V.undef, V.undef, V.undef, V.undef, V.undef, V.undef, V.undef, V.undef, V.undef, V.undef, V.undef, V.undef, V.undef, V.undef, V.undef, V.undef, V.undef, V.undef, V.undef, V.undef, V.undef, V.undef, V.undef, V.undef, V.undef, V.undef, V.undef, V.undef, V.undef, V.undef, V.undef, V.undef, V.undef, V.undef, V.undef, V.undef, V.undef, V.undef, V.undef, V.undef, V.undef, V.undef, V.undef, V.undef, V.undef, V.undef, V.undef, V.undef], []⟩ hz2)
 (wpA Try.prog f9_cf f9_n11 ⟨[V.undef, (V.lp 1 0), V.undef, V.undef, V.undef, V.undef, V.undef, V.undef, V.undef, V.undef, V.undef, V.undef, (V.bool (!(V.flag rz1))), V.undef, V.undef, V.undef, V.undef, V.undef, V.undef, V.undef, V.undef, V.undef, V.undef, V.undef, V.undef, V.undef, V.undef, V.undef, V.undef, V.undef, V.undef, V.undef, V.undef, V.undef, V.undef, V.undef, V.undef, V.undef, V.undef, V.undef, V.undef, V.undef, V.undef, V.undef, V.undef, V.undef, V.undef, V.undef, V.undef, V.undef, V.undef, V.undef, V.undef, V.undef, V.undef, V.undef, V.undef, V.undef, V.undef, V.undef, V.undef, V.undef, V.undef, V.undef, V.undef, V.undef, V.undef, V.undef, V.undef, V.undef, V.undef, V.undef, V.undef, V.undef, V.undef, V.undef, V.undef, V.undef, V.undef, V.undef, V.undef, V.undef, V.undef], [(1, (ints t))]⟩ hz2 Q))))))) := wpA_at f9_n_plug (by kernel_rfl)
theorem f9_n11_eq : f9_n11 = Code.seq f9_n110 f9_n111 := by
  simp only [f9_n11, f9_n110, f9_n111, hide_eq]
  kernel_rfl
theorem f9_n110_plug : f9_n110 = (plug [1, 0] (codeAt [1, 1, 0] f9_b) f9_n11010) := by
  simp only [f9_n110, f9_n11010, hide_eq]
  try kernel_rfl
theorem f9_n110_wp (b0 : Bool) (c1 : List V) (h : Heap) (Q : Ex → Fr → Heap → Prop) : wpA Try.prog f9_cf f9_n110 ⟨[V.undef, (V.lp 1 0), V.undef, V.undef, V.undef, V.undef, V.undef, V.undef, V.undef, V.undef, V.undef, V.undef, (V.bool b0), V.undef, V.undef, V.undef, V.undef, V.undef, V.undef, V.undef, V.undef, V.undef, V.undef, V.undef, V.undef, V.undef, V.undef, V.undef, V.undef, V.undef, V.undef, V.undef, V.undef, V.undef, V.undef, V.undef, V.undef, V.undef, V.undef, V.undef, V.undef, V.undef, V.undef, V.undef, V.undef, V.undef, V.undef, V.undef, V.undef, V.undef, V.undef, V.undef, V.undef, V.undef, V.undef, V.undef, V.undef, V.undef, V.undef, V.undef, V.undef, V.undef, V.undef, V.undef, V.undef, V.undef, V.undef, V.undef, V.undef, V.undef, V.undef, V.undef, V.undef, V.undef, V.undef, V.undef, V.undef, V.undef, V.undef, V.undef, V.undef, V.undef, V.undef], [(1, c1)]⟩ h Q =
 (wpA Try.prog f9_cf f9_n11010 ⟨[V.undef, (V.lp 1 0), V.undef, (V.int Go.IntKind.i64 (0 : Int)), V.undef, V.undef, V.undef, V.undef, V.undef, V.undef, V.undef, V.undef, V.undef, V.undef, V.undef, V.undef, V.undef, V.undef, V.undef, V.undef, V.undef, V.undef, V.undef, V.undef, V.undef, V.undef, V.undef, V.undef, V.undef, V.undef, V.undef, V.undef, V.undef, V.undef, V.undef, V.undef, V.undef, V.undef, V.undef, V.undef, V.undef, V.undef, V.undef, V.undef, V.undef, V.undef, V.undef, V.undef, V.undef, V.undef, V.undef, V.undef, V.undef, V.undef, V.undef, V.undef, V.undef, V.undef, V.undef, V.undef, V.undef, V.undef, V.undef, V.undef, V.undef, V.undef, V.undef, V.undef, V.undef, V.undef, V.undef, V.undef, V.undef, V.undef, V.undef, V.undef, V.undef, V.undef, V.undef, V.undef, V.undef, V.undef, V.undef], [(1, c1)]⟩ h (blockK 0 Q)) := wpA_at f9_n110_plug (by kernel_rfl)
theorem f9_n11010_eq : f9_n11010 = Code.loop f9_n110100 := by
  simp only [f9_n11010, f9_n110100, hide_eq]
  kernel_rfl
def f9_n110100_F (x0 : Int) (c1 : List V) : Fr := ⟨[V.undef, (V.lp 1 0), V.undef, (V.int Go.IntKind.i64 x0), V.undef, V.undef, V.undef, V.undef, V.undef, V.undef, V.undef, V.undef, V.undef, V.undef, V.undef, V.undef, V.undef, V.undef, V.undef, V.undef, V.undef, V.undef, V.undef, V.undef, V.undef, V.undef, V.undef, V.undef, V.undef, V.undef, V.undef, V.undef, V.undef, V.undef, V.undef, V.undef, V.undef, V.undef, V.undef, V.undef, V.undef, V.undef, V.undef, V.undef, V.undef, V.undef, V.undef, V.undef, V.undef, V.undef, V.undef, V.undef, V.undef, V.undef, V.undef, V.undef, V.undef, V.undef, V.undef, V.undef, V.undef, V.undef, V.undef, V.undef, V.undef, V.undef, V.undef, V.undef, V.undef, V.undef, V.undef, V.undef, V.undef, V.undef, V.undef, V.undef, V.undef, V.undef, V.undef, V.undef, V.undef, V.undef, V.undef], [(1, c1)]⟩
theorem f9_n110100_plug : f9_n110100 = (plug [1] (codeAt [1, 1, 0, 1, 0, 0] f9_b) f9_n1101001) := by
  simp only [f9_n110100, f9_n1101001, hide_eq]
  try kernel_rfl
theorem f9_n110100_wp (x0 : Int) (c1 : List V) (h : Heap) (Q : Ex → Fr → Heap → Prop) : wpA Try.prog f9_cf f9_n110100 ⟨[V.undef, (V.lp 1 0), V.undef, (V.int Go.IntKind.i64 x0), V.undef, V.undef, V.undef, V.undef, V.undef, V.undef, V.undef, V.undef, V.undef, V.undef, V.undef, V.undef, V.undef, V.undef, V.undef, V.undef, V.undef, V.undef, V.undef, V.undef, V.undef, V.undef, V.undef, V.undef, V.undef, V.undef, V.undef, V.undef, V.undef, V.undef, V.undef, V.undef, V.undef, V.undef, V.undef, V.undef, V.undef, V.undef, V.undef, V.undef, V.undef, V.undef, V.undef, V.undef, V.undef, V.undef, V.undef, V.undef, V.undef, V.undef, V.undef, V.undef, V.undef, V.undef, V.undef, V.undef, V.undef, V.undef, V.undef, V.undef, V.undef, V.undef, V.undef, V.undef, V.undef, V.undef, V.undef, V.undef, V.undef, V.undef, V.undef, V.undef, V.undef, V.undef, V.undef, V.undef, V.undef, V.undef, V.undef], [(1, c1)]⟩ h Q =
 (let bz3 : Bool := (decide (x0 < (8 : Int)));
 (brW bz3
 (wpA Try.prog f9_cf f9_n1101001 ⟨[V.undef, (V.lp 1 0), V.undef, (V.int Go.IntKind.i64 x0), V.undef, V.undef, V.undef, V.undef, V.undef, V.undef, V.undef, V.undef, V.undef, V.undef, (V.bool bz3), V.undef, V.undef, V.undef, V.undef, V.undef, V.undef, V.undef, V.undef, V.undef, V.undef, V.undef, V.undef, V.undef, V.undef, V.undef, V.undef, V.undef, V.undef, V.undef, V.undef, V.undef, V.undef, V.undef, V.undef, V.undef, V.undef, V.undef, V.undef, V.undef, V.undef, V.undef, V.undef, V.undef, V.undef, V.undef, V.undef, V.undef, V.undef, V.undef, V.undef, V.undef, V.undef, V.undef, V.undef, V.undef, V.undef, V.undef, V.undef, V.undef, V.undef, V.undef, V.undef, V.undef, V.undef, V.undef, V.undef, V.undef, V.undef, V.undef, V.undef, V.undef, V.undef, V.undef, V.undef, V.undef, V.undef, V.undef, V.undef], [(1, c1)]⟩ h Q)
 (Q (Ex.exit 0) ⟨[V.undef, (V.lp 1 0), V.undef, (V.int Go.IntKind.i64 x0), V.undef, V.undef, V.undef, V.undef, V.undef, V.undef, V.undef, V.undef, V.undef, V.undef, (V.bool bz3), V.undef, V.undef, V.undef, V.undef, V.undef, V.undef, V.undef, V.undef, V.undef, V.undef, V.undef, V.undef, V.undef, V.undef, V.undef, V.undef, V.undef, V.undef, V.undef, V.undef, V.undef, V.undef, V.undef, V.undef, V.undef, V.undef, V.undef, V.undef, V.undef, V.undef, V.undef, V.undef, V.undef, V.undef, V.undef, V.undef, V.undef, V.undef, V.undef, V.undef, V.undef, V.undef, V.undef, V.undef, V.undef, V.undef, V.undef, V.undef, V.undef, V.undef, V.undef, V.undef, V.undef, V.undef, V.undef, V.undef, V.undef, V.undef, V.undef, V.undef, V.undef, V.undef, V.undef, V.undef, V.undef, V.undef, V.undef, V.undef], [(1, c1)]⟩ h))) := wpA_at f9_n110100_plug (by kernel_rfl)
theorem f9_n1101001_eq : f9_n1101001 = Code.seq f9_n11010010 f9_n11010011 := by
  simp only [f9_n1101001, f9_n11010010, f9_n11010011, hide_eq]
  kernel_rfl
theorem f9_n111_plug : f9_n111 = (codeAt [1, 1, 1] f9_b) := by
  simp only [f9_n111, hide_eq]
  try kernel_rfl
theorem f9_n111_wp (x0 : Int) (b1 : Bool) (c2 : List V) (h : Heap) (Q : Ex → Fr → Heap → Prop) : wpA Try.prog f9_cf f9_n111 ⟨[V.undef, (V.lp 1 0), V.undef, (V.int Go.IntKind.i64 x0), V.undef, V.undef, V.undef, V.undef, V.undef, V.undef, V.undef, V.undef, V.undef, V.undef, (V.bool b1), V.undef, V.undef, V.undef, V.undef, V.undef, V.undef, V.undef, V.undef, V.undef, V.undef, V.undef, V.undef, V.undef, V.undef, V.undef, V.undef, V.undef, V.undef, V.undef, V.undef, V.undef, V.undef, V.undef, V.undef, V.undef, V.undef, V.undef, V.undef, V.undef, V.undef, V.undef, V.undef, V.undef, V.undef, V.undef, V.undef, V.undef, V.undef, V.undef, V.undef, V.undef, V.undef, V.undef, V.undef, V.undef, V.undef, V.undef, V.undef, V.undef, V.undef, V.undef, V.undef, V.undef, V.undef, V.undef, V.undef, V.undef, V.undef, V.undef, V.undef, V.undef, V.undef, V.undef, V.undef, V.undef, V.undef, V.undef, V.undef], [(1, c2)]⟩ h Q =
 ((0 + 49 ≤ (List.length c2)) ∧ (let cz4 : List V := (List.take 49 (List.drop 0 c2));
 (AnyW Try.prog 28 [(V.agg cz4), (V.int Go.IntKind.i64 (1 : Int)), (V.int Go.IntKind.i64 (0 : Int))] h (fun (rz5 : V) (hz6 : Heap) =>
 (V.isTup 2 rz5 = true ∧ ((True ∧ V.isInt Go.IntKind.i64 (gv (V.vs rz5) 0) = true) ∧ (let iz7 : Int := (V.num (gv (V.vs rz5) 0));
 ((True ∧ V.isBool (gv (V.vs rz5) 1) = true) ∧ (let bz8 : Bool := (V.flag (gv (V.vs rz5) 1));
 ((true = true) ∧ ((true = true) ∧ ((0 + 49 ≤ (List.length c2)) ∧ (let cz9 : List V := (List.take 49 (List.drop 0 c2));
 (AnyW Try.prog 28 [(V.agg cz9), (V.int Go.IntKind.i64 (2 : Int)), (V.int Go.IntKind.i64 (0 : Int))] hz6 (fun (rz10 : V) (hz11 : Heap) =>
 (V.isTup 2 rz10 = true ∧ ((True ∧ V.isInt Go.IntKind.i64 (gv (V.vs rz10) 0) = true) ∧ (let iz12 : Int := (V.num (gv (V.vs rz10) 0));
 ((True ∧ V.isBool (gv (V.vs rz10) 1) = true) ∧ (let bz13 : Bool := (V.flag (gv (V.vs rz10) 1));
 ((true = true) ∧ ((true = true) ∧ (((bz8 = true → bz8 = true) ∧ True) ∧ (Q Ex.ret ⟨[V.undef, V.undef, (V.bool (cond bz8 bz13 false)), V.undef, V.undef, V.undef, V.undef, V.undef, V.undef, V.undef, V.undef, V.undef, V.undef, V.undef, V.undef, V.undef, V.undef, V.undef, V.undef, V.undef, V.undef, V.undef, V.undef, V.undef, V.undef, V.undef, V.undef, V.undef, V.undef, V.undef, V.undef, V.undef, V.undef, V.undef, V.undef, V.undef, V.undef, V.undef, V.undef, V.undef, V.undef, V.undef, V.undef, V.undef, V.undef, V.undef, V.undef, V.undef, V.undef, V.undef, V.undef, V.undef, V.undef, V.undef, V.undef, V.undef, V.undef, V.undef, V.undef, V.undef, V.undef, V.undef, V.undef, V.undef, V.undef, V.undef, V.undef, V.undef, V.undef, V.undef, V.undef, V.undef, V.undef, V.undef, V.undef, V.undef, V.undef, V.undef, V.undef, V.undef, V.undef, V.undef, V.undef], []⟩ hz11)))))))))))))))))))))))) := wpA_at f9_n111_plug (by kernel_rfl)
theorem f9_n11010010_plug : f9_n11010010 = (plug [0, 1] (codeAt [1, 1, 0, 1, 0, 0, 1, 0] f9_b) f9_n1101001001) := by
  simp only [f9_n11010010, f9_n1101001001, hide_eq]
  try kernel_rfl
theorem f9_n11010010_wp (x0 : Int) (b1 : Bool) (c2 : List V) (h : Heap) (Q : Ex → Fr → Heap → Prop) : wpA Try.prog f9_cf f9_n11010010 ⟨[V.undef, (V.lp 1 0), V.undef, (V.int Go.IntKind.i64 x0), V.undef, V.undef, V.undef, V.undef, V.undef, V.undef, V.undef, V.undef, V.undef, V.undef, (V.bool b1), V.undef, V.undef, V.undef, V.undef, V.undef, V.undef, V.undef, V.undef, V.undef, V.undef, V.undef, V.undef, V.undef, V.undef, V.undef, V.undef, V.undef, V.undef, V.undef, V.undef, V.undef, V.undef, V.undef, V.undef, V.undef, V.undef, V.undef, V.undef, V.undef, V.undef, V.undef, V.undef, V.undef, V.undef, V.undef, V.undef, V.undef, V.undef, V.undef, V.undef, V.undef, V.undef, V.undef, V.undef, V.undef, V.undef, V.undef, V.undef, V.undef, V.undef, V.undef, V.undef, V.undef, V.undef, V.undef, V.undef, V.undef, V.undef, V.undef, V.undef, V.undef, V.undef, V.undef, V.undef, V.undef, V.undef, V.undef, V.undef], [(1, c2)]⟩ h Q =
 ((0 ≤ x0 ∧ x0 < 8) ∧ (((0 + ((Int.toNat x0) * 6)) + 6 ≤ (List.length c2)) ∧ (let cz14 : List V := (List.take 6 (List.drop (0 + ((Int.toNat x0) * 6)) c2));
 (True ∧ (((List.length cz14) = 6) ∧ 0 + 6 ≤ 6 ∧ (let cz15 : List V := (wrCells [(V.int Go.IntKind.i64 (0 : Int)), (V.int Go.IntKind.i64 (0 : Int)), (V.int Go.IntKind.i64 (0 : Int)), (V.int Go.IntKind.i64 (0 : Int)), (V.int Go.IntKind.i64 (0 : Int)), (V.int Go.IntKind.i64 (0 : Int))] 0 cz14);
 (wpA Try.prog f9_cf f9_n1101001001 ⟨[V.undef, (V.lp 1 0), V.undef, (V.int Go.IntKind.i64 x0), (V.lp 4 0), V.undef, V.undef, V.undef, V.undef, V.undef, V.undef, V.undef, V.undef, V.undef, V.undef, V.undef, V.undef, V.undef, V.undef, V.undef, V.undef, V.undef, V.undef, V.undef, V.undef, V.undef, V.undef, V.undef, V.undef, V.undef, V.undef, V.undef, V.undef, V.undef, V.undef, V.undef, V.undef, V.undef, V.undef, V.undef, V.undef, V.undef, V.undef, V.undef, V.undef, V.undef, V.undef, V.undef, V.undef, V.undef, V.undef, V.undef, V.undef, V.undef, V.undef, V.undef, V.undef, V.undef, V.undef, V.undef, V.undef, V.undef, V.undef, V.undef, V.undef, V.undef, V.undef, V.undef, V.undef, V.undef, V.undef, V.undef, V.undef, V.undef, V.undef, V.undef, V.undef, V.undef, V.undef, V.undef, V.undef, V.undef, V.undef], [(1, c2), (4, cz15)]⟩ h (blockK 1 Q)))))))) := wpA_at f9_n11010010_plug (by kernel_rfl)
theorem f9_n1101001001_eq : f9_n1101001001 = Code.seq f9_n11010010010 f9_n11010010011 := by
  simp only [f9_n1101001001, f9_n11010010010, f9_n11010010011, hide_eq]
  kernel_rfl
def f9_n11010010010_F (x0 : Int) (c1 : List V) (c2 : List V) : Fr := ⟨[V.undef, (V.lp 1 0), V.undef, (V.int Go.IntKind.i64 x0), (V.lp 4 0), V.undef, V.undef, V.undef, V.undef, V.undef, V.undef, V.undef, V.undef, V.undef, V.undef, V.undef, V.undef, V.undef, V.undef, V.undef, V.undef, V.undef, V.undef, V.undef, V.undef, V.undef, V.undef, V.undef, V.undef, V.undef, V.undef, V.undef, V.undef, V.undef, V.undef, V.undef, V.undef, V.undef, V.undef, V.undef, V.undef, V.undef, V.undef, V.undef, V.undef, V.undef, V.undef, V.undef, V.undef, V.undef, V.undef, V.undef, V.undef, V.undef, V.undef, V.undef, V.undef, V.undef, V.undef, V.undef, V.undef, V.undef, V.undef, V.undef, V.undef, V.undef, V.undef, V.undef, V.undef, V.undef, V.undef, V.undef, V.undef, V.undef, V.undef, V.undef, V.undef, V.undef, V.undef, V.undef, V.undef, V.undef, V.undef], [(1, c1), (4, c2)]⟩
theorem f9_n11010010010_plug : f9_n11010010010 = (codeAt [1, 1, 0, 1, 0, 0, 1, 0, 0, 1, 0] f9_b) := by
  simp only [f9_n11010010010, hide_eq]
  try kernel_rfl
theorem f9_n11010010010_wp (x0 : Int) (c1 : List V) (c2 : List V) (h : Heap) (Q : Ex → Fr → Heap → Prop) : wpA Try.prog f9_cf f9_n11010010010 ⟨[V.undef, (V.lp 1 0), V.undef, (V.int Go.IntKind.i64 x0), (V.lp 4 0), V.undef, V.undef, V.undef, V.undef, V.undef, V.undef, V.undef, V.undef, V.undef, V.undef, V.undef, V.undef, V.undef, V.undef, V.undef, V.undef, V.undef, V.undef, V.undef, V.undef, V.undef, V.undef, V.undef, V.undef, V.undef, V.undef, V.undef, V.undef, V.undef, V.undef, V.undef, V.undef, V.undef, V.undef, V.undef, V.undef, V.undef, V.undef, V.undef, V.undef, V.undef, V.undef, V.undef, V.undef, V.undef, V.undef, V.undef, V.undef, V.undef, V.undef, V.undef, V.undef, V.undef, V.undef, V.undef, V.undef, V.undef, V.undef, V.undef, V.undef, V.undef, V.undef, V.undef, V.undef, V.undef, V.undef, V.undef, V.undef, V.undef, V.undef, V.undef, V.undef, V.undef, V.undef, V.undef, V.undef, V.undef, V.undef], [(1, c1), (4, c2)]⟩ h Q =
 ((0 < (List.length c2) ∧ V.isInt Go.IntKind.i64 (gv c2 0) = true) ∧ (AnyW Try.prog 27 [(V.int Go.IntKind.i64 (V.num (gv c2 0)))] h (fun (rz16 : V) (hz17 : Heap) =>
 ((True ∧ V.isBool rz16 = true) ∧ (((!(!(V.flag rz16))) = true → (!(!(V.flag rz16))) = true) ∧ (((!(!(V.flag rz16))) = true → (1 < (List.length c2) ∧ V.isInt Go.IntKind.i64 (gv c2 1) = true)) ∧ (let kz18 : Bool → Heap → Prop := fun (xz19 : Bool) (hz20 : Heap) =>
 (((!(!(V.flag rz16))) = true → (!(!(V.flag rz16))) = true) ∧ ((((!(V.flag rz16)) = false → (!(!(V.flag rz16))) = true) ∧ True) ∧ (let bz21 : Bool := (cond (!(V.flag rz16)) true (!xz19));
 (((!bz21) = true → (!bz21) = true) ∧ (((!bz21) = true → (2 < (List.length c2) ∧ V.isInt Go.IntKind.i64 (gv c2 2) = true)) ∧ (let kz22 : Bool → Heap → Prop := fun (xz23 : Bool) (hz24 : Heap) =>
 (((!bz21) = true → (!bz21) = true) ∧ (((bz21 = false → (!bz21) = true) ∧ True) ∧ (let bz25 : Bool := (!(cond bz21 true (!xz23)));
 (((!(cond bz21 true (!xz23))) = true → bz25 = true) ∧ (((!(cond bz21 true (!xz23))) = true → (3 < (List.length c2) ∧ V.isInt Go.IntKind.i64 (gv c2 3) = true)) ∧ (let bz26 : Bool := (!(cond bz21 true (!xz23)));
 (let kz27 : Bool → Heap → Prop := fun (xz28 : Bool) (hz29 : Heap) =>
 (((!(cond bz21 true (!xz23))) = true → (!(cond bz21 true (!xz23))) = true) ∧ (let bz30 : Bool := (!(cond bz21 true (!xz23)));
 ((((cond bz21 true (!xz23)) = false → bz30 = true) ∧ True) ∧ (let bz31 : Bool := (cond (cond bz21 true (!xz23)) true (!xz28));
 (((!bz31) = true → (!bz31) = true) ∧ (((!bz31) = true → (4 < (List.length c2) ∧ V.isInt Go.IntKind.i64 (gv c2 4) = true)) ∧ (let kz32 : Bool → Heap → Prop := fun (xz33 : Bool) (hz34 : Heap) =>
 (((!bz31) = true → (!bz31) = true) ∧ (((bz31 = false → (!bz31) = true) ∧ True) ∧ (let bz35 : Bool := (!(cond bz31 true (!xz33)));
 (((!(cond bz31 true (!xz33))) = true → bz35 = true) ∧ (((!(cond bz31 true (!xz33))) = true → (5 < (List.length c2) ∧ V.isInt Go.IntKind.i64 (gv c2 5) = true)) ∧ (let bz36 : Bool := (!(cond bz31 true (!xz33)));
 (let kz37 : Bool → Heap → Prop := fun (xz38 : Bool) (hz39 : Heap) =>
 (((!(cond bz31 true (!xz33))) = true → (!(cond bz31 true (!xz33))) = true) ∧ (let bz40 : Bool := (!(cond bz31 true (!xz33)));
 ((((cond bz31 true (!xz33)) = false → bz40 = true) ∧ True) ∧ (let bz41 : Bool := (cond (cond bz31 true (!xz33)) true (!xz38));
 (((!bz41) = true → (!bz41) = true) ∧ (((!bz41) = true → (2 < (List.length c2) ∧ V.isInt Go.IntKind.i64 (gv c2 2) = true)) ∧ (((!bz41) = true → (!bz41) = true) ∧ (((!bz41) = true → (0 < (List.length c2) ∧ V.isInt Go.IntKind.i64 (gv c2 0) = true)) ∧ (((!bz41) = true → (!bz41) = true) ∧ (((!bz41) = true → (!bz41) = true) ∧ (let bz42 : Bool := (decide ((V.num (gv c2 0)) < (V.num (gv c2 2))));
 (((bz41 = false → (!bz41) = true) ∧ True) ∧ (((!(cond bz41 true bz42)) = true → (!(cond bz41 true bz42)) = true) ∧ (((!(cond bz41 true bz42)) = true → (3 < (List.length c2) ∧ V.isInt Go.IntKind.i64 (gv c2 3) = true)) ∧ (((!(cond bz41 true bz42)) = true → (!(cond bz41 true bz42)) = true) ∧ (((!(cond bz41 true bz42)) = true → (1 < (List.length c2) ∧ V.isInt Go.IntKind.i64 (gv c2 1) = true)) ∧ (((!(cond bz41 true bz42)) = true → (!(cond bz41 true bz42)) = true) ∧ (((!(cond bz41 true bz42)) = true → (!(cond bz41 true bz42)) = true) ∧ (let bz43 : Bool := (decide ((V.num (gv c2 1)) < (V.num (gv c2 3))));
 ((((cond bz41 true bz42) = false → (!(cond bz41 true bz42)) = true) ∧ True) ∧ (let bz44 : Bool := (cond (cond bz41 true bz42) true bz43);
 (Q Ex.normal ⟨[V.undef, (V.lp 1 0), V.undef, (V.int Go.IntKind.i64 x0), V.undef, V.undef, V.undef, V.undef, V.undef, V.undef, V.undef, V.undef, V.undef, V.undef, V.undef, V.undef, V.undef, V.undef, V.undef, V.undef, V.undef, V.undef, V.undef, V.undef, V.undef, V.undef, V.undef, V.undef, V.undef, V.undef, V.undef, V.undef, V.undef, V.undef, V.undef, V.undef, V.undef, V.undef, V.undef, V.undef, V.undef, V.undef, V.undef, V.undef, V.undef, V.undef, V.undef, V.undef, V.undef, V.undef, V.undef, V.undef, V.undef, V.undef, V.undef, V.undef, V.undef, V.undef, V.undef, V.undef, V.undef, V.undef, V.undef, V.undef, V.undef, V.undef, V.undef, V.undef, (V.bool bz44), V.undef, V.undef, V.undef, V.undef, V.undef, V.undef, V.undef, V.undef, V.undef, V.undef, V.undef, V.undef, V.undef, V.undef], [(1, c1)]⟩ hz39))))))))))))))))))))));
 brW (!(cond bz31 true (!xz33)))
 ((bz36 = true) ∧ (AnyW Try.prog 27 [(V.int Go.IntKind.i64 (V.num (gv c2 5)))] hz34 (fun (rz45 : V) (hz46 : Heap) =>
 ((True ∧ V.isBool rz45 = true) ∧ (kz37 (V.flag rz45) hz46)))))
 (kz37 false hz34))))))));
 brW (!bz31)
 (((!bz31) = true) ∧ (AnyW Try.prog 27 [(V.int Go.IntKind.i64 (V.num (gv c2 4)))] hz29 (fun (rz47 : V) (hz48 : Heap) =>
 ((True ∧ V.isBool rz47 = true) ∧ (kz32 (V.flag rz47) hz48)))))
 (kz32 false hz29))))))));
 brW (!(cond bz21 true (!xz23)))
 ((bz26 = true) ∧ (AnyW Try.prog 27 [(V.int Go.IntKind.i64 (V.num (gv c2 3)))] hz24 (fun (rz49 : V) (hz50 : Heap) =>
 ((True ∧ V.isBool rz49 = true) ∧ (kz27 (V.flag rz49) hz50)))))
 (kz27 false hz24))))))));
 brW (!bz21)
 (((!bz21) = true) ∧ (AnyW Try.prog 27 [(V.int Go.IntKind.i64 (V.num (gv c2 2)))] hz20 (fun (rz51 : V) (hz52 : Heap) =>
 ((True ∧ V.isBool rz51 = true) ∧ (kz22 (V.flag rz51) hz52)))))
 (kz22 false hz20)))))));
 brW (!(!(V.flag rz16)))
 (((!(!(V.flag rz16))) = true) ∧ (AnyW Try.prog 27 [(V.int Go.IntKind.i64 (V.num (gv c2 1)))] hz17 (fun (rz53 : V) (hz54 : Heap) =>
 ((True ∧ V.isBool rz53 = true) ∧ (kz18 (V.flag rz53) hz54)))))
 (kz18 false hz17)))))))) := wpA_at f9_n11010010010_plug (by kernel_rfl)
def f9_n11010010011_F (x0 : Int) (b1 : Bool) (c2 : List V) : Fr := ⟨[V.undef, (V.lp 1 0), V.undef, (V.int Go.IntKind.i64 x0), V.undef, V.undef, V.undef, V.undef, V.undef, V.undef, V.undef, V.undef, V.undef, V.undef, V.undef, V.undef, V.undef, V.undef, V.undef, V.undef, V.undef, V.undef, V.undef, V.undef, V.undef, V.undef, V.undef, V.undef, V.undef, V.undef, V.undef, V.undef, V.undef, V.undef, V.undef, V.undef, V.undef, V.undef, V.undef, V.undef, V.undef, V.undef, V.undef, V.undef, V.undef, V.undef, V.undef, V.undef, V.undef, V.undef, V.undef, V.undef, V.undef, V.undef, V.undef, V.undef, V.undef, V.undef, V.undef, V.undef, V.undef, V.undef, V.undef, V.undef, V.undef, V.undef, V.undef, V.undef, (V.bool b1), V.undef, V.undef, V.undef, V.undef, V.undef, V.undef, V.undef, V.undef, V.undef, V.undef, V.undef, V.undef, V.undef, V.undef], [(1, c2)]⟩
theorem f9_n11010010011_plug : f9_n11010010011 = (codeAt [1, 1, 0, 1, 0, 0, 1, 0, 0, 1, 1] f9_b) := by
  simp only [f9_n11010010011, hide_eq]
  try kernel_rfl
theorem f9_n11010010011_wp (x0 : Int) (b1 : Bool) (c2 : List V) (h : Heap) (Q : Ex → Fr → Heap → Prop) : wpA Try.prog f9_cf f9_n11010010011 ⟨[V.undef, (V.lp 1 0), V.undef, (V.int Go.IntKind.i64 x0), V.undef, V.undef, V.undef, V.undef, V.undef, V.undef, V.undef, V.undef, V.undef, V.undef, V.undef, V.undef, V.undef, V.undef, V.undef, V.undef, V.undef, V.undef, V.undef, V.undef, V.undef, V.undef, V.undef, V.undef, V.undef, V.undef, V.undef, V.undef, V.undef, V.undef, V.undef, V.undef, V.undef, V.undef, V.undef, V.undef, V.undef, V.undef, V.undef, V.undef, V.undef, V.undef, V.undef, V.undef, V.undef, V.undef, V.undef, V.undef, V.undef, V.undef, V.undef, V.undef, V.undef, V.undef, V.undef, V.undef, V.undef, V.undef, V.undef, V.undef, V.undef, V.undef, V.undef, V.undef, (V.bool b1), V.undef, V.undef, V.undef, V.undef, V.undef, V.undef, V.undef, V.undef, V.undef, V.undef, V.undef, V.undef, V.undef, V.undef], [(1, c2)]⟩ h Q =
 (brW b1
 (Q Ex.ret ⟨[V.undef, V.undef, (V.bool false), V.undef, V.undef, V.undef, V.undef, V.undef, V.undef, V.undef, V.undef, V.undef, V.undef, V.undef, V.undef, V.undef, V.undef, V.undef, V.undef, V.undef, V.undef, V.undef, V.undef, V.undef, V.undef, V.undef, V.undef, V.undef, V.undef, V.undef, V.undef, V.undef, V.undef, V.undef, V.undef, V.undef, V.undef, V.undef, V.undef, V.undef, V.undef, V.undef, V.undef, V.undef, V.undef, V.undef, V.undef, V.undef, V.undef, V.undef, V.undef, V.undef, V.undef, V.undef, V.undef, V.undef, V.undef, V.undef, V.undef, V.undef, V.undef, V.undef, V.undef, V.undef, V.undef, V.undef, V.undef, V.undef, V.undef, V.undef, V.undef, V.undef, V.undef, V.undef, V.undef, V.undef, V.undef, V.undef, V.undef, V.undef, V.undef, V.undef, V.undef], []⟩ h)
 (Q Ex.normal ⟨[V.undef, (V.lp 1 0), V.undef, (V.int Go.IntKind.i64 x0), V.undef, V.undef, V.undef, V.undef, V.undef, V.undef, V.undef, V.undef, V.undef, V.undef, V.undef, V.undef, V.undef, V.undef, V.undef, V.undef, V.undef, V.undef, V.undef, V.undef, V.undef, V.undef, V.undef, V.undef, V.undef, V.undef, V.undef, V.undef, V.undef, V.undef, V.undef, V.undef, V.undef, V.undef, V.undef, V.undef, V.undef, V.undef, V.undef, V.undef, V.undef, V.undef, V.undef, V.undef, V.undef, V.undef, V.undef, V.undef, V.undef, V.undef, V.undef, V.undef, V.undef, V.undef, V.undef, V.undef, V.undef, V.undef, V.undef, V.undef, V.undef, V.undef, V.undef, V.undef, (V.bool b1), V.undef, V.undef, V.undef, V.undef, V.undef, V.undef, V.undef, V.undef, V.undef, V.undef, V.undef, V.undef, V.undef, V.undef], [(1, c2)]⟩ h)) := wpA_at f9_n11010010011_plug (by kernel_rfl)
theorem f9_n11010011_plug : f9_n11010011 = (codeAt [1, 1, 0, 1, 0, 0, 1, 1] f9_b) := by
  simp only [f9_n11010011, hide_eq]
  try kernel_rfl
theorem f9_n11010011_wp (x0 : Int) (b1 : Bool) (c2 : List V) (h : Heap) (Q : Ex → Fr → Heap → Prop) : wpA Try.prog f9_cf f9_n11010011 ⟨[V.undef, (V.lp 1 0), V.undef, (V.int Go.IntKind.i64 x0), V.undef, V.undef, V.undef, V.undef, V.undef, V.undef, V.undef, V.undef, V.undef, V.undef, V.undef, V.undef, V.undef, V.undef, V.undef, V.undef, V.undef, V.undef, V.undef, V.undef, V.undef, V.undef, V.undef, V.undef, V.undef, V.undef, V.undef, V.undef, V.undef, V.undef, V.undef, V.undef, V.undef, V.undef, V.undef, V.undef, V.undef, V.undef, V.undef, V.undef, V.undef, V.undef, V.undef, V.undef, V.undef, V.undef, V.undef, V.undef, V.undef, V.undef, V.undef, V.undef, V.undef, V.undef, V.undef, V.undef, V.undef, V.undef, V.undef, V.undef, V.undef, V.undef, V.undef, V.undef, (V.bool b1), V.undef, V.undef, V.undef, V.undef, V.undef, V.undef, V.undef, V.undef, V.undef, V.undef, V.undef, V.undef, V.undef, V.undef], [(1, c2)]⟩ h Q =
 (let iz55 : Int := (Go.IntKind.wrap Go.IntKind.i64 (x0 + (1 : Int)));
 (Q Ex.normal ⟨[V.undef, (V.lp 1 0), V.undef, (V.int Go.IntKind.i64 iz55), V.undef, V.undef, V.undef, V.undef, V.undef, V.undef, V.undef, V.undef, V.undef, V.undef, V.undef, V.undef, V.undef, V.undef, V.undef, V.undef, V.undef, V.undef, V.undef, V.undef, V.undef, V.undef, V.undef, V.undef, V.undef, V.undef, V.undef, V.undef, V.undef, V.undef, V.undef, V.undef, V.undef, V.undef, V.undef, V.undef, V.undef, V.undef, V.undef, V.undef, V.undef, V.undef, V.undef, V.undef, V.undef, V.undef, V.undef, V.undef, V.undef, V.undef, V.undef, V.undef, V.undef, V.undef, V.undef, V.undef, V.undef, V.undef, V.undef, V.undef, V.undef, V.undef, V.undef, V.undef, V.undef, V.undef, V.undef, V.undef, V.undef, V.undef, V.undef, V.undef, V.undef, V.undef, V.undef, V.undef, V.undef, V.undef, V.undef], [(1, c2)]⟩ h)) := wpA_at f9_n11010011_plug (by kernel_rfl)
theorem f9_end1 (b0 : Bool) (h : Heap) (K : V → Heap → Prop) : bodyK Try.prog Try.f9 K Ex.ret ⟨[V.undef, V.undef, (V.bool b0), V.undef, V.undef, V.undef, V.undef, V.undef, V.undef, V.undef, V.undef, V.undef, V.undef, V.undef, V.undef, V.undef, V.undef, V.undef, V.undef, V.undef, V.undef, V.undef, V.undef, V.undef, V.undef, V.undef, V.undef, V.undef, V.undef, V.undef, V.undef, V.undef, V.undef, V.undef, V.undef, V.undef, V.undef, V.undef, V.undef, V.undef, V.undef, V.undef, V.undef, V.undef, V.undef, V.undef, V.undef, V.undef, V.undef, V.undef, V.undef, V.undef, V.undef, V.undef, V.undef, V.undef, V.undef, V.undef, V.undef, V.undef, V.undef, V.undef, V.undef, V.undef, V.undef, V.undef, V.undef, V.undef, V.undef, V.undef, V.undef, V.undef, V.undef, V.undef, V.undef, V.undef, V.undef, V.undef, V.undef, V.undef, V.undef, V.undef, V.undef], []⟩ h = (K (V.bool b0) h) := by kernel_rfl
end

section
set_option linter.all false
set_option maxRecDepth 100000
open Go Go.Proofs Jb
def f38_cf : Cfg := ⟨[], [(0, [0, 9]), (1, [10, 11, 12, 13, 14, 15, 16, 17]), (2, [1, 2, 3, 4, 18, 19]), (3, [18, 20, 21, 22, 23, 24]), (4, [1, 2, 3, 4, 25, 26]), (5, [1, 2, 3, 4, 25, 27, 28, 29, 30, 31])]⟩
noncomputable def f38_b : Code := bodyOf Try.f38
noncomputable def f38_n : Code :=  (codeAt [] f38_b)
noncomputable def f38_n1 : Code := hide (codeAt [1] f38_b)
noncomputable def f38_n10 : Code := hide (codeAt [1, 0] f38_b)
noncomputable def f38_n100 : Code := hide (codeAt [1, 0, 0] f38_b)
noncomputable def f38_n101 : Code := hide (codeAt [1, 0, 1] f38_b)
noncomputable def f38_n11 : Code := hide (codeAt [1, 1] f38_b)
theorem f38_entry (t : List Int) (x : Int) (s : Int) (n : Int) (h : Heap) (K : V → Heap → Prop) : bodyW Try.prog f38_cf Try.f38 [(V.agg (ints t)), (V.int Go.IntKind.i64 x), (V.int Go.IntKind.i64 s), (V.int Go.IntKind.i64 n)] h K = wpA Try.prog f38_cf f38_n ⟨[(V.agg (ints t)), (V.int Go.IntKind.i64 x), (V.int Go.IntKind.i64 s), (V.int Go.IntKind.i64 n), V.undef, V.undef, V.undef, V.undef, V.undef, V.undef, V.undef, V.undef, V.undef, V.undef, V.undef, V.undef, V.undef, V.undef, V.undef, V.undef, V.undef, V.undef, V.undef, V.undef, V.undef, V.undef, V.undef, V.undef, V.undef, V.undef, V.undef, V.undef], []⟩ h (bodyK Try.prog Try.f38 K) := by kernel_rfl
theorem f38_n_plug : f38_n = (plug [1] (codeAt [] f38_b) f38_n1) := by
  simp only [f38_n, f38_n1, hide_eq]
  try kernel_rfl
theorem f38_n_wp (t : List Int) (x : Int) (s : Int) (n : Int) (h : Heap) (Q : Ex → Fr → Heap → Prop) : wpA Try.prog f38_cf f38_n ⟨[(V.agg (ints t)), (V.int Go.IntKind.i64 x), (V.int Go.IntKind.i64 s), (V.int Go.IntKind.i64 n), V.undef, V.undef, V.undef, V.undef, V.undef, V.undef, V.undef, V.undef, V.undef, V.undef, V.undef, V.undef, V.undef, V.undef, V.undef, V.undef, V.undef, V.undef, V.undef, V.undef, V.undef, V.undef, V.undef, V.undef, V.undef, V.undef, V.undef, V.undef], []⟩ h Q =
 (((List.length (ints t)) = 49) ∧ (True ∧ (wpA Try.prog f38_cf f38_n1 ⟨[V.undef, (V.int Go.IntKind.i64 x), (V.int Go.IntKind.i64 s), (V.int Go.IntKind.i64 n), (V.lp 4 0), V.undef, V.undef, V.undef, (V.lp 8 0), V.undef, V.undef, V.undef, V.undef, V.undef, V.undef, V.undef, V.undef, V.undef, V.undef, V.undef, V.undef, V.undef, V.undef, V.undef, V.undef, V.undef, V.undef, V.undef, V.undef, V.undef, V.undef, V.undef], [(4, (ints t)), (8, [(V.int Go.IntKind.i64 (0 : Int)), (V.int Go.IntKind.i64 (0 : Int)), (V.int Go.IntKind.i64 (0 : Int)), (V.int Go.IntKind.i64 (0 : Int)), (V.int Go.IntKind.i64 (0 : Int)), (V.int Go.IntKind.i64 (0 : Int)), (V.int Go.IntKind.i64 (0 : Int)), (V.int Go.IntKind.i64 (0 : Int)), (V.int Go.IntKind.i64 (0 : Int)), (V.int Go.IntKind.i64 (0 : Int)), (V.int Go.IntKind.i64 (0 : Int)), (V.int Go.IntKind.i64 (0 : Int)), (V.int Go.IntKind.i64 (0 : Int)), (V.int Go.IntKind.i64 (0 : Int)), (V.int Go.IntKind.i64 (0 : Int)), (V.int Go.IntKind.i64 (0 : Int)), (V.int Go.IntKind.i64 (0 : Int)), (V.int Go.IntKind.i64 (0 : Int)), (V.int Go.IntKind.i64 (0 : Int)), (V.int Go.IntKind.i64 (0 : Int)), (V.int Go.IntKind.i64 (0 : Int)), (V.int Go.IntKind.i64 (0 : Int)), (V.int Go.IntKind.i64 (0 : Int)), (V.int Go.IntKind.i64 (0 : Int)), (V.int Go.IntKind.i64 (0 : Int)), (V.int Go.IntKind.i64 (0 : Int)), (V.int Go.IntKind.i64 (0 : Int)), (V.int Go.IntKind.i64 (0 : Int)), (V.int Go.IntKind.i64 (0 : Int)), (V.int Go.IntKind.i64 (0 : Int)), (V.int Go.IntKind.i64 (0 : Int)), (V.int Go.IntKind.i64 (0 : Int)), (V.int Go.IntKind.i64 (0 : Int)), (V.int Go.IntKind.i64 (0 : Int)), (V.int Go.IntKind.i64 (0 : Int)), (V.int Go.IntKind.i64 (0 : Int)), (V.int Go.IntKind.i64 (0 : Int)), (V.int Go.IntKind.i64 (0 : Int)), (V.int Go.IntKind.i64 (0 : Int)), (V.int Go.IntKind.i64 (0 : Int)), (V.int Go.IntKind.i64 (0 : Int)), (V.int Go.IntKind.i64 (0 : Int)), (V.int Go.IntKind.i64 (0 : Int)), (V.int Go.IntKind.i64 (0 : Int)), (V.int Go.IntKind.i64 (0 : Int)), (V.int Go.IntKind.i64 (0 : Int)), (V.int Go.IntKind.i64 (0 : Int)), (V.int Go.IntKind.i64 (0 : Int)), (V.int Go.IntKind.i64 (0 : Int))])]⟩ h Q))) := wpA_at f38_n_plug (by kernel_rfl)
theorem f38_n1_eq : f38_n1 = Code.seq f38_n10 f38_n11 := by
  simp only [f38_n1, f38_n10, f38_n11, hide_eq]
  kernel_rfl
theorem f38_n10_eq : f38_n10 = Code.seq f38_n100 f38_n101 := by
  simp only [f38_n10, f38_n100, f38_n101, hide_eq]
  kernel_rfl
theorem f38_n100_plug : f38_n100 = (codeAt [1, 0, 0] f38_b) := by
  simp only [f38_n100, hide_eq]
  try kernel_rfl
theorem f38_n100_wp (x0 : Int) (x1 : Int) (x2 : Int) (c3 : List V) (c4 : List V) (h : Heap) (Q : Ex → Fr → Heap → Prop) : wpA Try.prog f38_cf f38_n100 ⟨[V.undef, (V.int Go.IntKind.i64 x0), (V.int Go.IntKind.i64 x1), (V.int Go.IntKind.i64 x2), (V.lp 4 0), V.undef, V.undef, V.undef, (V.lp 8 0), V.undef, V.undef, V.undef, V.undef, V.undef, V.undef, V.undef, V.undef, V.undef, V.undef, V.undef, V.undef, V.undef, V.undef, V.undef, V.undef, V.undef, V.undef, V.undef, V.undef, V.undef, V.undef, V.undef], [(4, c3), (8, c4)]⟩ h Q =
 (AnyW Try.prog 34 [(V.int Go.IntKind.i64 x0), (V.int Go.IntKind.i64 x1)] h (fun (rz1 : V) (hz2 : Heap) =>
 ((True ∧ V.isBool rz1 = true) ∧ (let kz3 : Bool → Heap → Prop := fun (xz4 : Bool) (hz5 : Heap) =>
 (((!(!(V.flag rz1))) = true → (!(!(V.flag rz1))) = true) ∧ ((((!(V.flag rz1)) = false → (!(!(V.flag rz1))) = true) ∧ True) ∧ (let bz6 : Bool := (cond (!(V.flag rz1)) true (!xz4));
 (Q Ex.normal ⟨[V.undef, (V.int Go.IntKind.i64 x0), (V.int Go.IntKind.i64 x1), (V.int Go.IntKind.i64 x2), (V.lp 4 0), V.undef, V.undef, V.undef, (V.lp 8 0), V.undef, V.undef, V.undef, V.undef, V.undef, V.undef, V.undef, V.undef, V.undef, (V.bool bz6), V.undef, V.undef, V.undef, V.undef, V.undef, V.undef, V.undef, V.undef, V.undef, V.undef, V.undef, V.undef, V.undef], [(4, c3), (8, c4)]⟩ hz5))));
 brW (!(!(V.flag rz1)))
 (((!(!(V.flag rz1))) = true) ∧ (AnyW Try.prog 27 [(V.int Go.IntKind.i64 x2)] hz2 (fun (rz7 : V) (hz8 : Heap) =>
 ((True ∧ V.isBool rz7 = true) ∧ (kz3 (V.flag rz7) hz8)))))
 (kz3 false hz2))))) := wpA_at f38_n100_plug (by kernel_rfl)
theorem f38_n101_plug : f38_n101 = (codeAt [1, 0, 1] f38_b) := by
  simp only [f38_n101, hide_eq]
  try kernel_rfl
theorem f38_n101_wp (x0 : Int) (x1 : Int) (x2 : Int) (b3 : Bool) (c4 : List V) (c5 : List V) (h : Heap) (Q : Ex → Fr → Heap → Prop) : wpA Try.prog f38_cf f38_n101 ⟨[V.undef, (V.int Go.IntKind.i64 x0), (V.int Go.IntKind.i64 x1), (V.int Go.IntKind.i64 x2), (V.lp 4 0), V.undef, V.undef, V.undef, (V.lp 8 0), V.undef, V.undef, V.undef, V.undef, V.undef, V.undef, V.undef, V.undef, V.undef, (V.bool b3), V.undef, V.undef, V.undef, V.undef, V.undef, V.undef, V.undef, V.undef, V.undef, V.undef, V.undef, V.undef, V.undef], [(4, c4), (8, c5)]⟩ h Q =
 (brW b3
 ((0 + 49 ≤ (List.length c4)) ∧ (let cz9 : List V := (List.take 49 (List.drop 0 c4));
 (((List.length cz9) = 49) ∧ 0 + 49 ≤ (List.length c5) ∧ (Q Ex.ret ⟨[V.undef, V.undef, V.undef, V.undef, V.undef, V.undef, V.undef, V.undef, (V.lp 8 0), (V.int Go.IntKind.i64 (2 : Int)), V.undef, V.undef, V.undef, V.undef, V.undef, V.undef, V.undef, V.undef, V.undef, V.undef, V.undef, V.undef, V.undef, V.undef, V.undef, V.undef, V.undef, V.undef, V.undef, V.undef, V.undef, V.undef], [(8, (wrCells c5 0 cz9))]⟩ h))))
 (Q Ex.normal ⟨[V.undef, (V.int Go.IntKind.i64 x0), (V.int Go.IntKind.i64 x1), (V.int Go.IntKind.i64 x2), (V.lp 4 0), V.undef, V.undef, V.undef, (V.lp 8 0), V.undef, V.undef, V.undef, V.undef, V.undef, V.undef, V.undef, V.undef, V.undef, (V.bool b3), V.undef, V.undef, V.undef, V.undef, V.undef, V.undef, V.undef, V.undef, V.undef, V.undef, V.undef, V.undef, V.undef], [(4, c4), (8, c5)]⟩ h)) := wpA_at f38_n101_plug (by kernel_rfl)
theorem f38_n11_plug : f38_n11 = (codeAt [1, 1] f38_b) := by
  simp only [f38_n11, hide_eq]
  try kernel_rfl
theorem f38_n11_wp (x0 : Int) (x1 : Int) (x2 : Int) (b3 : Bool) (c4 : List V) (c5 : List V) (h : Heap) (Q : Ex → Fr → Heap → Prop) : wpA Try.prog f38_cf f38_n11 ⟨[V.undef, (V.int Go.IntKind.i64 x0), (V.int Go.IntKind.i64 x1), (V.int Go.IntKind.i64 x2), (V.lp 4 0), V.undef, V.undef, V.undef, (V.lp 8 0), V.undef, V.undef, V.undef, V.undef, V.undef, V.undef, V.undef, V.undef, V.undef, (V.bool b3), V.undef, V.undef, V.undef, V.undef, V.undef, V.undef, V.undef, V.undef, V.undef, V.undef, V.undef, V.undef, V.undef], [(4, c4), (8, c5)]⟩ h Q =
 ((0 + 49 ≤ (List.length c4)) ∧ (let cz10 : List V := (List.take 49 (List.drop 0 c4));
 (AnyW Try.prog 14 [(V.agg cz10), (V.int Go.IntKind.i64 x0), (V.int Go.IntKind.i64 x1)] h (fun (rz11 : V) (hz12 : Heap) =>
 ((True ∧ V.isInt Go.IntKind.i64 rz11 = true) ∧ (let bz13 : Bool := (decide ((V.num rz11) < x2));
 (brW bz13
 ((0 + 49 ≤ (List.length c4)) ∧ (let cz14 : List V := (List.take 49 (List.drop 0 c4));
 (((List.length cz14) = 49) ∧ 0 + 49 ≤ (List.length c5) ∧ (Q Ex.ret ⟨[V.undef, V.undef, V.undef, V.undef, V.undef, V.undef, V.undef, V.undef, (V.lp 8 0), (V.int Go.IntKind.i64 (53 : Int)), V.undef, V.undef, V.undef, V.undef, V.undef, V.undef, V.undef, V.undef, V.undef, V.undef, V.undef, V.undef, V.undef, V.undef, V.undef, V.undef, V.undef, V.undef, V.undef, V.undef, V.undef, V.undef], [(8, (wrCells c5 0 cz14))]⟩ hz12))))
 ((0 + 49 ≤ (List.length c4)) ∧ (let cz15 : List V := (List.take 49 (List.drop 0 c4));
 (AnyW Try.prog 59 [(V.agg cz15), (V.int Go.IntKind.i64 x0), (V.int Go.IntKind.i64 x1), (V.int Go.IntKind.i64 (0 : Int)), (V.int Go.IntKind.i64 x2)] hz12 (fun (rz16 : V) (hz17 : Heap) =>
 ((True ∧ V.isAgg 49 rz16 = true) ∧ (((List.length (V.cells rz16)) = 49) ∧ 0 + 49 ≤ (List.length c5) ∧ (let cz18 : List V := (wrCells c5 0 (V.cells rz16));
 (Q Ex.ret ⟨[V.undef, V.undef, V.undef, V.undef, V.undef, V.undef, V.undef, V.undef, (V.lp 8 0), (V.int Go.IntKind.i64 (0 : Int)), V.undef, V.undef, V.undef, V.undef, V.undef, V.undef, V.undef, V.undef, V.undef, V.undef, V.undef, V.undef, V.undef, V.undef, V.undef, V.undef, V.undef, V.undef, V.undef, V.undef, V.undef, V.undef], [(8, cz18)]⟩ hz17))))))))))))))) := wpA_at f38_n11_plug (by kernel_rfl)
theorem f38_end1 (x0 : Int) (c1 : List V) (h : Heap) (K : V → Heap → Prop) : bodyK Try.prog Try.f38 K Ex.ret ⟨[V.undef, V.undef, V.undef, V.undef, V.undef, V.undef, V.undef, V.undef, (V.lp 8 0), (V.int Go.IntKind.i64 x0), V.undef, V.undef, V.undef, V.undef, V.undef, V.undef, V.undef, V.undef, V.undef, V.undef, V.undef, V.undef, V.undef, V.undef, V.undef, V.undef, V.undef, V.undef, V.undef, V.undef, V.undef, V.undef], [(8, c1)]⟩ h = ((0 + 49 ≤ (List.length c1)) ∧ (let cz19 : List V := (List.take 49 (List.drop 0 c1));
 (K (V.tup [(V.agg cz19), (V.int Go.IntKind.i64 x0)]) h))) := by kernel_rfl
end

section
set_option linter.all false
set_option maxRecDepth 100000
open Go Go.Proofs Jb
def f40_cf : Cfg := ⟨[], [(0, [0, 9]), (1, [11, 12, 13, 14, 15, 16, 17, 18]), (2, [1, 2, 3, 4, 19, 20]), (3, [19, 21, 22, 23, 24, 25]), (4, [26]), (5, [27, 28, 29, 30, 31, 32]), (6, [10, 27, 33, 34]), (7, [1, 2, 3, 4, 35, 36]), (8, [1, 2, 3, 4, 35, 37, 38, 39, 40, 41, 42])]⟩
noncomputable def f40_b : Code := bodyOf Try.f40
noncomputable def f40_n : Code :=  (codeAt [] f40_b)
noncomputable def f40_n1 : Code := hide (codeAt [1] f40_b)
noncomputable def f40_n10 : Code := hide (codeAt [1, 0] f40_b)
noncomputable def f40_n100 : Code := hide (codeAt [1, 0, 0] f40_b)
noncomputable def f40_n101 : Code := hide (codeAt [1, 0, 1] f40_b)
noncomputable def f40_n11 : Code := hide (codeAt [1, 1] f40_b)
noncomputable def f40_n111 : Code := hide (codeAt [1, 1, 1] f40_b)
noncomputable def f40_n1110 : Code := hide (codeAt [1, 1, 1, 0] f40_b)
noncomputable def f40_n1111 : Code := hide (codeAt [1, 1, 1, 1] f40_b)
theorem f40_entry (t : List Int) (x : Int) (s : Int) (n : Int) (h : Heap) (K : V → Heap → Prop) : bodyW Try.prog f40_cf Try.f40 [(V.agg (ints t)), (V.int Go.IntKind.i64 x), (V.int Go.IntKind.i64 s), (V.int Go.IntKind.i64 n)] h K = wpA Try.prog f40_cf f40_n ⟨[(V.agg (ints t)), (V.int Go.IntKind.i64 x), (V.int Go.IntKind.i64 s), (V.int Go.IntKind.i64 n), V.undef, V.undef, V.undef, V.undef, V.undef, V.undef, V.undef, V.undef, V.undef, V.undef, V.undef, V.undef, V.undef, V.undef, V.undef, V.undef, V.undef, V.undef, V.undef, V.undef, V.undef, V.undef, V.undef, V.undef, V.undef, V.undef, V.undef, V.undef, V.undef, V.undef, V.undef, V.undef, V.undef, V.undef, V.undef, V.undef, V.undef, V.undef, V.undef], []⟩ h (bodyK Try.prog Try.f40 K) := by kernel_rfl
theorem f40_n_plug : f40_n = (plug [1] (codeAt [] f40_b) f40_n1) := by
  simp only [f40_n, f40_n1, hide_eq]
  try kernel_rfl
theorem f40_n_wp (t : List Int) (x : Int) (s : Int) (n : Int) (h : Heap) (Q : Ex → Fr → Heap → Prop) : wpA Try.prog f40_cf f40_n ⟨[(V.agg (ints t)), (V.int Go.IntKind.i64 x), (V.int Go.IntKind.i64 s), (V.int Go.IntKind.i64 n), V.undef, V.undef, V.undef, V.undef, V.undef, V.undef, V.undef, V.undef, V.undef, V.undef, V.undef, V.undef, V.undef, V.undef, V.undef, V.undef, V.undef, V.undef, V.undef, V.undef, V.undef, V.undef, V.undef, V.undef, V.undef, V.undef, V.undef, V.undef, V.undef, V.undef, V.undef, V.undef, V.undef, V.undef, V.undef, V.undef, V.undef, V.undef, V.undef], []⟩ h Q =
 (((List.length (ints t)) = 49) ∧ (True ∧ (wpA Try.prog f40_cf f40_n1 ⟨[V.undef, (V.int Go.IntKind.i64 x), (V.int Go.IntKind.i64 s), (V.int Go.IntKind.i64 n), (V.lp 4 0), V.undef, V.undef, V.undef, (V.lp 8 0), V.undef, V.undef, V.undef, V.undef, V.undef, V.undef, V.undef, V.undef, V.undef, V.undef, V.undef, V.undef, V.undef, V.undef, V.undef, V.undef, V.undef, V.undef, V.undef, V.undef, V.undef, V.undef, V.undef, V.undef, V.undef, V.undef, V.undef, V.undef, V.undef, V.undef, V.undef, V.undef, V.undef, V.undef], [(4, (ints t)), (8, [(V.int Go.IntKind.i64 (0 : Int)), (V.int Go.IntKind.i64 (0 : Int)), (V.int Go.IntKind.i64 (0 : Int)), (V.int Go.IntKind.i64 (0 : Int)), (V.int Go.IntKind.i64 (0 : Int)), (V.int Go.IntKind.i64 (0 : Int)), (V.int Go.IntKind.i64 (0 : Int)), (V.int Go.IntKind.i64 (0 : Int)), (V.int Go.IntKind.i64 (0 : Int)), (V.int Go.IntKind.i64 (0 : Int)), (V.int Go.IntKind.i64 (0 : Int)), (V.int Go.IntKind.i64 (0 : Int)), (V.int Go.IntKind.i64 (0 : Int)), (V.int Go.IntKind.i64 (0 : Int)), (V.int Go.IntKind.i64 (0 : Int)), (V.int Go.IntKind.i64 (0 : Int)), (V.int Go.IntKind.i64 (0 : Int)), (V.int Go.IntKind.i64 (0 : Int)), (V.int Go.IntKind.i64 (0 : Int)), (V.int Go.IntKind.i64 (0 : Int)), (V.int Go.IntKind.i64 (0 : Int)), (V.int Go.IntKind.i64 (0 : Int)), (V.int Go.IntKind.i64 (0 : Int)), (V.int Go.IntKind.i64 (0 : Int)), (V.int Go.IntKind.i64 (0 : Int)), (V.int Go.IntKind.i64 (0 : Int)), (V.int Go.IntKind.i64 (0 : Int)), (V.int Go.IntKind.i64 (0 : Int)), (V.int Go.IntKind.i64 (0 : Int)), (V.int Go.IntKind.i64 (0 : Int)), (V.int Go.IntKind.i64 (0 : Int)), (V.int Go.IntKind.i64 (0 : Int)), (V.int Go.IntKind.i64 (0 : Int)), (V.int Go.IntKind.i64 (0 : Int)), (V.int Go.IntKind.i64 (0 : Int)), (V.int Go.IntKind.i64 (0 : Int)), (V.int Go.IntKind.i64 (0 : Int)), (V.int Go.IntKind.i64 (0 : Int)), (V.int Go.IntKind.i64 (0 : Int)), (V.int Go.IntKind.i64 (0 : Int)), (V.int Go.IntKind.i64 (0 : Int)), (V.int Go.IntKind.i64 (0 : Int)), (V.int Go.IntKind.i64 (0 : Int)), (V.int Go.IntKind.i64 (0 : Int)), (V.int Go.IntKind.i64 (0 : Int)), (V.int Go.IntKind.i64 (0 : Int)), (V.int Go.IntKind.i64 (0 : Int)), (V.int Go.IntKind.i64 (0 : Int)), (V.int Go.IntKind.i64 (0 : Int))])]⟩ h Q))) := wpA_at f40_n_plug (by kernel_rfl)
theorem f40_n1_eq : f40_n1 = Code.seq f40_n10 f40_n11 := by
  simp only [f40_n1, f40_n10, f40_n11, hide_eq]
  kernel_rfl
theorem f40_n10_eq : f40_n10 = Code.seq f40_n100 f40_n101 := by
  simp only [f40_n10, f40_n100, f40_n101, hide_eq]
  kernel_rfl
theorem f40_n100_plug : f40_n100 = (codeAt [1, 0, 0] f40_b) := by
  simp only [f40_n100, hide_eq]
  try kernel_rfl
theorem f40_n100_wp (x0 : Int) (x1 : Int) (x2 : Int) (c3 : List V) (c4 : List V) (h : Heap) (Q : Ex → Fr → Heap → Prop) : wpA Try.prog f40_cf f40_n100 ⟨[V.undef, (V.int Go.IntKind.i64 x0), (V.int Go.IntKind.i64 x1), (V.int Go.IntKind.i64 x2), (V.lp 4 0), V.undef, V.undef, V.undef, (V.lp 8 0), V.undef, V.undef, V.undef, V.undef, V.undef, V.undef, V.undef, V.undef, V.undef, V.undef, V.undef, V.undef, V.undef, V.undef, V.undef, V.undef, V.undef, V.undef, V.undef, V.undef, V.undef, V.undef, V.undef, V.undef, V.undef, V.undef, V.undef, V.undef, V.undef, V.undef, V.undef, V.undef, V.undef, V.undef], [(4, c3), (8, c4)]⟩ h Q =
 (AnyW Try.prog 34 [(V.int Go.IntKind.i64 x0), (V.int Go.IntKind.i64 x1)] h (fun (rz1 : V) (hz2 : Heap) =>
 ((True ∧ V.isBool rz1 = true) ∧ (let kz3 : Bool → Heap → Prop := fun (xz4 : Bool) (hz5 : Heap) =>
 (((!(!(V.flag rz1))) = true → (!(!(V.flag rz1))) = true) ∧ ((((!(V.flag rz1)) = false → (!(!(V.flag rz1))) = true) ∧ True) ∧ (let bz6 : Bool := (cond (!(V.flag rz1)) true (!xz4));
 (Q Ex.normal ⟨[V.undef, (V.int Go.IntKind.i64 x0), (V.int Go.IntKind.i64 x1), (V.int Go.IntKind.i64 x2), (V.lp 4 0), V.undef, V.undef, V.undef, (V.lp 8 0), V.undef, V.undef, V.undef, V.undef, V.undef, V.undef, V.undef, V.undef, V.undef, V.undef, (V.bool bz6), V.undef, V.undef, V.undef, V.undef, V.undef, V.undef, V.undef, V.undef, V.undef, V.undef, V.undef, V.undef, V.undef, V.undef, V.undef, V.undef, V.undef, V.undef, V.undef, V.undef, V.undef, V.undef, V.undef], [(4, c3), (8, c4)]⟩ hz5))));
 brW (!(!(V.flag rz1)))
 (((!(!(V.flag rz1))) = true) ∧ (AnyW Try.prog 27 [(V.int Go.IntKind.i64 x2)] hz2 (fun (rz7 : V) (hz8 : Heap) =>
 ((True ∧ V.isBool rz7 = true) ∧ (kz3 (V.flag rz7) hz8)))))
 (kz3 false hz2))))) := wpA_at f40_n100_plug (by kernel_rfl)
theorem f40_n101_plug : f40_n101 = (codeAt [1, 0, 1] f40_b) := by
  simp only [f40_n101, hide_eq]
  try kernel_rfl
theorem f40_n101_wp (x0 : Int) (x1 : Int) (x2 : Int) (b3 : Bool) (c4 : List V) (c5 : List V) (h : Heap) (Q : Ex → Fr → Heap → Prop) : wpA Try.prog f40_cf f40_n101 ⟨[V.undef, (V.int Go.IntKind.i64 x0), (V.int Go.IntKind.i64 x1), (V.int Go.IntKind.i64 x2), (V.lp 4 0), V.undef, V.undef, V.undef, (V.lp 8 0), V.undef, V.undef, V.undef, V.undef, V.undef, V.undef, V.undef, V.undef, V.undef, V.undef, (V.bool b3), V.undef, V.undef, V.undef, V.undef, V.undef, V.undef, V.undef, V.undef, V.undef, V.undef, V.undef, V.undef, V.undef, V.undef, V.undef, V.undef, V.undef, V.undef, V.undef, V.undef, V.undef, V.undef, V.undef], [(4, c4), (8, c5)]⟩ h Q =
 (brW b3
 ((0 + 49 ≤ (List.length c4)) ∧ (let cz9 : List V := (List.take 49 (List.drop 0 c4));
 (((List.length cz9) = 49) ∧ 0 + 49 ≤ (List.length c5) ∧ (Q Ex.ret ⟨[V.undef, V.undef, V.undef, V.undef, V.undef, V.undef, V.undef, V.undef, (V.lp 8 0), (V.int Go.IntKind.i64 (2 : Int)), V.undef, V.undef, V.undef, V.undef, V.undef, V.undef, V.undef, V.undef, V.undef, V.undef, V.undef, V.undef, V.undef, V.undef, V.undef, V.undef, V.undef, V.undef, V.undef, V.undef, V.undef, V.undef, V.undef, V.undef, V.undef, V.undef, V.undef, V.undef, V.undef, V.undef, V.undef, V.undef, V.undef], [(8, (wrCells c5 0 cz9))]⟩ h))))
 (Q Ex.normal ⟨[V.undef, (V.int Go.IntKind.i64 x0), (V.int Go.IntKind.i64 x1), (V.int Go.IntKind.i64 x2), (V.lp 4 0), V.undef, V.undef, V.undef, (V.lp 8 0), V.undef, V.undef, V.undef, V.undef, V.undef, V.undef, V.undef, V.undef, V.undef, V.undef, (V.bool b3), V.undef, V.undef, V.undef, V.undef, V.undef, V.undef, V.undef, V.undef, V.undef, V.undef, V.undef, V.undef, V.undef, V.undef, V.undef, V.undef, V.undef, V.undef, V.undef, V.undef, V.undef, V.undef, V.undef], [(4, c4), (8, c5)]⟩ h)) := wpA_at f40_n101_plug (by kernel_rfl)
theorem f40_n11_plug : f40_n11 = (plug [1] (codeAt [1, 1] f40_b) f40_n111) := by
  simp only [f40_n11, f40_n111, hide_eq]
  try kernel_rfl
theorem f40_n11_wp (x0 : Int) (x1 : Int) (x2 : Int) (b3 : Bool) (c4 : List V) (c5 : List V) (h : Heap) (Q : Ex → Fr → Heap → Prop) : wpA Try.prog f40_cf f40_n11 ⟨[V.undef, (V.int Go.IntKind.i64 x0), (V.int Go.IntKind.i64 x1), (V.int Go.IntKind.i64 x2), (V.lp 4 0), V.undef, V.undef, V.undef, (V.lp 8 0), V.undef, V.undef, V.undef, V.undef, V.undef, V.undef, V.undef, V.undef, V.undef, V.undef, (V.bool b3), V.undef, V.undef, V.undef, V.undef, V.undef, V.undef, V.undef, V.undef, V.undef, V.undef, V.undef, V.undef, V.undef, V.undef, V.undef, V.undef, V.undef, V.undef, V.undef, V.undef, V.undef, V.undef, V.undef], [(4, c4), (8, c5)]⟩ h Q =
 ((0 ≤ x0 ∧ x0 < 8) ∧ ((((0 + ((Int.toNat x0) * 6)) + 2) < (List.length c4) ∧ V.isInt Go.IntKind.i64 (gv c4 ((0 + ((Int.toNat x0) * 6)) + 2)) = true) ∧ (let iz10 : Int := (V.num (gv c4 ((0 + ((Int.toNat x0) * 6)) + 2)));
 (wpA Try.prog f40_cf f40_n111 ⟨[V.undef, (V.int Go.IntKind.i64 x0), (V.int Go.IntKind.i64 x1), (V.int Go.IntKind.i64 x2), (V.lp 4 0), V.undef, V.undef, V.undef, (V.lp 8 0), V.undef, (V.int Go.IntKind.i64 iz10), V.undef, V.undef, V.undef, V.undef, V.undef, V.undef, V.undef, V.undef, V.undef, V.undef, V.undef, V.undef, V.undef, V.undef, V.undef, V.undef, V.undef, V.undef, V.undef, V.undef, V.undef, V.undef, V.undef, V.undef, V.undef, V.undef, V.undef, V.undef, V.undef, V.undef, V.undef, V.undef], [(4, c4), (8, c5)]⟩ h Q)))) := wpA_at f40_n11_plug (by kernel_rfl)
theorem f40_n111_eq : f40_n111 = Code.seq f40_n1110 f40_n1111 := by
  simp only [f40_n111, f40_n1110, f40_n1111, hide_eq]
  kernel_rfl
theorem f40_n1110_plug : f40_n1110 = (codeAt [1, 1, 1, 0] f40_b) := by
  simp only [f40_n1110, hide_eq]
  try kernel_rfl
theorem f40_n1110_wp (x0 : Int) (x1 : Int) (x2 : Int) (x3 : Int) (c4 : List V) (c5 : List V) (h : Heap) (Q : Ex → Fr → Heap → Prop) : wpA Try.prog f40_cf f40_n1110 ⟨[V.undef, (V.int Go.IntKind.i64 x0), (V.int Go.IntKind.i64 x1), (V.int Go.IntKind.i64 x2), (V.lp 4 0), V.undef, V.undef, V.undef, (V.lp 8 0), V.undef, (V.int Go.IntKind.i64 x3), V.undef, V.undef, V.undef, V.undef, V.undef, V.undef, V.undef, V.undef, V.undef, V.undef, V.undef, V.undef, V.undef, V.undef, V.undef, V.undef, V.undef, V.undef, V.undef, V.undef, V.undef, V.undef, V.undef, V.undef, V.undef, V.undef, V.undef, V.undef, V.undef, V.undef, V.undef, V.undef], [(4, c4), (8, c5)]⟩ h Q =
 (brW (x1 == (2 : Int))
 ((0 ≤ x0 ∧ x0 < 8) ∧ ((((0 + ((Int.toNat x0) * 6)) + 3) < (List.length c4) ∧ V.isInt Go.IntKind.i64 (gv c4 ((0 + ((Int.toNat x0) * 6)) + 3)) = true) ∧ (let iz11 : Int := (V.num (gv c4 ((0 + ((Int.toNat x0) * 6)) + 3)));
 (Q Ex.normal ⟨[V.undef, (V.int Go.IntKind.i64 x0), (V.int Go.IntKind.i64 x1), (V.int Go.IntKind.i64 x2), (V.lp 4 0), V.undef, V.undef, V.undef, (V.lp 8 0), V.undef, (V.int Go.IntKind.i64 iz11), V.undef, V.undef, V.undef, V.undef, V.undef, V.undef, V.undef, V.undef, V.undef, V.undef, V.undef, V.undef, V.undef, V.undef, V.undef, V.undef, V.undef, V.undef, V.undef, V.undef, V.undef, V.undef, V.undef, V.undef, V.undef, V.undef, V.undef, V.undef, V.undef, V.undef, V.undef, V.undef], [(4, c4), (8, c5)]⟩ h))))
 (Q Ex.normal ⟨[V.undef, (V.int Go.IntKind.i64 x0), (V.int Go.IntKind.i64 x1), (V.int Go.IntKind.i64 x2), (V.lp 4 0), V.undef, V.undef, V.undef, (V.lp 8 0), V.undef, (V.int Go.IntKind.i64 x3), V.undef, V.undef, V.undef, V.undef, V.undef, V.undef, V.undef, V.undef, V.undef, V.undef, V.undef, V.undef, V.undef, V.undef, V.undef, V.undef, (V.bool (x1 == (2 : Int))), V.undef, V.undef, V.undef, V.undef, V.undef, V.undef, V.undef, V.undef, V.undef, V.undef, V.undef, V.undef, V.undef, V.undef, V.undef], [(4, c4), (8, c5)]⟩ h)) := wpA_at f40_n1110_plug (by kernel_rfl)
theorem f40_n1111_plug : f40_n1111 = (codeAt [1, 1, 1, 1] f40_b) := by
  simp only [f40_n1111, hide_eq]
  try kernel_rfl
theorem f40_n1111_wp (x0 : Int) (x1 : Int) (x2 : Int) (x3 : Int) (c4 : List V) (c5 : List V) (h : Heap) (Q : Ex → Fr → Heap → Prop) : wpA Try.prog f40_cf f40_n1111 ⟨[V.undef, (V.int Go.IntKind.i64 x0), (V.int Go.IntKind.i64 x1), (V.int Go.IntKind.i64 x2), (V.lp 4 0), V.undef, V.undef, V.undef, (V.lp 8 0), V.undef, (V.int Go.IntKind.i64 x3), V.undef, V.undef, V.undef, V.undef, V.undef, V.undef, V.undef, V.undef, V.undef, V.undef, V.undef, V.undef, V.undef, V.undef, V.undef, V.undef, V.undef, V.undef, V.undef, V.undef, V.undef, V.undef, V.undef, V.undef, V.undef, V.undef, V.undef, V.undef, V.undef, V.undef, V.undef, V.undef], [(4, c4), (8, c5)]⟩ h Q =
 (brW (decide (x3 < x2))
 ((0 + 49 ≤ (List.length c4)) ∧ (let cz12 : List V := (List.take 49 (List.drop 0 c4));
 (((List.length cz12) = 49) ∧ 0 + 49 ≤ (List.length c5) ∧ (Q Ex.ret ⟨[V.undef, V.undef, V.undef, V.undef, V.undef, V.undef, V.undef, V.undef, (V.lp 8 0), (V.int Go.IntKind.i64 (53 : Int)), V.undef, V.undef, V.undef, V.undef, V.undef, V.undef, V.undef, V.undef, V.undef, V.undef, V.undef, V.undef, V.undef, V.undef, V.undef, V.undef, V.undef, V.undef, V.undef, V.undef, V.undef, V.undef, V.undef, V.undef, V.undef, V.undef, V.undef, V.undef, V.undef, V.undef, V.undef, V.undef, V.undef], [(8, (wrCells c5 0 cz12))]⟩ h))))
 ((0 + 49 ≤ (List.length c4)) ∧ (let cz13 : List V := (List.take 49 (List.drop 0 c4));
 (let iz14 : Int := (Go.IntKind.wrap Go.IntKind.i64 (0 - x2));
 (AnyW Try.prog 59 [(V.agg cz13), (V.int Go.IntKind.i64 x0), (V.int Go.IntKind.i64 x1), (V.int Go.IntKind.i64 (0 : Int)), (V.int Go.IntKind.i64 iz14)] h (fun (rz15 : V) (hz16 : Heap) =>
 ((True ∧ V.isAgg 49 rz15 = true) ∧ (((List.length (V.cells rz15)) = 49) ∧ 0 + 49 ≤ (List.length c5) ∧ (let cz17 : List V := (wrCells c5 0 (V.cells rz15));
 (Q Ex.ret ⟨[V.undef, V.undef, V.undef, V.undef, V.undef, V.undef, V.undef, V.undef, (V.lp 8 0), (V.int Go.IntKind.i64 (0 : Int)), V.undef, V.undef, V.undef, V.undef, V.undef, V.undef, V.undef, V.undef, V.undef, V.undef, V.undef, V.undef, V.undef, V.undef, V.undef, V.undef, V.undef, V.undef, V.undef, V.undef, V.undef, V.undef, V.undef, V.undef, V.undef, V.undef, V.undef, V.undef, V.undef, V.undef, V.undef, V.undef, V.undef], [(8, cz17)]⟩ hz16)))))))))) := wpA_at f40_n1111_plug (by kernel_rfl)
theorem f40_n1111s1_wp (x0 : Int) (x1 : Int) (x2 : Int) (x3 : Int) (b4 : Bool) (c5 : List V) (c6 : List V) (h : Heap) (Q : Ex → Fr → Heap → Prop) : wpA Try.prog f40_cf f40_n1111 ⟨[V.undef, (V.int Go.IntKind.i64 x0), (V.int Go.IntKind.i64 x1), (V.int Go.IntKind.i64 x2), (V.lp 4 0), V.undef, V.undef, V.undef, (V.lp 8 0), V.undef, (V.int Go.IntKind.i64 x3), V.undef, V.undef, V.undef, V.undef, V.undef, V.undef, V.undef, V.undef, V.undef, V.undef, V.undef, V.undef, V.undef, V.undef, V.undef, V.undef, (V.bool b4), V.undef, V.undef, V.undef, V.undef, V.undef, V.undef, V.undef, V.undef, V.undef, V.undef, V.undef, V.undef, V.undef, V.undef, V.undef], [(4, c5), (8, c6)]⟩ h Q =
 (brW (decide (x3 < x2))
 ((0 + 49 ≤ (List.length c5)) ∧ (let cz18 : List V := (List.take 49 (List.drop 0 c5));
 (((List.length cz18) = 49) ∧ 0 + 49 ≤ (List.length c6) ∧ (Q Ex.ret ⟨[V.undef, V.undef, V.undef, V.undef, V.undef, V.undef, V.undef, V.undef, (V.lp 8 0), (V.int Go.IntKind.i64 (53 : Int)), V.undef, V.undef, V.undef, V.undef, V.undef, V.undef, V.undef, V.undef, V.undef, V.undef, V.undef, V.undef, V.undef, V.undef, V.undef, V.undef, V.undef, V.undef, V.undef, V.undef, V.undef, V.undef, V.undef, V.undef, V.undef, V.undef, V.undef, V.undef, V.undef, V.undef, V.undef, V.undef, V.undef], [(8, (wrCells c6 0 cz18))]⟩ h))))
 ((0 + 49 ≤ (List.length c5)) ∧ (let cz19 : List V := (List.take 49 (List.drop 0 c5));
 (let iz20 : Int := (Go.IntKind.wrap Go.IntKind.i64 (0 - x2));
 (AnyW Try.prog 59 [(V.agg cz19), (V.int Go.IntKind.i64 x0), (V.int Go.IntKind.i64 x1), (V.int Go.IntKind.i64 (0 : Int)), (V.int Go.IntKind.i64 iz20)] h (fun (rz21 : V) (hz22 : Heap) =>
 ((True ∧ V.isAgg 49 rz21 = true) ∧ (((List.length (V.cells rz21)) = 49) ∧ 0 + 49 ≤ (List.length c6) ∧ (let cz23 : List V := (wrCells c6 0 (V.cells rz21));
 (Q Ex.ret ⟨[V.undef, V.undef, V.undef, V.undef, V.undef, V.undef, V.undef, V.undef, (V.lp 8 0), (V.int Go.IntKind.i64 (0 : Int)), V.undef, V.undef, V.undef, V.undef, V.undef, V.undef, V.undef, V.undef, V.undef, V.undef, V.undef, V.undef, V.undef, V.undef, V.undef, V.undef, V.undef, V.undef, V.undef, V.undef, V.undef, V.undef, V.undef, V.undef, V.undef, V.undef, V.undef, V.undef, V.undef, V.undef, V.undef, V.undef, V.undef], [(8, cz23)]⟩ hz22)))))))))) := wpA_at f40_n1111_plug (by kernel_rfl)
theorem f40_end1 (x0 : Int) (c1 : List V) (h : Heap) (K : V → Heap → Prop) : bodyK Try.prog Try.f40 K Ex.ret ⟨[V.undef, V.undef, V.undef, V.undef, V.undef, V.undef, V.undef, V.undef, (V.lp 8 0), (V.int Go.IntKind.i64 x0), V.undef, V.undef, V.undef, V.undef, V.undef, V.undef, V.undef, V.undef, V.undef, V.undef, V.undef, V.undef, V.undef, V.undef, V.undef, V.undef, V.undef, V.undef, V.undef, V.undef, V.undef, V.undef, V.undef, V.undef, V.undef, V.undef, V.undef, V.undef, V.undef, V.undef, V.undef, V.undef, V.undef], [(8, c1)]⟩ h = ((0 + 49 ≤ (List.length c1)) ∧ (let cz24 : List V := (List.take 49 (List.drop 0 c1));
 (K (V.tup [(V.agg cz24), (V.int Go.IntKind.i64 x0)]) h))) := by kernel_rfl
end

section
set_option linter.all false
set_option maxRecDepth 100000
open Go Go.Proofs Jb
def f37_cf : Cfg := ⟨[], [(0, [0, 9]), (1, [11, 12, 13, 14, 15, 16, 17, 18, 19, 20, 21]), (2, [1, 2, 3, 4, 22, 23]), (3, [22, 24, 25, 26, 27]), (4, [28]), (5, [29, 30, 31, 32, 33, 34, 35, 36]), (6, [10, 29, 37, 38]), (7, [1, 2, 3, 4, 39, 40]), (8, [1, 2, 3, 4, 39, 41, 42, 43, 44, 45, 46])]⟩
noncomputable def f37_b : Code := bodyOf Try.f37
noncomputable def f37_n : Code :=  (codeAt [] f37_b)
noncomputable def f37_n111 : Code := hide (codeAt [1, 1, 1] f37_b)
noncomputable def f37_n1110 : Code := hide (codeAt [1, 1, 1, 0] f37_b)
noncomputable def f37_n1111 : Code := hide (codeAt [1, 1, 1, 1] f37_b)
theorem f37_entry (t : List Int) (x : Int) (s : Int) (n : Int) (h : Heap) (K : V → Heap → Prop) : bodyW Try.prog f37_cf Try.f37 [(V.agg (ints t)), (V.int Go.IntKind.i64 x), (V.int Go.IntKind.i64 s), (V.int Go.IntKind.i64 n)] h K = wpA Try.prog f37_cf f37_n ⟨[(V.agg (ints t)), (V.int Go.IntKind.i64 x), (V.int Go.IntKind.i64 s), (V.int Go.IntKind.i64 n), V.undef, V.undef, V.undef, V.undef, V.undef, V.undef, V.undef, V.undef, V.undef, V.undef, V.undef, V.undef, V.undef, V.undef, V.undef, V.undef, V.undef, V.undef, V.undef, V.undef, V.undef, V.undef, V.undef, V.undef, V.undef, V.undef, V.undef, V.undef, V.undef, V.undef, V.undef, V.undef, V.undef, V.undef, V.undef, V.undef, V.undef, V.undef, V.undef, V.undef, V.undef, V.undef, V.undef], []⟩ h (bodyK Try.prog Try.f37 K) := by kernel_rfl
theorem f37_n_plug : f37_n = (plug [1, 1, 1] (codeAt [] f37_b) f37_n111) := by
  simp only [f37_n, f37_n111, hide_eq]
  try kernel_rfl
theorem f37_n_wp (t : List Int) (x : Int) (s : Int) (n : Int) (h : Heap) (Q : Ex → Fr → Heap → Prop) : wpA Try.prog f37_cf f37_n ⟨[(V.agg (ints t)), (V.int Go.IntKind.i64 x), (V.int Go.IntKind.i64 s), (V.int Go.IntKind.i64 n), V.undef, V.undef, V.undef, V.undef, V.undef, V.undef, V.undef, V.undef, V.undef, V.undef, V.undef, V.undef, V.undef, V.undef, V.undef, V.undef, V.undef, V.undef, V.undef, V.undef, V.undef, V.undef, V.undef, V.undef, V.undef, V.undef, V.undef, V.undef, V.undef, V.undef, V.undef, V.undef, V.undef, V.undef, V.undef, V.undef, V.undef, V.undef, V.undef, V.undef, V.undef, V.undef, V.undef], []⟩ h Q =
 (((List.length (ints t)) = 49) ∧ (True ∧ (AnyW Try.prog 34 [(V.int Go.IntKind.i64 x), (V.int Go.IntKind.i64 s)] h (fun (rz1 : V) (hz2 : Heap) =>
 ((True ∧ V.isBool rz1 = true) ∧ (((!(!(V.flag rz1))) = true → (!(!(V.flag rz1))) = true) ∧ ((((!(V.flag rz1)) = false → (!(!(V.flag rz1))) = true) ∧ True) ∧ (let bz3 : Bool := (cond (!(V.flag rz1)) true (decide (n < (1 : Int))));
 (((!bz3) = true → (!bz3) = true) ∧ (let bz4 : Bool := (decide ((4611686018427387904 : Int) < n));
 (((bz3 = false → (!bz3) = true) ∧ True) ∧ (brW (cond bz3 true bz4)
 ((0 + 49 ≤ (List.length (ints t))) ∧ (let cz5 : List V := (List.take 49 (List.drop 0 (ints t)));
 (((List.length cz5) = 49) ∧ 0 + 49 ≤ 49 ∧ (let cz6 : List V := (wrCells [(V.int Go.IntKind.i64 (0 : Int)), (V.int Go.IntKind.i64 (0 : Int)), (V.int Go.IntKind.i64 (0 : Int)), (V.int Go.IntKind.i64 (0 : Int)), (V.int Go.IntKind.i64 (0 : Int)), (V.int Go.IntKind.i64 (0 : Int)), (V.int Go.IntKind.i64 (0 : Int)), (V.int Go.IntKind.i64 (0 : Int)), (V.int Go.IntKind.i64 (0 : Int)), (V.int Go.IntKind.i64 (0 : Int)), (V.int Go.IntKind.i64 (0 : Int)), (V.int Go.IntKind.i64 (0 : Int)), (V.int Go.IntKind.i64 (0 : Int)), (V.int Go.IntKind.i64 (0 : Int)), (V.int Go.IntKind.i64 (0 : Int)), (V.int Go.IntKind.i64 (0 : Int)), (V.int Go.IntKind.i64 (0 : Int)), (V.int Go.IntKind.i64 (0 : Int)), (V.int Go.IntKind.i64 (0 : Int)), (V.int Go.IntKind.i64 (0 : Int)), (V.int Go.IntKind.i64 (0 : Int)), (V.int Go.IntKind.i64 (0 : Int)), (V.int Go.IntKind.i64 (0 : Int)), (V.int Go.IntKind.i64 (0 : Int)), (V.int Go.IntKind.i64 (0 : Int)), (V.int Go.IntKind.i64 (0 : Int)), (V.int Go.IntKind.i64 (0 : Int)), (V.int Go.IntKind.i64 (0 : Int)), (V.int Go.IntKind.i64 (0 : Int)), (V.int Go.IntKind.i64 (0 : Int)), (V.int Go.IntKind.i64 (0 : Int)), (V.int Go.IntKind.i64 (0 : Int)), (V.int Go.IntKind.i64 (0 : Int)), (V.int Go.IntKind.i64 (0 : Int)), (V.int Go.IntKind.i64 (0 : Int)), (V.int Go.IntKind.i64 (0 : Int)), (V.int Go.IntKind.i64 (0 : Int)), (V.int Go.IntKind.i64 (0 : Int)), (V.int Go.IntKind.i64 (0 : Int)), (V.int Go.IntKind.i64 (0 : Int)), (V.int Go.IntKind.i64 (0 : Int)), (V.int Go.IntKind.i64 (0 : Int)), (V.int Go.IntKind.i64 (0 : Int)), (V.int Go.IntKind.i64 (0 : Int)), (V.int Go.IntKind.i64 (0 : Int)), (V.int Go.IntKind.i64 (0 : Int)), (V.int Go.IntKind.i64 (0 : Int)), (V.int Go.IntKind.i64 (0 : Int)), (V.int Go.IntKind.i64 (0 : Int))] 0 cz5);
 (Q Ex.ret ⟨[V.undef, V.undef, V.undef, V.undef, V.undef, V.undef, V.undef, V.undef, (V.lp 8 0), (V.int Go.IntKind.i64 (2 : Int)), V.undef, V.undef, V.undef, V.undef, V.undef, V.undef, V.undef, V.undef, V.undef, V.undef, V.undef, V.undef, V.undef, V.undef, V.undef, V.undef, V.undef, V.undef, V.undef, V.undef, V.undef, V.undef, V.undef, V.undef, V.undef, V.undef, V.undef, V.undef, V.undef, V.undef, V.undef, V.undef, V.undef, V.undef, V.undef, V.undef, V.undef], [(8, cz6)]⟩ hz2)))))
 ((0 + 49 ≤ (List.length (ints t))) ∧ (let cz7 : List V := (List.take 49 (List.drop 0 (ints t)));
 (AnyW Try.prog 14 [(V.agg cz7), (V.int Go.IntKind.i64 x), (V.int Go.IntKind.i64 s)] hz2 (fun (rz8 : V) (hz9 : Heap) =>
 ((True ∧ V.isInt Go.IntKind.i64 rz8 = true) ∧ (wpA Try.prog f37_cf f37_n111 ⟨[V.undef, (V.int Go.IntKind.i64 x), (V.int Go.IntKind.i64 s), (V.int Go.IntKind.i64 n), (V.lp 4 0), V.undef, V.undef, V.undef, (V.lp 8 0), V.undef, (V.int Go.IntKind.i64 (V.num rz8)), V.undef, V.undef, V.undef, V.undef, V.undef, V.undef, V.undef, V.undef, V.undef, V.undef, V.undef, V.undef, V.undef, V.undef, V.undef, V.undef, V.undef, V.undef, V.undef, V.undef, V.undef, V.undef, V.undef, V.undef, V.undef, V.undef, V.undef, V.undef, V.undef, V.undef, V.undef, V.undef, V.undef, V.undef, V.undef, V.undef], [(4, (ints t)), (8, [(V.int Go.IntKind.i64 (0 : Int)), (V.int Go.IntKind.i64 (0 : Int)), (V.int Go.IntKind.i64 (0 : Int)), (V.int Go.IntKind.i64 (0 : Int)), (V.int Go.IntKind.i64 (0 : Int)), (V.int Go.IntKind.i64 (0 : Int)), (V.int Go.IntKind.i64 (0 : Int)), (V.int Go.IntKind.i64 (0 : Int)), (V.int Go.IntKind.i64 (0 : Int)), (V.int Go.IntKind.i64 (0 : Int)), (V.int Go.IntKind.i64 (0 : Int)), (V.int Go.IntKind.i64 (0 : Int)), (V.int Go.IntKind.i64 (0 : Int)), (V.int Go.IntKind.i64 (0 : Int)), (V.int Go.IntKind.i64 (0 : Int)), (V.int Go.IntKind.i64 (0 : Int)), (V.int Go.IntKind.i64 (0 : Int)), (V.int Go.IntKind.i64 (0 : Int)), (V.int Go.IntKind.i64 (0 : Int)), (V.int Go.IntKind.i64 (0 : Int)), (V.int Go.IntKind.i64 (0 : Int)), (V.int Go.IntKind.i64 (0 : Int)), (V.int Go.IntKind.i64 (0 : Int)), (V.int Go.IntKind.i64 (0 : Int)), (V.int Go.IntKind.i64 (0 : Int)), (V.int Go.IntKind.i64 (0 : Int)), (V.int Go.IntKind.i64 (0 : Int)), (V.int Go.IntKind.i64 (0 : Int)), (V.int Go.IntKind.i64 (0 : Int)), (V.int Go.IntKind.i64 (0 : Int)), (V.int Go.IntKind.i64 (0 : Int)), (V.int Go.IntKind.i64 (0 : Int)), (V.int Go.IntKind.i64 (0 : Int)), (V.int Go.IntKind.i64 (0 : Int)), (V.int Go.IntKind.i64 (0 : Int)), (V.int Go.IntKind.i64 (0 : Int)), (V.int Go.IntKind.i64 (0 : Int)), (V.int Go.IntKind.i64 (0 : Int)), (V.int Go.IntKind.i64 (0 : Int)), (V.int Go.IntKind.i64 (0 : Int)), (V.int Go.IntKind.i64 (0 : Int)), (V.int Go.IntKind.i64 (0 : Int)), (V.int Go.IntKind.i64 (0 : Int)), (V.int Go.IntKind.i64 (0 : Int)), (V.int Go.IntKind.i64 (0 : Int)), (V.int Go.IntKind.i64 (0 : Int)), (V.int Go.IntKind.i64 (0 : Int)), (V.int Go.IntKind.i64 (0 : Int)), (V.int Go.IntKind.i64 (0 : Int))])]⟩ hz9 Q)))))))))))))))))) := wpA_at f37_n_plug (by kernel_rfl)
theorem f37_n111_eq : f37_n111 = Code.seq f37_n1110 f37_n1111 := by
  simp only [f37_n111, f37_n1110, f37_n1111, hide_eq]
  kernel_rfl
theorem f37_n1110_plug : f37_n1110 = (codeAt [1, 1, 1, 0] f37_b) := by
  simp only [f37_n1110, hide_eq]
  try kernel_rfl
theorem f37_n1110_wp (x0 : Int) (x1 : Int) (x2 : Int) (x3 : Int) (c4 : List V) (c5 : List V) (h : Heap) (Q : Ex → Fr → Heap → Prop) : wpA Try.prog f37_cf f37_n1110 ⟨[V.undef, (V.int Go.IntKind.i64 x0), (V.int Go.IntKind.i64 x1), (V.int Go.IntKind.i64 x2), (V.lp 4 0), V.undef, V.undef, V.undef, (V.lp 8 0), V.undef, (V.int Go.IntKind.i64 x3), V.undef, V.undef, V.undef, V.undef, V.undef, V.undef, V.undef, V.undef, V.undef, V.undef, V.undef, V.undef, V.undef, V.undef, V.undef, V.undef, V.undef, V.undef, V.undef, V.undef, V.undef, V.undef, V.undef, V.undef, V.undef, V.undef, V.undef, V.undef, V.undef, V.undef, V.undef, V.undef, V.undef, V.undef, V.undef, V.undef], [(4, c4), (8, c5)]⟩ h Q =
 (brW (x1 == (1 : Int))
 ((0 ≤ x0 ∧ x0 < 8) ∧ ((((0 + ((Int.toNat x0) * 6)) + 4) < (List.length c4) ∧ V.isInt Go.IntKind.i64 (gv c4 ((0 + ((Int.toNat x0) * 6)) + 4)) = true) ∧ (let iz10 : Int := (V.num (gv c4 ((0 + ((Int.toNat x0) * 6)) + 4)));
 (let iz11 : Int := (Go.IntKind.wrap Go.IntKind.i64 (x3 - iz10));
 (Q Ex.normal ⟨[V.undef, (V.int Go.IntKind.i64 x0), (V.int Go.IntKind.i64 x1), (V.int Go.IntKind.i64 x2), (V.lp 4 0), V.undef, V.undef, V.undef, (V.lp 8 0), V.undef, (V.int Go.IntKind.i64 iz11), V.undef, V.undef, V.undef, V.undef, V.undef, V.undef, V.undef, V.undef, V.undef, V.undef, V.undef, V.undef, V.undef, V.undef, V.undef, V.undef, V.undef, V.undef, V.undef, V.undef, V.undef, V.undef, V.undef, V.undef, V.undef, V.undef, V.undef, V.undef, V.undef, V.undef, V.undef, V.undef, V.undef, V.undef, V.undef, V.undef], [(4, c4), (8, c5)]⟩ h)))))
 (Q Ex.normal ⟨[V.undef, (V.int Go.IntKind.i64 x0), (V.int Go.IntKind.i64 x1), (V.int Go.IntKind.i64 x2), (V.lp 4 0), V.undef, V.undef, V.undef, (V.lp 8 0), V.undef, (V.int Go.IntKind.i64 x3), V.undef, V.undef, V.undef, V.undef, V.undef, V.undef, V.undef, V.undef, V.undef, V.undef, V.undef, V.undef, V.undef, V.undef, V.undef, V.undef, V.undef, V.undef, (V.bool (x1 == (1 : Int))), V.undef, V.undef, V.undef, V.undef, V.undef, V.undef, V.undef, V.undef, V.undef, V.undef, V.undef, V.undef, V.undef, V.undef, V.undef, V.undef, V.undef], [(4, c4), (8, c5)]⟩ h)) := wpA_at f37_n1110_plug (by kernel_rfl)
theorem f37_n1111_plug : f37_n1111 = (codeAt [1, 1, 1, 1] f37_b) := by
  simp only [f37_n1111, hide_eq]
  try kernel_rfl
theorem f37_n1111_wp (x0 : Int) (x1 : Int) (x2 : Int) (x3 : Int) (c4 : List V) (c5 : List V) (h : Heap) (Q : Ex → Fr → Heap → Prop) : wpA Try.prog f37_cf f37_n1111 ⟨[V.undef, (V.int Go.IntKind.i64 x0), (V.int Go.IntKind.i64 x1), (V.int Go.IntKind.i64 x2), (V.lp 4 0), V.undef, V.undef, V.undef, (V.lp 8 0), V.undef, (V.int Go.IntKind.i64 x3), V.undef, V.undef, V.undef, V.undef, V.undef, V.undef, V.undef, V.undef, V.undef, V.undef, V.undef, V.undef, V.undef, V.undef, V.undef, V.undef, V.undef, V.undef, V.undef, V.undef, V.undef, V.undef, V.undef, V.undef, V.undef, V.undef, V.undef, V.undef, V.undef, V.undef, V.undef, V.undef, V.undef, V.undef, V.undef, V.undef], [(4, c4), (8, c5)]⟩ h Q =
 (brW (decide (x3 < x2))
 ((0 + 49 ≤ (List.length c4)) ∧ (let cz12 : List V := (List.take 49 (List.drop 0 c4));
 (((List.length cz12) = 49) ∧ 0 + 49 ≤ (List.length c5) ∧ (Q Ex.ret ⟨[V.undef, V.undef, V.undef, V.undef, V.undef, V.undef, V.undef, V.undef, (V.lp 8 0), (V.int Go.IntKind.i64 (53 : Int)), V.undef, V.undef, V.undef, V.undef, V.undef, V.undef, V.undef, V.undef, V.undef, V.undef, V.undef, V.undef, V.undef, V.undef, V.undef, V.undef, V.undef, V.undef, V.undef, V.undef, V.undef, V.undef, V.undef, V.undef, V.undef, V.undef, V.undef, V.undef, V.undef, V.undef, V.undef, V.undef, V.undef, V.undef, V.undef, V.undef, V.undef], [(8, (wrCells c5 0 cz12))]⟩ h))))
 ((0 + 49 ≤ (List.length c4)) ∧ (let cz13 : List V := (List.take 49 (List.drop 0 c4));
 (let iz14 : Int := (Go.IntKind.wrap Go.IntKind.i64 (0 - x2));
 (AnyW Try.prog 59 [(V.agg cz13), (V.int Go.IntKind.i64 x0), (V.int Go.IntKind.i64 x1), (V.int Go.IntKind.i64 iz14), (V.int Go.IntKind.i64 (0 : Int))] h (fun (rz15 : V) (hz16 : Heap) =>
 ((True ∧ V.isAgg 49 rz15 = true) ∧ (((List.length (V.cells rz15)) = 49) ∧ 0 + 49 ≤ (List.length c5) ∧ (let cz17 : List V := (wrCells c5 0 (V.cells rz15));
 (Q Ex.ret ⟨[V.undef, V.undef, V.undef, V.undef, V.undef, V.undef, V.undef, V.undef, (V.lp 8 0), (V.int Go.IntKind.i64 (0 : Int)), V.undef, V.undef, V.undef, V.undef, V.undef, V.undef, V.undef, V.undef, V.undef, V.undef, V.undef, V.undef, V.undef, V.undef, V.undef, V.undef, V.undef, V.undef, V.undef, V.undef, V.undef, V.undef, V.undef, V.undef, V.undef, V.undef, V.undef, V.undef, V.undef, V.undef, V.undef, V.undef, V.undef, V.undef, V.undef, V.undef, V.undef], [(8, cz17)]⟩ hz16)))))))))) := wpA_at f37_n1111_plug (by kernel_rfl)
theorem f37_n1111s1_wp (x0 : Int) (x1 : Int) (x2 : Int) (x3 : Int) (b4 : Bool) (c5 : List V) (c6 : List V) (h : Heap) (Q : Ex → Fr → Heap → Prop) : wpA Try.prog f37_cf f37_n1111 ⟨[V.undef, (V.int Go.IntKind.i64 x0), (V.int Go.IntKind.i64 x1), (V.int Go.IntKind.i64 x2), (V.lp 4 0), V.undef, V.undef, V.undef, (V.lp 8 0), V.undef, (V.int Go.IntKind.i64 x3), V.undef, V.undef, V.undef, V.undef, V.undef, V.undef, V.undef, V.undef, V.undef, V.undef, V.undef, V.undef, V.undef, V.undef, V.undef, V.undef, V.undef, V.undef, (V.bool b4), V.undef, V.undef, V.undef, V.undef, V.undef, V.undef, V.undef, V.undef, V.undef, V.undef, V.undef, V.undef, V.undef, V.undef, V.undef, V.undef, V.undef], [(4, c5), (8, c6)]⟩ h Q =
 (brW (decide (x3 < x2))
 ((0 + 49 ≤ (List.length c5)) ∧ (let cz18 : List V := (List.take 49 (List.drop 0 c5));
 (((List.length cz18) = 49) ∧ 0 + 49 ≤ (List.length c6) ∧ (Q Ex.ret ⟨[V.undef, V.undef, V.undef, V.undef, V.undef, V.undef, V.undef, V.undef, (V.lp 8 0), (V.int Go.IntKind.i64 (53 : Int)), V.undef, V.undef, V.undef, V.undef, V.undef, V.undef, V.undef, V.undef, V.undef, V.undef, V.undef, V.undef, V.undef, V.undef, V.undef, V.undef, V.undef, V.undef, V.undef, V.undef, V.undef, V.undef, V.undef, V.undef, V.undef, V.undef, V.undef, V.undef, V.undef, V.undef, V.undef, V.undef, V.undef, V.undef, V.undef, V.undef, V.undef], [(8, (wrCells c6 0 cz18))]⟩ h))))
 ((0 + 49 ≤ (List.length c5)) ∧ (let cz19 : List V := (List.take 49 (List.drop 0 c5));
 (let iz20 : Int := (Go.IntKind.wrap Go.IntKind.i64 (0 - x2));
 (AnyW Try.prog 59 [(V.agg cz19), (V.int Go.IntKind.i64 x0), (V.int Go.IntKind.i64 x1), (V.int Go.IntKind.i64 iz20), (V.int Go.IntKind.i64 (0 : Int))] h (fun (rz21 : V) (hz22 : Heap) =>
 ((True ∧ V.isAgg 49 rz21 = true) ∧ (((List.length (V.cells rz21)) = 49) ∧ 0 + 49 ≤ (List.length c6) ∧ (let cz23 : List V := (wrCells c6 0 (V.cells rz21));
 (Q Ex.ret ⟨[V.undef, V.undef, V.undef, V.undef, V.undef, V.undef, V.undef, V.undef, (V.lp 8 0), (V.int Go.IntKind.i64 (0 : Int)), V.undef, V.undef, V.undef, V.undef, V.undef, V.undef, V.undef, V.undef, V.undef, V.undef, V.undef, V.undef, V.undef, V.undef, V.undef, V.undef, V.undef, V.undef, V.undef, V.undef, V.undef, V.undef, V.undef, V.undef, V.undef, V.undef, V.undef, V.undef, V.undef, V.undef, V.undef, V.undef, V.undef, V.undef, V.undef, V.undef, V.undef], [(8, cz23)]⟩ hz22)))))))))) := wpA_at f37_n1111_plug (by kernel_rfl)
theorem f37_end1 (x0 : Int) (c1 : List V) (h : Heap) (K : V → Heap → Prop) : bodyK Try.prog Try.f37 K Ex.ret ⟨[V.undef, V.undef, V.undef, V.undef, V.undef, V.undef, V.undef, V.undef, (V.lp 8 0), (V.int Go.IntKind.i64 x0), V.undef, V.undef, V.undef, V.undef, V.undef, V.undef, V.undef, V.undef, V.undef, V.undef, V.undef, V.undef, V.undef, V.undef, V.undef, V.undef, V.undef, V.undef, V.undef, V.undef, V.undef, V.undef, V.undef, V.undef, V.undef, V.undef, V.undef, V.undef, V.undef, V.undef, V.undef, V.undef, V.undef, V.undef, V.undef, V.undef, V.undef], [(8, c1)]⟩ h = ((0 + 49 ≤ (List.length c1)) ∧ (let cz24 : List V := (List.take 49 (List.drop 0 c1));
 (K (V.tup [(V.agg cz24), (V.int Go.IntKind.i64 x0)]) h))) := by kernel_rfl
end

section
set_option linter.all false
set_option maxRecDepth 100000
open Go Go.Proofs Jb
def f35_cf : Cfg := ⟨[], [(0, [0, 9]), (1, [12, 13, 14, 15, 16, 17, 18, 19, 20, 21, 22]), (2, [1, 2, 3, 4, 23, 24]), (3, [10, 23, 25, 26, 27, 28, 29, 30, 31]), (4, [11, 32]), (5, [1, 2, 3, 4, 33, 34]), (6, [1, 2, 3, 4, 33, 35, 36, 37, 38, 39])]⟩
noncomputable def f35_b : Code := bodyOf Try.f35
noncomputable def f35_n : Code :=  (codeAt [] f35_b)
theorem f35_entry (t : List Int) (x : Int) (s : Int) (n : Int) (h : Heap) (K : V → Heap → Prop) : bodyW Try.prog f35_cf Try.f35 [(V.agg (ints t)), (V.int Go.IntKind.i64 x), (V.int Go.IntKind.i64 s), (V.int Go.IntKind.i64 n)] h K = wpA Try.prog f35_cf f35_n ⟨[(V.agg (ints t)), (V.int Go.IntKind.i64 x), (V.int Go.IntKind.i64 s), (V.int Go.IntKind.i64 n), V.undef, V.undef, V.undef, V.undef, V.undef, V.undef, V.undef, V.undef, V.undef, V.undef, V.undef, V.undef, V.undef, V.undef, V.undef, V.undef, V.undef, V.undef, V.undef, V.undef, V.undef, V.undef, V.undef, V.undef, V.undef, V.undef, V.undef, V.undef, V.undef, V.undef, V.undef, V.undef, V.undef, V.undef, V.undef, V.undef], []⟩ h (bodyK Try.prog Try.f35 K) := by kernel_rfl
theorem f35_n_plug : f35_n = (codeAt [] f35_b) := by
  simp only [f35_n, hide_eq]
  try kernel_rfl
theorem f35_n_wp (t : List Int) (x : Int) (s : Int) (n : Int) (h : Heap) (Q : Ex → Fr → Heap → Prop) : wpA Try.prog f35_cf f35_n ⟨[(V.agg (ints t)), (V.int Go.IntKind.i64 x), (V.int Go.IntKind.i64 s), (V.int Go.IntKind.i64 n), V.undef, V.undef, V.undef, V.undef, V.undef, V.undef, V.undef, V.undef, V.undef, V.undef, V.undef, V.undef, V.undef, V.undef, V.undef, V.undef, V.undef, V.undef, V.undef, V.undef, V.undef, V.undef, V.undef, V.undef, V.undef, V.undef, V.undef, V.undef, V.undef, V.undef, V.undef, V.undef, V.undef, V.undef, V.undef, V.undef], []⟩ h Q =
 (((List.length (ints t)) = 49) ∧ (True ∧ (AnyW Try.prog 34 [(V.int Go.IntKind.i64 x), (V.int Go.IntKind.i64 s)] h (fun (rz1 : V) (hz2 : Heap) =>
 ((True ∧ V.isBool rz1 = true) ∧ (((!(!(V.flag rz1))) = true → (!(!(V.flag rz1))) = true) ∧ ((((!(V.flag rz1)) = false → (!(!(V.flag rz1))) = true) ∧ True) ∧ (let bz3 : Bool := (cond (!(V.flag rz1)) true (decide (n < (1 : Int))));
 (((!bz3) = true → (!bz3) = true) ∧ (let bz4 : Bool := (decide ((4611686018427387904 : Int) < n));
 (((bz3 = false → (!bz3) = true) ∧ True) ∧ (brW (cond bz3 true bz4)
 ((0 + 49 ≤ (List.length (ints t))) ∧ (let cz5 : List V := (List.take 49 (List.drop 0 (ints t)));
 (((List.length cz5) = 49) ∧ 0 + 49 ≤ 49 ∧ (let cz6 : List V := (wrCells [(V.int Go.IntKind.i64 (0 : Int)), (V.int Go.IntKind.i64 (0 : Int)), (V.int Go.IntKind.i64 (0 : Int)), (V.int Go.IntKind.i64 (0 : Int)), (V.int Go.IntKind.i64 (0 : Int)), (V.int Go.IntKind.i64 (0 : Int)), (V.int Go.IntKind.i64 (0 : Int)), (V.int Go.IntKind.i64 (0 : Int)), (V.int Go.IntKind.i64 (0 : Int)), (V.int Go.IntKind.i64 (0 : Int)), (V.int Go.IntKind.i64 (0 : Int)), (V.int Go.IntKind.i64 (0 : Int)), (V.int Go.IntKind.i64 (0 : Int)), (V.int Go.IntKind.i64 (0 : Int)), (V.int Go.IntKind.i64 (0 : Int)), (V.int Go.IntKind.i64 (0 : Int)), (V.int Go.IntKind.i64 (0 : Int)), (V.int Go.IntKind.i64 (0 : Int)), (V.int Go.IntKind.i64 (0 : Int)), (V.int Go.IntKind.i64 (0 : Int)), (V.int Go.IntKind.i64 (0 : Int)), (V.int Go.IntKind.i64 (0 : Int)), (V.int Go.IntKind.i64 (0 : Int)), (V.int Go.IntKind.i64 (0 : Int)), (V.int Go.IntKind.i64 (0 : Int)), (V.int Go.IntKind.i64 (0 : Int)), (V.int Go.IntKind.i64 (0 : Int)), (V.int Go.IntKind.i64 (0 : Int)), (V.int Go.IntKind.i64 (0 : Int)), (V.int Go.IntKind.i64 (0 : Int)), (V.int Go.IntKind.i64 (0 : Int)), (V.int Go.IntKind.i64 (0 : Int)), (V.int Go.IntKind.i64 (0 : Int)), (V.int Go.IntKind.i64 (0 : Int)), (V.int Go.IntKind.i64 (0 : Int)), (V.int Go.IntKind.i64 (0 : Int)), (V.int Go.IntKind.i64 (0 : Int)), (V.int Go.IntKind.i64 (0 : Int)), (V.int Go.IntKind.i64 (0 : Int)), (V.int Go.IntKind.i64 (0 : Int)), (V.int Go.IntKind.i64 (0 : Int)), (V.int Go.IntKind.i64 (0 : Int)), (V.int Go.IntKind.i64 (0 : Int)), (V.int Go.IntKind.i64 (0 : Int)), (V.int Go.IntKind.i64 (0 : Int)), (V.int Go.IntKind.i64 (0 : Int)), (V.int Go.IntKind.i64 (0 : Int)), (V.int Go.IntKind.i64 (0 : Int)), (V.int Go.IntKind.i64 (0 : Int))] 0 cz5);
 (Q Ex.ret ⟨[V.undef, V.undef, V.undef, V.undef, V.undef, V.undef, V.undef, V.undef, (V.lp 8 0), (V.int Go.IntKind.i64 (2 : Int)), V.undef, V.undef, V.undef, V.undef, V.undef, V.undef, V.undef, V.undef, V.undef, V.undef, V.undef, V.undef, V.undef, V.undef, V.undef, V.undef, V.undef, V.undef, V.undef, V.undef, V.undef, V.undef, V.undef, V.undef, V.undef, V.undef, V.undef, V.undef, V.undef, V.undef], [(8, cz6)]⟩ hz2)))))
 ((0 + 49 ≤ (List.length (ints t))) ∧ (let cz7 : List V := (List.take 49 (List.drop 0 (ints t)));
 (AnyW Try.prog 28 [(V.agg cz7), (V.int Go.IntKind.i64 s), (V.int Go.IntKind.i64 n)] hz2 (fun (rz8 : V) (hz9 : Heap) =>
 (V.isTup 2 rz8 = true ∧ ((True ∧ V.isInt Go.IntKind.i64 (gv (V.vs rz8) 0) = true) ∧ (let iz10 : Int := (V.num (gv (V.vs rz8) 0));
 ((True ∧ V.isBool (gv (V.vs rz8) 1) = true) ∧ (let bz11 : Bool := (V.flag (gv (V.vs rz8) 1));
 ((true = true) ∧ ((true = true) ∧ (brW (!bz11)
 ((0 + 49 ≤ (List.length (ints t))) ∧ (let cz12 : List V := (List.take 49 (List.drop 0 (ints t)));
 (((List.length cz12) = 49) ∧ 0 + 49 ≤ 49 ∧ (let cz13 : List V := (wrCells [(V.int Go.IntKind.i64 (0 : Int)), (V.int Go.IntKind.i64 (0 : Int)), (V.int Go.IntKind.i64 (0 : Int)), (V.int Go.IntKind.i64 (0 : Int)), (V.int Go.IntKind.i64 (0 : Int)), (V.int Go.IntKind.i64 (0 : Int)), (V.int Go.IntKind.i64 (0 : Int)), (V.int Go.IntKind.i64 (0 : Int)), (V.int Go.IntKind.i64 (0 : Int)), (V.int Go.IntKind.i64 (0 : Int)), (V.int Go.IntKind.i64 (0 : Int)), (V.int Go.IntKind.i64 (0 : Int)), (V.int Go.IntKind.i64 (0 : Int)), (V.int Go.IntKind.i64 (0 : Int)), (V.int Go.IntKind.i64 (0 : Int)), (V.int Go.IntKind.i64 (0 : Int)), (V.int Go.IntKind.i64 (0 : Int)), (V.int Go.IntKind.i64 (0 : Int)), (V.int Go.IntKind.i64 (0 : Int)), (V.int Go.IntKind.i64 (0 : Int)), (V.int Go.IntKind.i64 (0 : Int)), (V.int Go.IntKind.i64 (0 : Int)), (V.int Go.IntKind.i64 (0 : Int)), (V.int Go.IntKind.i64 (0 : Int)), (V.int Go.IntKind.i64 (0 : Int)), (V.int Go.IntKind.i64 (0 : Int)), (V.int Go.IntKind.i64 (0 : Int)), (V.int Go.IntKind.i64 (0 : Int)), (V.int Go.IntKind.i64 (0 : Int)), (V.int Go.IntKind.i64 (0 : Int)), (V.int Go.IntKind.i64 (0 : Int)), (V.int Go.IntKind.i64 (0 : Int)), (V.int Go.IntKind.i64 (0 : Int)), (V.int Go.IntKind.i64 (0 : Int)), (V.int Go.IntKind.i64 (0 : Int)), (V.int Go.IntKind.i64 (0 : Int)), (V.int Go.IntKind.i64 (0 : Int)), (V.int Go.IntKind.i64 (0 : Int)), (V.int Go.IntKind.i64 (0 : Int)), (V.int Go.IntKind.i64 (0 : Int)), (V.int Go.IntKind.i64 (0 : Int)), (V.int Go.IntKind.i64 (0 : Int)), (V.int Go.IntKind.i64 (0 : Int)), (V.int Go.IntKind.i64 (0 : Int)), (V.int Go.IntKind.i64 (0 : Int)), (V.int Go.IntKind.i64 (0 : Int)), (V.int Go.IntKind.i64 (0 : Int)), (V.int Go.IntKind.i64 (0 : Int)), (V.int Go.IntKind.i64 (0 : Int))] 0 cz12);
 (Q Ex.ret ⟨[V.undef, V.undef, V.undef, V.undef, V.undef, V.undef, V.undef, V.undef, (V.lp 8 0), (V.int Go.IntKind.i64 (10 : Int)), V.undef, V.undef, V.undef, V.undef, V.undef, V.undef, V.undef, V.undef, V.undef, V.undef, V.undef, V.undef, V.undef, V.undef, V.undef, V.undef, V.undef, V.undef, V.undef, V.undef, V.undef, V.undef, V.undef, V.undef, V.undef, V.undef, V.undef, V.undef, V.undef, V.undef], [(8, cz13)]⟩ hz9)))))
 ((0 + 49 ≤ (List.length (ints t))) ∧ (let cz14 : List V := (List.take 49 (List.drop 0 (ints t)));
 (AnyW Try.prog 59 [(V.agg cz14), (V.int Go.IntKind.i64 x), (V.int Go.IntKind.i64 s), (V.int Go.IntKind.i64 n), (V.int Go.IntKind.i64 (0 : Int))] hz9 (fun (rz15 : V) (hz16 : Heap) =>
 ((True ∧ V.isAgg 49 rz15 = true) ∧ (((List.length (V.cells rz15)) = 49) ∧ 0 + 49 ≤ 49 ∧ (let cz17 : List V := (wrCells [(V.int Go.IntKind.i64 (0 : Int)), (V.int Go.IntKind.i64 (0 : Int)), (V.int Go.IntKind.i64 (0 : Int)), (V.int Go.IntKind.i64 (0 : Int)), (V.int Go.IntKind.i64 (0 : Int)), (V.int Go.IntKind.i64 (0 : Int)), (V.int Go.IntKind.i64 (0 : Int)), (V.int Go.IntKind.i64 (0 : Int)), (V.int Go.IntKind.i64 (0 : Int)), (V.int Go.IntKind.i64 (0 : Int)), (V.int Go.IntKind.i64 (0 : Int)), (V.int Go.IntKind.i64 (0 : Int)), (V.int Go.IntKind.i64 (0 : Int)), (V.int Go.IntKind.i64 (0 : Int)), (V.int Go.IntKind.i64 (0 : Int)), (V.int Go.IntKind.i64 (0 : Int)), (V.int Go.IntKind.i64 (0 : Int)), (V.int Go.IntKind.i64 (0 : Int)), (V.int Go.IntKind.i64 (0 : Int)), (V.int Go.IntKind.i64 (0 : Int)), (V.int Go.IntKind.i64 (0 : Int)), (V.int Go.IntKind.i64 (0 : Int)), (V.int Go.IntKind.i64 (0 : Int)), (V.int Go.IntKind.i64 (0 : Int)), (V.int Go.IntKind.i64 (0 : Int)), (V.int Go.IntKind.i64 (0 : Int)), (V.int Go.IntKind.i64 (0 : Int)), (V.int Go.IntKind.i64 (0 : Int)), (V.int Go.IntKind.i64 (0 : Int)), (V.int Go.IntKind.i64 (0 : Int)), (V.int Go.IntKind.i64 (0 : Int)), (V.int Go.IntKind.i64 (0 : Int)), (V.int Go.IntKind.i64 (0 : Int)), (V.int Go.IntKind.i64 (0 : Int)), (V.int Go.IntKind.i64 (0 : Int)), (V.int Go.IntKind.i64 (0 : Int)), (V.int Go.IntKind.i64 (0 : Int)), (V.int Go.IntKind.i64 (0 : Int)), (V.int Go.IntKind.i64 (0 : Int)), (V.int Go.IntKind.i64 (0 : Int)), (V.int Go.IntKind.i64 (0 : Int)), (V.int Go.IntKind.i64 (0 : Int)), (V.int Go.IntKind.i64 (0 : Int)), (V.int Go.IntKind.i64 (0 : Int)), (V.int Go.IntKind.i64 (0 : Int)), (V.int Go.IntKind.i64 (0 : Int)), (V.int Go.IntKind.i64 (0 : Int)), (V.int Go.IntKind.i64 (0 : Int)), (V.int Go.IntKind.i64 (0 : Int))] 0 (V.cells rz15));
 (Q Ex.ret ⟨[V.undef, V.undef, V.undef, V.undef, V.undef, V.undef, V.undef, V.undef, (V.lp 8 0), (V.int Go.IntKind.i64 (0 : Int)), V.undef, V.undef, V.undef, V.undef, V.undef, V.undef, V.undef, V.undef, V.undef, V.undef, V.undef, V.undef, V.undef, V.undef, V.undef, V.undef, V.undef, V.undef, V.undef, V.undef, V.undef, V.undef, V.undef, V.undef, V.undef, V.undef, V.undef, V.undef, V.undef, V.undef], [(8, cz17)]⟩ hz16)))))))))))))))))))))))))))))))) := wpA_at f35_n_plug (by kernel_rfl)
theorem f35_end1 (x0 : Int) (c1 : List V) (h : Heap) (K : V → Heap → Prop) : bodyK Try.prog Try.f35 K Ex.ret ⟨[V.undef, V.undef, V.undef, V.undef, V.undef, V.undef, V.undef, V.undef, (V.lp 8 0), (V.int Go.IntKind.i64 x0), V.undef, V.undef, V.undef, V.undef, V.undef, V.undef, V.undef, V.undef, V.undef, V.undef, V.undef, V.undef, V.undef, V.undef, V.undef, V.undef, V.undef, V.undef, V.undef, V.undef, V.undef, V.undef, V.undef, V.undef, V.undef, V.undef, V.undef, V.undef, V.undef, V.undef], [(8, c1)]⟩ h = ((0 + 49 ≤ (List.length c1)) ∧ (let cz18 : List V := (List.take 49 (List.drop 0 c1));
 (K (V.tup [(V.agg cz18), (V.int Go.IntKind.i64 x0)]) h))) := by kernel_rfl
end

section
set_option linter.all false
set_option maxRecDepth 100000
open Go Go.Proofs Jb
def f60_cf : Cfg := ⟨[], [(0, [0]), (1, [2, 9, 10, 11, 12, 13, 14, 15, 16, 17, 18, 19]), (2, [1, 3, 20, 21, 22, 23, 24, 25, 26, 27, 28, 29, 30]), (3, [4, 31])]⟩
noncomputable def f60_b : Code := bodyOf Try.f60
noncomputable def f60_n : Code :=  (codeAt [] f60_b)
theorem f60_entry (t : List Int) (x : Int) (n : Int) (m : Int) (h : Heap) (K : V → Heap → Prop) : bodyW Try.prog f60_cf Try.f60 [(V.agg (ints t)), (V.int Go.IntKind.i64 x), (V.int Go.IntKind.i64 n), (V.int Go.IntKind.i64 m)] h K = wpA Try.prog f60_cf f60_n ⟨[(V.agg (ints t)), (V.int Go.IntKind.i64 x), (V.int Go.IntKind.i64 n), (V.int Go.IntKind.i64 m), V.undef, V.undef, V.undef, V.undef, V.undef, V.undef, V.undef, V.undef, V.undef, V.undef, V.undef, V.undef, V.undef, V.undef, V.undef, V.undef, V.undef, V.undef, V.undef, V.undef, V.undef, V.undef, V.undef, V.undef, V.undef, V.undef, V.undef, V.undef], []⟩ h (bodyK Try.prog Try.f60 K) := by kernel_rfl
theorem f60_n_plug : f60_n = (codeAt [] f60_b) := by
  simp only [f60_n, hide_eq]
  try kernel_rfl
theorem f60_n_wp (t : List Int) (x : Int) (n : Int) (m : Int) (h : Heap) (Q : Ex → Fr → Heap → Prop) : wpA Try.prog f60_cf f60_n ⟨[(V.agg (ints t)), (V.int Go.IntKind.i64 x), (V.int Go.IntKind.i64 n), (V.int Go.IntKind.i64 m), V.undef, V.undef, V.undef, V.undef, V.undef, V.undef, V.undef, V.undef, V.undef, V.undef, V.undef, V.undef, V.undef, V.undef, V.undef, V.undef, V.undef, V.undef, V.undef, V.undef, V.undef, V.undef, V.undef, V.undef, V.undef, V.undef, V.undef, V.undef], []⟩ h Q =
 (((List.length (ints t)) = 49) ∧ (True ∧ ((0 ≤ x ∧ x < 8) ∧ ((((0 + ((Int.toNat x) * 6)) + 4) < (List.length (ints t)) ∧ V.isInt Go.IntKind.i64 (gv (ints t) ((0 + ((Int.toNat x) * 6)) + 4)) = true) ∧ (let iz1 : Int := (V.num (gv (ints t) ((0 + ((Int.toNat x) * 6)) + 4)));
 (AnyW Try.prog 71 [(V.int Go.IntKind.i64 iz1), (V.int Go.IntKind.i64 n)] h (fun (rz2 : V) (hz3 : Heap) =>
 ((True ∧ V.isInt Go.IntKind.i64 rz2 = true) ∧ ((0 ≤ x ∧ x < 8) ∧ (True ∧ ((0 + ((Int.toNat x) * 6)) + 4) + 1 ≤ (List.length (ints t)) ∧ (let cz4 : List V := (wrCells (ints t) ((0 + ((Int.toNat x) * 6)) + 4) [(V.int Go.IntKind.i64 (V.num rz2))]);
 ((0 ≤ x ∧ x < 8) ∧ ((((0 + ((Int.toNat x) * 6)) + 5) < (List.length cz4) ∧ V.isInt Go.IntKind.i64 (gv cz4 ((0 + ((Int.toNat x) * 6)) + 5)) = true) ∧ (let iz5 : Int := (V.num (gv cz4 ((0 + ((Int.toNat x) * 6)) + 5)));
 (AnyW Try.prog 71 [(V.int Go.IntKind.i64 iz5), (V.int Go.IntKind.i64 m)] hz3 (fun (rz6 : V) (hz7 : Heap) =>
 ((True ∧ V.isInt Go.IntKind.i64 rz6 = true) ∧ ((0 ≤ x ∧ x < 8) ∧ (True ∧ ((0 + ((Int.toNat x) * 6)) + 5) + 1 ≤ (List.length cz4) ∧ (let cz8 : List V := (wrCells cz4 ((0 + ((Int.toNat x) * 6)) + 5) [(V.int Go.IntKind.i64 (V.num rz6))]);
 ((0 + 49 ≤ (List.length cz8)) ∧ (let cz9 : List V := (List.take 49 (List.drop 0 cz8));
 (((List.length cz9) = 49) ∧ 0 + 49 ≤ 49 ∧ (let cz10 : List V := (wrCells [(V.int Go.IntKind.i64 (0 : Int)), (V.int Go.IntKind.i64 (0 : Int)), (V.int Go.IntKind.i64 (0 : Int)), (V.int Go.IntKind.i64 (0 : Int)), (V.int Go.IntKind.i64 (0 : Int)), (V.int Go.IntKind.i64 (0 : Int)), (V.int Go.IntKind.i64 (0 : Int)), (V.int Go.IntKind.i64 (0 : Int)), (V.int Go.IntKind.i64 (0 : Int)), (V.int Go.IntKind.i64 (0 : Int)), (V.int Go.IntKind.i64 (0 : Int)), (V.int Go.IntKind.i64 (0 : Int)), (V.int Go.IntKind.i64 (0 : Int)), (V.int Go.IntKind.i64 (0 : Int)), (V.int Go.IntKind.i64 (0 : Int)), (V.int Go.IntKind.i64 (0 : Int)), (V.int Go.IntKind.i64 (0 : Int)), (V.int Go.IntKind.i64 (0 : Int)), (V.int Go.IntKind.i64 (0 : Int)), (V.int Go.IntKind.i64 (0 : Int)), (V.int Go.IntKind.i64 (0 : Int)), (V.int Go.IntKind.i64 (0 : Int)), (V.int Go.IntKind.i64 (0 : Int)), (V.int Go.IntKind.i64 (0 : Int)), (V.int Go.IntKind.i64 (0 : Int)), (V.int Go.IntKind.i64 (0 : Int)), (V.int Go.IntKind.i64 (0 : Int)), (V.int Go.IntKind.i64 (0 : Int)), (V.int Go.IntKind.i64 (0 : Int)), (V.int Go.IntKind.i64 (0 : Int)), (V.int Go.IntKind.i64 (0 : Int)), (V.int Go.IntKind.i64 (0 : Int)), (V.int Go.IntKind.i64 (0 : Int)), (V.int Go.IntKind.i64 (0 : Int)), (V.int Go.IntKind.i64 (0 : Int)), (V.int Go.IntKind.i64 (0 : Int)), (V.int Go.IntKind.i64 (0 : Int)), (V.int Go.IntKind.i64 (0 : Int)), (V.int Go.IntKind.i64 (0 : Int)), (V.int Go.IntKind.i64 (0 : Int)), (V.int Go.IntKind.i64 (0 : Int)), (V.int Go.IntKind.i64 (0 : Int)), (V.int Go.IntKind.i64 (0 : Int)), (V.int Go.IntKind.i64 (0 : Int)), (V.int Go.IntKind.i64 (0 : Int)), (V.int Go.IntKind.i64 (0 : Int)), (V.int Go.IntKind.i64 (0 : Int)), (V.int Go.IntKind.i64 (0 : Int)), (V.int Go.IntKind.i64 (0 : Int))] 0 cz9);
 (Q Ex.ret ⟨[V.undef, V.undef, V.undef, V.undef, V.undef, V.undef, V.undef, V.undef, (V.lp 8 0), V.undef, V.undef, V.undef, V.undef, V.undef, V.undef, V.undef, V.undef, V.undef, V.undef, V.undef, V.undef, V.undef, V.undef, V.undef, V.undef, V.undef, V.undef, V.undef, V.undef, V.undef, V.undef, V.undef], [(8, cz10)]⟩ hz7))))))))))))))))))))))))) := wpA_at f60_n_plug (by kernel_rfl)
theorem f60_end1 (c0 : List V) (h : Heap) (K : V → Heap → Prop) : bodyK Try.prog Try.f60 K Ex.ret ⟨[V.undef, V.undef, V.undef, V.undef, V.undef, V.undef, V.undef, V.undef, (V.lp 8 0), V.undef, V.undef, V.undef, V.undef, V.undef, V.undef, V.undef, V.undef, V.undef, V.undef, V.undef, V.undef, V.undef, V.undef, V.undef, V.undef, V.undef, V.undef, V.undef, V.undef, V.undef, V.undef, V.undef], [(8, c0)]⟩ h = ((0 + 49 ≤ (List.length c0)) ∧ (let cz11 : List V := (List.take 49 (List.drop 0 c0));
 (K (V.agg cz11) h))) := by kernel_rfl
end

section
open Go Go.Proofs Jb
set_option linter.unusedSimpArgs false
set_option maxRecDepth 4000

def fieldsT (a : Int) (t : List Int) (i : Nat) : List Int := if a = 1 then cashes t i else stocks t i
theorem fields_len (a : Int) (t : List Int) (i : Nat) : (fieldsT a t i).length = i := by unfold fieldsT; split <;> simp [cashes, stocks]
theorem fields_I64 {a : Int} {t : List Int} (F : Fits t) {i : Nat} : ∀ n ∈ fieldsT a t i, I64 n := by
  intro n hn
  unfold fieldsT at hn
  split at hn
  · obtain ⟨k, _, rfl⟩ := List.mem_map.1 hn; exact F.get _
  · obtain ⟨k, _, rfl⟩ := List.mem_map.1 hn; exact F.get _

/-- Of an asset, and one more number: all together; is it at most what money may be? -/
def allR (t : List Int) (a n : Int) : Int × Bool :=
  let r := sumR (n :: ((if a = 1 then [gi t 48] else []) ++ fieldsT a t 8))
  (r.1, decide (r.2 = 0 ∧ r.1 ≤ 4611686018427387904))

theorem all_loop (t : List Int) (F : Fits t) (a : Int) (l0 : List Int) (hl0 : l0.length ≤ 2) (hr0 : ∀ n ∈ l0, I64 n) (g : G) {h0 h : Heap} (hs : h0.Sub h) (c : Can g 1 l0.length h) (ap : ∀ l o, h0 l = some o → g ≠ .own l) {K : V → Heap → Prop}
    (hk : ∀ h', h0.Sub h' → K (.tup [.int .i64 (sumR (l0 ++ fieldsT a t 8)).1, .bool (decide ((sumR (l0 ++ fieldsT a t 8)).2 = 0 ∧ (sumR (l0 ++ fieldsT a t 8)).1 ≤ 4611686018427387904))]) h') :
    wpA Try.prog f28_cf f28_n111010 (f28_n1110100_F a (col l0) g 0 (ints t)) h (blockK 0 (seqK (fun f h => wpA Try.prog f28_cf f28_n1111 f h (bodyK Try.prog Try.f28 K)) (bodyK Try.prog Try.f28 K))) := by
  have ht := F.1
  rw [f28_n111010_eq]
  refine wpA_loopH (σ := Nat × G) (fun x => f28_n1110100_F a (col (l0 ++ fieldsT a t x.1)) x.2 x.1 (ints t)) (fun x => 8 - x.1)
    (fun x h' => x.1 ≤ 8 ∧ h0.Sub h' ∧ Can x.2 1 (l0.length + x.1) h' ∧ (∀ l o, h0 l = some o → x.2 ≠ .own l)) (0, g) ?_ ⟨by simp, hs, c, ap⟩ ?_
  · have : fieldsT a t 0 = [] := List.eq_nil_of_length_eq_zero (fields_len a t 0)
    simp [this]
  rintro ⟨i, g⟩ h1 ⟨hi, hs, c, ap⟩
  simp only at hi c ap
  simp only [f28_n1110100_F]
  rw [f28_n1110100_wp]
  by_cases hlt : i < 8
  · simp only [show ((i : Int) < 8) from by omega, decide_true, brW_true]
    rw [f28_n11101001_eq, wpA_seq, f28_n111010010_wp]
    have fin : ∀ v h2 s1, gi t (i * 6 + if a = 1 then 0 else 1) = v → h2 s1 = some (.grow 1 (l0.length + i + (0 + 1))) → (∀ l o, h1 l = some o → g ≠ .own l → h2 l = some o ∧ l ≠ s1) →
        ∃ s' : Nat × G, (col (l0 ++ fieldsT a t i) ++ [[V.int .i64 v]] = col (l0 ++ fieldsT a t s'.1) ∧ G.own s1 = s'.2 ∧ ((i + 1 : Nat) : Int) = s'.1) ∧ (s'.1 ≤ 8 ∧ h0.Sub h2 ∧ Can s'.2 1 (l0.length + s'.1) h2 ∧ (∀ l o, h0 l = some o → s'.2 ≠ .own l)) ∧ 8 - s'.1 < 8 - i := by
      intro v h2 s1 ev e1 k1
      refine ⟨(i + 1, .own s1), ⟨?_, rfl, rfl⟩, ⟨by simp only; omega, fun l o hl => (k1 l o (hs l o hl) (ap l o hl)).1, (.inr ⟨s1, rfl, by rw [e1, show l0.length + i + (0 + 1) = l0.length + (i + 1) from by omega]⟩), fun l o hl => ?_⟩, by simp only; omega⟩
      · have : fieldsT a t (i + 1) = fieldsT a t i ++ [v] := by
          rw [← ev]; unfold fieldsT; split
          · rename_i e; rw [cashes_succ]; simp
          · rw [stocks_succ]
        rw [this, ← List.append_assoc, col_append (l0 ++ fieldsT a t i) [v]]; rfl
      · have := (k1 l o (hs l o hl) (ap l o hl)).2
        simp only [ne_eq, G.own.injEq]
        exact fun e => this e.symm
    have hlen : (l0 ++ fieldsT a t i).length = l0.length + i := by simp [fields_len]
    by_cases ha : a = 1
    · subst ha
      simp only [beq_self_eq_true, brW_true, Nat.zero_add, Nat.add_zero, Int.toNat_natCast, ints_len, ht, ints_isInt, ints_num, col_len, hlen, mostLen]
      refine ⟨by omega, ⟨by omega, by simp; omega⟩, by simp, by omega, appG_one (m := 0) c fun s1 h2 e1 k1 => ?_⟩
      simp only [seqK_normal, f28_n111010011_wp, wrap_up i (by omega)]
      obtain ⟨s', ⟨a1, a2, a3⟩, b⟩ := fin _ h2 s1 rfl e1 k1
      refine ⟨s', ?_, b⟩
      simp only [if_true, Nat.add_zero] at a1
      rw [a1, a2, a3]
    · simp only [beq_dec, ha, decide_false, brW_false, Nat.zero_add, Nat.add_zero, Int.toNat_natCast, ints_len, ht, ints_isInt, ints_num, col_len, hlen, mostLen]
      refine ⟨by omega, ⟨by omega, by simp; omega⟩, by simp, by omega, appG_one (m := 0) c fun s1 h2 e1 k1 => ?_⟩
      simp only [seqK_normal, f28_n111010011_wp, wrap_up i (by omega)]
      obtain ⟨s', ⟨a1, a2, a3⟩, b⟩ := fin _ h2 s1 rfl e1 k1
      refine ⟨s', ?_, b⟩
      simp only [ha, if_false] at a1
      rw [a1, a2, a3]
  · obtain rfl : i = 8 := by omega
    simp only [show ¬ (((8 : Nat) : Int) < 8) from by omega, decide_false, brW_false, seqK_exit, blockK_exit, if_true, seqK_normal, f28_n1111_wp]
    refine refSum_any (by simp [fields_len]; omega) (fun n hn => ?_) ?_
    · rcases List.mem_append.1 hn with hn | hn
      · exact hr0 n hn
      · exact fields_I64 F n hn
    have hk := hk h1 hs
    generalize sumR (l0 ++ fieldsT a t 8) = r at *
    simp only [isTup_tup, vs_tup, gv_zero, gv_succ, isInt_i64, num_int, true_and, List.length_cons, List.length_nil, decide_true]
    by_cases hc : r.2 = 0 <;> simp [hc, beq_dec, f28_end1] at hk ⊢ <;> exact hk

theorem all_call (t : List Int) (F : Fits t) (a n : Int) (hn : I64 n) (h : Heap) : CallW Try.prog 28 [.agg (ints t), .int .i64 a, .int .i64 n] h (fun r h' => r = .tup [.int .i64 (allR t a n).1, .bool (allR t a n).2] ∧ h' = h) := by
  have ht := F.1
  refine CallW.forget (K := fun r h' => r = .tup [.int .i64 (allR t a n).1, .bool (allR t a n).2] ∧ h.Sub h') ?_ (fun r h' e => ⟨h, e.2, e.1, rfl⟩)
  refine CallW.body mix f28_cf Try.func28 (by rw [Try.ntmps28]; simp) ?_
  rw [f28_entry, f28_n_wp]
  refine ⟨by simp [ht], by simp, ?_⟩
  rw [f28_n11_eq, wpA_seq, f28_n110_wp]
  by_cases ha : a = 1
  · subst ha
    simp only [beq_self_eq_true, brW_true, ints_len, ht, ints_isInt, ints_num, List.length_cons, List.length_nil, mostLen]
    refine ⟨by simp, by simp, by simp, appG_one (m := 0) .full fun s1 h2 e1 k1 => ?_⟩
    simp only [seqK_normal, f28_n111_eq, wpA_seq, f28_n1110_wp]
    refine all_loop t F 1 [n, gi t 48] (by simp) (by simp [hn, F.get]) (.own s1) (fun l o hl => (k1 l o hl (by simp)).1) (.inr ⟨s1, rfl, e1⟩) (fun l o hl => ?_) fun h' hs' => ⟨?_, hs'⟩
    · have := (k1 l o hl (by simp)).2
      simp only [ne_eq, G.own.injEq]
      exact fun e => this e.symm
    · simp [allR]
  · simp only [beq_dec, ha, decide_false, brW_false, seqK_normal, f28_n111_eq, wpA_seq, f28_n1110s1_wp]
    refine all_loop t F a [n] (by simp) (by simp [hn]) .full (Heap.sub_rfl h) .full (fun l o hl => by simp) fun h' hs' => ⟨?_, hs'⟩
    simp [allR, ha]
theorem all_any {t : List Int} (F : Fits t) {a n : Int} (hn : I64 n) {h : Heap} {K : V → Heap → Prop} (m : K (.tup [.int .i64 (allR t a n).1, .bool (allR t a n).2]) h) : AnyW Try.prog 28 [.agg (ints t), .int .i64 a, .int .i64 n] h K := AnyW.eq e28 (all_call t F a n hn h) m
end

section
open Go Go.Proofs Jb
set_option linter.unusedSimpArgs false
set_option maxRecDepth 4000

theorem refTotals_call (t : List Int) (F : Fits t) (h : Heap) : CallW Try.prog 12 [.agg (ints t)] h (fun r h' => r = .tup [.int .i64 (allR t 1 0).1, .int .i64 (allR t 2 0).1] ∧ h' = h) := by
  have ht := F.1
  have z : I64 0 := by unfold I64; omega
  refine CallW.body mix f12_cf Try.func12 (by rw [Try.ntmps12]; simp) ?_
  rw [f12_entry, f12_n_wp]
  simp [ht, take_all]
  refine all_any F z ?_
  simp [ht, take_all]
  refine all_any F z ?_
  simp [f12_end1]

/-- May a till be, as the document says? -/
def refGood (t : List Int) : Bool := fine1 (gi t 48) && ((List.range 8).all fun i => goodP (purse t i)) && ((allR t 1 0).2 && (allR t 2 0).2)

theorem goodP_six (p : List Int) (hp : p.length = 6) : goodP p = (fine1 (gi p 0) && (fine1 (gi p 1) && (fine1 (gi p 2) && (fine1 (gi p 3) && (fine1 (gi p 4) && fine1 (gi p 5))))) && decide (gi p 2 ≤ gi p 0) && decide (gi p 3 ≤ gi p 1)) := by
  unfold goodP
  conv => lhs; lhs; lhs; rw [← six p hp]
  simp [Bool.and_assoc]

theorem refGoodP (x0 : Int) (c1 : List V) (p : List Int) (hp : p.length = 6) (h : Heap) (Q : Ex → Fr → Heap → Prop) (hq : Q .normal (f9_n11010010011_F x0 (!goodP p) c1) h) :
    wpA Try.prog f9_cf f9_n11010010010 (f9_n11010010010_F x0 c1 (ints p)) h Q := by
  simp only [f9_n11010010010_F]
  rw [f9_n11010010010_wp]
  rw [goodP_six p hp] at hq
  simp only [f9_n11010010011_F] at hq
  simp only [ints_len, hp, ints_isInt, ints_num]
  refine ⟨by simp, refFine_any ?_⟩
  cases h0 : fine1 (gi p 0) with
  | false => simp [h0] at hq ⊢; exact hq
  | true =>
    simp [h0] at hq ⊢
    refine refFine_any ?_
    cases h1 : fine1 (gi p 1) with
    | false => simp [h1] at hq ⊢; exact hq
    | true =>
      simp [h1] at hq ⊢
      refine refFine_any ?_
      cases h2 : fine1 (gi p 2) with
      | false => simp [h2] at hq ⊢; exact hq
      | true =>
        simp [h2] at hq ⊢
        refine refFine_any ?_
        cases h3 : fine1 (gi p 3) with
        | false => simp [h3] at hq ⊢; exact hq
        | true =>
          simp [h3] at hq ⊢
          refine refFine_any ?_
          cases h4 : fine1 (gi p 4) with
          | false => simp [h4] at hq ⊢; exact hq
          | true =>
            simp [h4] at hq ⊢
            refine refFine_any ?_
            cases h5 : fine1 (gi p 5) with
            | false => simp [h5] at hq ⊢; exact hq
            | true =>
              simp [h5] at hq ⊢
              by_cases c1 : gi p 2 ≤ gi p 0 <;> by_cases c2 : gi p 3 ≤ gi p 1 <;> simp [c1, c2, show (gi p 0 < gi p 2) = ¬ (gi p 2 ≤ gi p 0) from by simp, show (gi p 1 < gi p 3) = ¬ (gi p 3 ≤ gi p 1) from by simp] at hq ⊢ <;> exact hq
end

section
open Go Go.Proofs Jb
set_option linter.unusedSimpArgs false
set_option maxRecDepth 4000

theorem purse_at {t : List Int} (i : Nat) : List.take 6 (List.drop (i * 6) t) = purse t i := rfl

theorem refGood_call (t : List Int) (F : Fits t) (h : Heap) : CallW Try.prog 9 [.agg (ints t)] h (fun r h' => r = .bool (refGood t) ∧ h' = h) := by
  have ht := F.1
  have z : I64 0 := by unfold I64; omega
  refine CallW.body mix f9_cf Try.func9 (by rw [Try.ntmps9]; simp) ?_
  rw [f9_entry, f9_n_wp]
  generalize hK : (fun (r : V) (h' : Heap) => r = .bool (refGood t) ∧ h' = h) = K
  have hk : ∀ b, b = refGood t → K (.bool b) h := fun b e => by rw [← hK, e]; exact ⟨rfl, rfl⟩
  unfold refGood at hk
  refine ⟨by simp [ht], by simp [ht], ?_⟩
  rw [ints_num]
  refine refFine_any ?_
  cases h0 : fine1 (gi t 48) with
  | false => simp [f9_end1]; exact hk _ (by simp [h0])
  | true =>
    simp only [isBool_bool, flag_bool, Bool.not_true, brW_false, true_and]
    rw [f9_n11_eq, wpA_seq, f9_n110_wp, f9_n11010_eq]
    refine wpA_loop (σ := Nat) (fun i => f9_n110100_F i (ints t)) (fun _ => h) (fun i => 8 - i) (fun i => i ≤ 8 ∧ (List.range i).all (fun i => goodP (purse t i)) = true) 0 rfl rfl (by simp) ?_
    rintro i ⟨hi, ha⟩
    simp only [f9_n110100_F]
    rw [f9_n110100_wp]
    by_cases hlt : i < 8
    · have hp := purse_len ht hlt
      simp only [show ((i : Int) < 8) from by omega, decide_true, brW_true]
      rw [f9_n1101001_eq, wpA_seq, f9_n11010010_wp]
      simp only [Int.toNat_natCast, Nat.zero_add, ints_drop, ints_take, purse_at, ints_len, hp, ht, wr_purse (purse t i) hp, true_and]
      refine ⟨by omega, by omega, by omega, ?_⟩
      rw [f9_n1101001001_eq, wpA_seq]
      refine refGoodP i (ints t) (purse t i) hp h _ ?_
      simp only [seqK_normal, f9_n11010010011_F]
      rw [f9_n11010010011_wp]
      cases hg : goodP (purse t i) with
      | true =>
        simp only [Bool.not_true, brW_false, blockK_normal, seqK_normal, blockK_exit, f9_n11010011_wp, wrap_up i (by omega)]
        exact ⟨i + 1, rfl, trivial, ⟨by omega, by rw [List.range_succ, List.all_append, ha]; simp [hg]⟩, by omega⟩
      | false =>
        have : (List.range 8).all (fun i => goodP (purse t i)) = false := by
          rw [List.all_eq_false]; exact ⟨i, by simp [hlt], by simp [hg]⟩
        simp only [Bool.not_false, brW_true, blockK_ret, seqK_ret, f9_end1]
        exact hk _ (by rw [this]; simp)
    · obtain rfl : i = 8 := by omega
      simp only [show ¬ (((8 : Nat) : Int) < 8) from by omega, decide_false, brW_false, seqK_exit, blockK_exit, if_true, seqK_normal, f9_n111_wp]
      simp only [ints_len, ht, List.drop_zero, take_all ht]
      refine ⟨by omega, all_any F z ?_⟩
      simp only [isTup_tup, vs_tup, gv_zero, gv_succ, isInt_i64, isBool_bool, flag_bool, num_int, true_and, List.length_cons, List.length_nil, decide_true]
      refine ⟨by omega, all_any F z ?_⟩
      simp only [isTup_tup, vs_tup, gv_zero, gv_succ, isInt_i64, isBool_bool, flag_bool, num_int, true_and, List.length_cons, List.length_nil, decide_true]
      cases h1 : (allR t 1 0).2 <;> simp [h1, f9_end1] <;> exact hk _ (by rw [ha, h0, h1]; simp)

def refHold (t : List Int) (x s n : Int) : List Int × Int :=
  if isA x s = false ∨ fine1 n = false then (t, 2) else if free t x s < n then (t, 53) else (putT t x s 0 n, 0)
def refRelease (t : List Int) (x s n : Int) : List Int × Int :=
  if isA x s = false ∨ fine1 n = false then (t, 2) else if gi t (at_ x s + 2) < n then (t, 53) else (putT t x s 0 (IntKind.i64.wrap (0 - n)), 0)
def refWithdraw (t : List Int) (x s n : Int) : List Int × Int :=
  if isA x s = false ∨ n < 1 ∨ 4611686018427387904 < n then (t, 2)
  else if (if s = 1 then IntKind.i64.wrap (free t x s - gi t (x.toNat * 6 + 4)) else free t x s) < n then (t, 53)
  else (putT t x s (IntKind.i64.wrap (0 - n)) 0, 0)
def refDeposit (t : List Int) (x s n : Int) : List Int × Int :=
  if isA x s = false ∨ n < 1 ∨ 4611686018427387904 < n then (t, 2)
  else if (allR t s n).2 = false then (t, 10) else (putT t x s n 0, 0)

theorem refHold_call (t : List Int) (ht : t.length = 49) (x s n : Int) (h : Heap) : CallW Try.prog 38 [.agg (ints t), .int .i64 x, .int .i64 s, .int .i64 n] h (fun r h' => r = .tup [.agg (ints (refHold t x s n).1), .int .i64 (refHold t x s n).2] ∧ h' = h) := by
  refine CallW.body mix f38_cf Try.func38 (by rw [Try.ntmps38]; simp) ?_
  rw [f38_entry, f38_n_wp]
  refine ⟨by simp [ht], trivial, ?_⟩
  rw [f38_n1_eq, wpA_seq, f38_n10_eq, wpA_seq, f38_n100_wp]
  refine may_any ?_
  unfold refHold
  cases hi : isA x s with
  | false => simp [f38_n101_wp, ht, f38_end1, take_all, wr_all]
  | true =>
    have hx := isA_iff.1 hi
    simp
    refine refFine_any ?_
    cases hn : fine1 n with
    | false => simp [f38_n101_wp, ht, f38_end1, take_all, wr_all]
    | true =>
      simp [f38_n101_wp, f38_n11_wp, ht, take_all]
      refine refFree_any ht ?_
      by_cases hf : free t x s < n
      · simp [hf, ht, f38_end1, take_all, wr_all]
      · simp [hf]
        refine put_any ht ⟨hx.1, hx.2.1⟩ ?_
        simp [hf, putT_len, ht, f38_end1, take_all, wr_all]

theorem refRelease_call (t : List Int) (ht : t.length = 49) (x s n : Int) (h : Heap) : CallW Try.prog 40 [.agg (ints t), .int .i64 x, .int .i64 s, .int .i64 n] h (fun r h' => r = .tup [.agg (ints (refRelease t x s n).1), .int .i64 (refRelease t x s n).2] ∧ h' = h) := by
  refine CallW.body mix f40_cf Try.func40 (by rw [Try.ntmps40]; simp) ?_
  rw [f40_entry, f40_n_wp]
  refine ⟨by simp [ht], trivial, ?_⟩
  rw [f40_n1_eq, wpA_seq, f40_n10_eq, wpA_seq, f40_n100_wp]
  refine may_any ?_
  unfold refRelease
  cases hi : isA x s with
  | false => simp [f40_n101_wp, ht, f40_end1, take_all, wr_all]
  | true =>
    have hx := isA_iff.1 hi
    have hb : x.toNat * 6 + 5 < 48 := by omega
    simp
    refine refFine_any ?_
    cases hn : fine1 n with
    | false => simp [f40_n101_wp, ht, f40_end1, take_all, wr_all]
    | true =>
      by_cases h2 : s = 2
      · subst h2
        have e : at_ x 2 + 2 = x.toNat * 6 + 3 := rfl
        simp [f40_n101_wp, f40_n11_wp, f40_n111_eq, f40_n1110_wp, f40_n1111_wp, ht, hx, take_all, show x.toNat * 6 + 2 < 49 from by omega, show x.toNat * 6 + 3 < 49 from by omega, show x.toNat ≤ 7 from by omega, e]
        by_cases hf : gi t (x.toNat * 6 + 3) < n
        · simp [hf, ht, f40_end1, take_all, wr_all]
        · simp [hf]
          refine put_any ht ⟨hx.1, hx.2.1⟩ ?_
          simp [hf, putT_len, ht, f40_end1, take_all, wr_all]
      · have h1 : s = 1 := by omega
        subst h1
        have e : at_ x 1 + 2 = x.toNat * 6 + 2 := rfl
        simp [f40_n101_wp, f40_n11_wp, f40_n111_eq, f40_n1110_wp, f40_n1111s1_wp, beq_dec, ht, hx, take_all, show x.toNat * 6 + 2 < 49 from by omega, show x.toNat * 6 + 3 < 49 from by omega, show x.toNat ≤ 7 from by omega, e]
        by_cases hf : gi t (x.toNat * 6 + 2) < n
        · simp [hf, ht, f40_end1, take_all, wr_all]
        · simp [hf]
          refine put_any ht ⟨hx.1, hx.2.1⟩ ?_
          simp [hf, putT_len, ht, f40_end1, take_all, wr_all]

theorem refWithdraw_call (t : List Int) (ht : t.length = 49) (x s n : Int) (h : Heap) : CallW Try.prog 37 [.agg (ints t), .int .i64 x, .int .i64 s, .int .i64 n] h (fun r h' => r = .tup [.agg (ints (refWithdraw t x s n).1), .int .i64 (refWithdraw t x s n).2] ∧ h' = h) := by
  refine CallW.body mix f37_cf Try.func37 (by rw [Try.ntmps37]; simp) ?_
  rw [f37_entry, f37_n_wp]
  refine ⟨by simp [ht], trivial, ?_⟩
  refine may_any ?_
  unfold refWithdraw
  cases hi : isA x s with
  | false => simp [ht, f37_end1, take_all, wr_all]
  | true =>
    have hx := isA_iff.1 hi
    by_cases h1 : n < 1
    · simp [h1, ht, f37_end1, take_all, wr_all]
    by_cases h3 : 4611686018427387904 < n
    · simp [h1, h3, ht, f37_end1, take_all, wr_all]
    simp [h1, h3, ht, take_all]
    refine refFree_any ht ?_
    by_cases h2 : s = 1
    · subst h2
      simp [f37_n111_eq, f37_n1110_wp, f37_n1111_wp, ht, hx, take_all, show x.toNat * 6 + 4 < 49 from by omega, show x.toNat ≤ 7 from by omega]
      by_cases hf : IntKind.i64.wrap (free t x 1 - gi t (x.toNat * 6 + 4)) < n
      · simp [hf, ht, f37_end1, take_all, wr_all]
      · simp [hf]
        refine put_any ht ⟨hx.1, hx.2.1⟩ ?_
        simp [hf, putT_len, ht, f37_end1, take_all, wr_all]
    · simp [f37_n111_eq, f37_n1110_wp, f37_n1111s1_wp, beq_dec, h2, ht, hx, take_all]
      by_cases hf : free t x s < n
      · simp [hf, h2, ht, f37_end1, take_all, wr_all]
      · simp [hf]
        refine put_any ht ⟨hx.1, hx.2.1⟩ ?_
        simp [hf, h2, putT_len, ht, f37_end1, take_all, wr_all]

theorem refDeposit_call (t : List Int) (F : Fits t) (x s n : Int) (hn : I64 n) (h : Heap) : CallW Try.prog 35 [.agg (ints t), .int .i64 x, .int .i64 s, .int .i64 n] h (fun r h' => r = .tup [.agg (ints (refDeposit t x s n).1), .int .i64 (refDeposit t x s n).2] ∧ h' = h) := by
  have ht := F.1
  refine CallW.body mix f35_cf Try.func35 (by rw [Try.ntmps35]; simp) ?_
  rw [f35_entry, f35_n_wp]
  refine ⟨by simp [ht], trivial, ?_⟩
  refine may_any ?_
  unfold refDeposit
  cases hi : isA x s with
  | false => simp [ht, f35_end1, take_all, wr_all]
  | true =>
    have hx := isA_iff.1 hi
    by_cases h1 : n < 1
    · simp [h1, ht, f35_end1, take_all, wr_all]
    by_cases h3 : 4611686018427387904 < n
    · simp [h1, h3, ht, f35_end1, take_all, wr_all]
    simp [h1, h3, ht, take_all]
    refine all_any F hn ?_
    cases ha : (allR t s n).2 with
    | false => simp [ha, ht, f35_end1, take_all, wr_all]
    | true =>
      simp [ha]
      refine put_any ht ⟨hx.1, hx.2.1⟩ ?_
      simp [ha, putT_len, ht, f35_end1, take_all, wr_all]

theorem refOwe_call (t : List Int) (ht : t.length = 49) (x n m : Int) (hx : 0 ≤ x ∧ x < 8) (h : Heap) : CallW Try.prog 60 [.agg (ints t), .int .i64 x, .int .i64 n, .int .i64 m] h (fun r h' => r = .agg (ints (oweT t (x.toNat * 6) n m)) ∧ h' = h) := by
  refine CallW.body mix f60_cf Try.func60 (by rw [Try.ntmps60]; simp) ?_
  rw [f60_entry, f60_n_wp]
  have hb : x.toNat * 6 + 5 < 48 := by omega
  simp only [ints_len, ht, ints_isInt, ints_num, Nat.zero_add, hx]
  generalize x.toNat * 6 = b at *
  refine ⟨trivial, trivial, by simp, ⟨by omega, by simp; omega⟩, refCapped_any ?_⟩
  simp [ht, show b ≤ 44 from by omega, show b + 4 < 49 from by omega, show b + 5 < 49 from by omega, ints_wr1, gi_set]
  refine refCapped_any ?_
  simp [ht, show b ≤ 43 from by omega, show b + 5 < 49 from by omega, ints_wr1, f60_end1, take_all, wr_all, oweT]
theorem refOwe_any {t : List Int} (ht : t.length = 49) {x n m : Int} (hx : 0 ≤ x ∧ x < 8) {h : Heap} {K : V → Heap → Prop} (k : K (.agg (ints (oweT t (x.toNat * 6) n m))) h) : AnyW Try.prog 60 [.agg (ints t), .int .i64 x, .int .i64 n, .int .i64 m] h K := AnyW.eq (by kernel_rfl) (refOwe_call t ht x n m hx h) k
end

section
set_option linter.all false
set_option maxRecDepth 100000
open Go Go.Proofs Jb
def f43_cf : Cfg := ⟨[], [(0, [0, 5, 6]), (1, [9, 10]), (2, [1, 2, 11, 12]), (3, [11, 13, 14, 15, 16, 17]), (4, [18]), (5, [1, 2, 7, 19, 20]), (6, [7, 19, 21, 22, 23, 24, 25]), (7, [26]), (8, [1, 2, 8, 27, 28]), (9, [27, 29, 30, 31, 32, 33]), (10, [1, 34, 35, 36, 37, 38, 39, 40, 41, 42, 43]), (11, [44, 45, 46, 47, 48]), (12, [2, 8, 49, 50])]⟩
noncomputable def f43_b : Code := bodyOf Try.f43
noncomputable def f43_n : Code :=  (codeAt [] f43_b)
theorem f43_entry (t : List Int) (x : Int) (h : Heap) (K : V → Heap → Prop) : bodyW Try.prog f43_cf Try.f43 [(V.agg (ints t)), (V.int Go.IntKind.i64 x)] h K = wpA Try.prog f43_cf f43_n ⟨[(V.agg (ints t)), (V.int Go.IntKind.i64 x), V.undef, V.undef, V.undef, V.undef, V.undef, V.undef, V.undef, V.undef, V.undef, V.undef, V.undef, V.undef, V.undef, V.undef, V.undef, V.undef, V.undef, V.undef, V.undef, V.undef, V.undef, V.undef, V.undef, V.undef, V.undef, V.undef, V.undef, V.undef, V.undef, V.undef, V.undef, V.undef, V.undef, V.undef, V.undef, V.undef, V.undef, V.undef, V.undef, V.undef, V.undef, V.undef, V.undef, V.undef, V.undef, V.undef, V.undef, V.undef, V.undef], []⟩ h (bodyK Try.prog Try.f43 K) := by kernel_rfl
theorem f43_n_plug : f43_n = (codeAt [] f43_b) := by
  simp only [f43_n, hide_eq]
  try kernel_rfl
theorem f43_n_wp (t : List Int) (x : Int) (h : Heap) (Q : Ex → Fr → Heap → Prop) : wpA Try.prog f43_cf f43_n ⟨[(V.agg (ints t)), (V.int Go.IntKind.i64 x), V.undef, V.undef, V.undef, V.undef, V.undef, V.undef, V.undef, V.undef, V.undef, V.undef, V.undef, V.undef, V.undef, V.undef, V.undef, V.undef, V.undef, V.undef, V.undef, V.undef, V.undef, V.undef, V.undef, V.undef, V.undef, V.undef, V.undef, V.undef, V.undef, V.undef, V.undef, V.undef, V.undef, V.undef, V.undef, V.undef, V.undef, V.undef, V.undef, V.undef, V.undef, V.undef, V.undef, V.undef, V.undef, V.undef, V.undef, V.undef, V.undef], []⟩ h Q =
 (((List.length (ints t)) = 49) ∧ (True ∧ (AnyW Try.prog 34 [(V.int Go.IntKind.i64 x), (V.int Go.IntKind.i64 (1 : Int))] h (fun (rz1 : V) (hz2 : Heap) =>
 ((True ∧ V.isBool rz1 = true) ∧ (brW (!(V.flag rz1))
 ((0 + 49 ≤ (List.length (ints t))) ∧ (let cz3 : List V := (List.take 49 (List.drop 0 (ints t)));
 (((List.length cz3) = 49) ∧ 0 + 49 ≤ 49 ∧ (let cz4 : List V := (wrCells [(V.int Go.IntKind.i64 (0 : Int)), (V.int Go.IntKind.i64 (0 : Int)), (V.int Go.IntKind.i64 (0 : Int)), (V.int Go.IntKind.i64 (0 : Int)), (V.int Go.IntKind.i64 (0 : Int)), (V.int Go.IntKind.i64 (0 : Int)), (V.int Go.IntKind.i64 (0 : Int)), (V.int Go.IntKind.i64 (0 : Int)), (V.int Go.IntKind.i64 (0 : Int)), (V.int Go.IntKind.i64 (0 : Int)), (V.int Go.IntKind.i64 (0 : Int)), (V.int Go.IntKind.i64 (0 : Int)), (V.int Go.IntKind.i64 (0 : Int)), (V.int Go.IntKind.i64 (0 : Int)), (V.int Go.IntKind.i64 (0 : Int)), (V.int Go.IntKind.i64 (0 : Int)), (V.int Go.IntKind.i64 (0 : Int)), (V.int Go.IntKind.i64 (0 : Int)), (V.int Go.IntKind.i64 (0 : Int)), (V.int Go.IntKind.i64 (0 : Int)), (V.int Go.IntKind.i64 (0 : Int)), (V.int Go.IntKind.i64 (0 : Int)), (V.int Go.IntKind.i64 (0 : Int)), (V.int Go.IntKind.i64 (0 : Int)), (V.int Go.IntKind.i64 (0 : Int)), (V.int Go.IntKind.i64 (0 : Int)), (V.int Go.IntKind.i64 (0 : Int)), (V.int Go.IntKind.i64 (0 : Int)), (V.int Go.IntKind.i64 (0 : Int)), (V.int Go.IntKind.i64 (0 : Int)), (V.int Go.IntKind.i64 (0 : Int)), (V.int Go.IntKind.i64 (0 : Int)), (V.int Go.IntKind.i64 (0 : Int)), (V.int Go.IntKind.i64 (0 : Int)), (V.int Go.IntKind.i64 (0 : Int)), (V.int Go.IntKind.i64 (0 : Int)), (V.int Go.IntKind.i64 (0 : Int)), (V.int Go.IntKind.i64 (0 : Int)), (V.int Go.IntKind.i64 (0 : Int)), (V.int Go.IntKind.i64 (0 : Int)), (V.int Go.IntKind.i64 (0 : Int)), (V.int Go.IntKind.i64 (0 : Int)), (V.int Go.IntKind.i64 (0 : Int)), (V.int Go.IntKind.i64 (0 : Int)), (V.int Go.IntKind.i64 (0 : Int)), (V.int Go.IntKind.i64 (0 : Int)), (V.int Go.IntKind.i64 (0 : Int)), (V.int Go.IntKind.i64 (0 : Int)), (V.int Go.IntKind.i64 (0 : Int))] 0 cz3);
 (Q Ex.ret ⟨[V.undef, V.undef, V.undef, V.undef, (V.lp 4 0), (V.int Go.IntKind.i64 (0 : Int)), (V.int Go.IntKind.i64 (2 : Int)), V.undef, V.undef, V.undef, V.undef, V.undef, V.undef, V.undef, V.undef, V.undef, V.undef, V.undef, V.undef, V.undef, V.undef, V.undef, V.undef, V.undef, V.undef, V.undef, V.undef, V.undef, V.undef, V.undef, V.undef, V.undef, V.undef, V.undef, V.undef, V.undef, V.undef, V.undef, V.undef, V.undef, V.undef, V.undef, V.undef, V.undef, V.undef, V.undef, V.undef, V.undef, V.undef, V.undef, V.undef], [(4, cz4)]⟩ hz2)))))
 ((0 ≤ x ∧ x < 8) ∧ ((((0 + ((Int.toNat x) * 6)) + 4) < (List.length (ints t)) ∧ V.isInt Go.IntKind.i64 (gv (ints t) ((0 + ((Int.toNat x) * 6)) + 4)) = true) ∧ (let iz5 : Int := (V.num (gv (ints t) ((0 + ((Int.toNat x) * 6)) + 4)));
 (brW (iz5 == (0 : Int))
 ((0 + 49 ≤ (List.length (ints t))) ∧ (let cz6 : List V := (List.take 49 (List.drop 0 (ints t)));
 (((List.length cz6) = 49) ∧ 0 + 49 ≤ 49 ∧ (let cz7 : List V := (wrCells [(V.int Go.IntKind.i64 (0 : Int)), (V.int Go.IntKind.i64 (0 : Int)), (V.int Go.IntKind.i64 (0 : Int)), (V.int Go.IntKind.i64 (0 : Int)), (V.int Go.IntKind.i64 (0 : Int)), (V.int Go.IntKind.i64 (0 : Int)), (V.int Go.IntKind.i64 (0 : Int)), (V.int Go.IntKind.i64 (0 : Int)), (V.int Go.IntKind.i64 (0 : Int)), (V.int Go.IntKind.i64 (0 : Int)), (V.int Go.IntKind.i64 (0 : Int)), (V.int Go.IntKind.i64 (0 : Int)), (V.int Go.IntKind.i64 (0 : Int)), (V.int Go.IntKind.i64 (0 : Int)), (V.int Go.IntKind.i64 (0 : Int)), (V.int Go.IntKind.i64 (0 : Int)), (V.int Go.IntKind.i64 (0 : Int)), (V.int Go.IntKind.i64 (0 : Int)), (V.int Go.IntKind.i64 (0 : Int)), (V.int Go.IntKind.i64 (0 : Int)), (V.int Go.IntKind.i64 (0 : Int)), (V.int Go.IntKind.i64 (0 : Int)), (V.int Go.IntKind.i64 (0 : Int)), (V.int Go.IntKind.i64 (0 : Int)), (V.int Go.IntKind.i64 (0 : Int)), (V.int Go.IntKind.i64 (0 : Int)), (V.int Go.IntKind.i64 (0 : Int)), (V.int Go.IntKind.i64 (0 : Int)), (V.int Go.IntKind.i64 (0 : Int)), (V.int Go.IntKind.i64 (0 : Int)), (V.int Go.IntKind.i64 (0 : Int)), (V.int Go.IntKind.i64 (0 : Int)), (V.int Go.IntKind.i64 (0 : Int)), (V.int Go.IntKind.i64 (0 : Int)), (V.int Go.IntKind.i64 (0 : Int)), (V.int Go.IntKind.i64 (0 : Int)), (V.int Go.IntKind.i64 (0 : Int)), (V.int Go.IntKind.i64 (0 : Int)), (V.int Go.IntKind.i64 (0 : Int)), (V.int Go.IntKind.i64 (0 : Int)), (V.int Go.IntKind.i64 (0 : Int)), (V.int Go.IntKind.i64 (0 : Int)), (V.int Go.IntKind.i64 (0 : Int)), (V.int Go.IntKind.i64 (0 : Int)), (V.int Go.IntKind.i64 (0 : Int)), (V.int Go.IntKind.i64 (0 : Int)), (V.int Go.IntKind.i64 (0 : Int)), (V.int Go.IntKind.i64 (0 : Int)), (V.int Go.IntKind.i64 (0 : Int))] 0 cz6);
 (Q Ex.ret ⟨[V.undef, V.undef, V.undef, V.undef, (V.lp 4 0), (V.int Go.IntKind.i64 (0 : Int)), (V.int Go.IntKind.i64 (51 : Int)), V.undef, V.undef, V.undef, V.undef, V.undef, V.undef, V.undef, V.undef, V.undef, V.undef, V.undef, V.undef, V.undef, V.undef, V.undef, V.undef, V.undef, V.undef, V.undef, V.undef, V.undef, V.undef, V.undef, V.undef, V.undef, V.undef, V.undef, V.undef, V.undef, V.undef, V.undef, V.undef, V.undef, V.undef, V.undef, V.undef, V.undef, V.undef, V.undef, V.undef, V.undef, V.undef, V.undef, V.undef], [(4, cz7)]⟩ hz2)))))
 ((0 + 49 ≤ (List.length (ints t))) ∧ (let cz8 : List V := (List.take 49 (List.drop 0 (ints t)));
 (AnyW Try.prog 14 [(V.agg cz8), (V.int Go.IntKind.i64 x), (V.int Go.IntKind.i64 (1 : Int))] hz2 (fun (rz9 : V) (hz10 : Heap) =>
 ((True ∧ V.isInt Go.IntKind.i64 rz9 = true) ∧ (let iz11 : Int := (if (V.num rz9) < iz5 then (V.num rz9) else iz5);
 (brW (iz11 == (0 : Int))
 ((0 + 49 ≤ (List.length (ints t))) ∧ (let cz12 : List V := (List.take 49 (List.drop 0 (ints t)));
 (((List.length cz12) = 49) ∧ 0 + 49 ≤ 49 ∧ (let cz13 : List V := (wrCells [(V.int Go.IntKind.i64 (0 : Int)), (V.int Go.IntKind.i64 (0 : Int)), (V.int Go.IntKind.i64 (0 : Int)), (V.int Go.IntKind.i64 (0 : Int)), (V.int Go.IntKind.i64 (0 : Int)), (V.int Go.IntKind.i64 (0 : Int)), (V.int Go.IntKind.i64 (0 : Int)), (V.int Go.IntKind.i64 (0 : Int)), (V.int Go.IntKind.i64 (0 : Int)), (V.int Go.IntKind.i64 (0 : Int)), (V.int Go.IntKind.i64 (0 : Int)), (V.int Go.IntKind.i64 (0 : Int)), (V.int Go.IntKind.i64 (0 : Int)), (V.int Go.IntKind.i64 (0 : Int)), (V.int Go.IntKind.i64 (0 : Int)), (V.int Go.IntKind.i64 (0 : Int)), (V.int Go.IntKind.i64 (0 : Int)), (V.int Go.IntKind.i64 (0 : Int)), (V.int Go.IntKind.i64 (0 : Int)), (V.int Go.IntKind.i64 (0 : Int)), (V.int Go.IntKind.i64 (0 : Int)), (V.int Go.IntKind.i64 (0 : Int)), (V.int Go.IntKind.i64 (0 : Int)), (V.int Go.IntKind.i64 (0 : Int)), (V.int Go.IntKind.i64 (0 : Int)), (V.int Go.IntKind.i64 (0 : Int)), (V.int Go.IntKind.i64 (0 : Int)), (V.int Go.IntKind.i64 (0 : Int)), (V.int Go.IntKind.i64 (0 : Int)), (V.int Go.IntKind.i64 (0 : Int)), (V.int Go.IntKind.i64 (0 : Int)), (V.int Go.IntKind.i64 (0 : Int)), (V.int Go.IntKind.i64 (0 : Int)), (V.int Go.IntKind.i64 (0 : Int)), (V.int Go.IntKind.i64 (0 : Int)), (V.int Go.IntKind.i64 (0 : Int)), (V.int Go.IntKind.i64 (0 : Int)), (V.int Go.IntKind.i64 (0 : Int)), (V.int Go.IntKind.i64 (0 : Int)), (V.int Go.IntKind.i64 (0 : Int)), (V.int Go.IntKind.i64 (0 : Int)), (V.int Go.IntKind.i64 (0 : Int)), (V.int Go.IntKind.i64 (0 : Int)), (V.int Go.IntKind.i64 (0 : Int)), (V.int Go.IntKind.i64 (0 : Int)), (V.int Go.IntKind.i64 (0 : Int)), (V.int Go.IntKind.i64 (0 : Int)), (V.int Go.IntKind.i64 (0 : Int)), (V.int Go.IntKind.i64 (0 : Int))] 0 cz12);
 (Q Ex.ret ⟨[V.undef, V.undef, V.undef, V.undef, (V.lp 4 0), (V.int Go.IntKind.i64 (0 : Int)), (V.int Go.IntKind.i64 (53 : Int)), V.undef, V.undef, V.undef, V.undef, V.undef, V.undef, V.undef, V.undef, V.undef, V.undef, V.undef, V.undef, V.undef, V.undef, V.undef, V.undef, V.undef, V.undef, V.undef, V.undef, V.undef, V.undef, V.undef, V.undef, V.undef, V.undef, V.undef, V.undef, V.undef, V.undef, V.undef, V.undef, V.undef, V.undef, V.undef, V.undef, V.undef, V.undef, V.undef, V.undef, V.undef, V.undef, V.undef, V.undef], [(4, cz13)]⟩ hz10)))))
 ((0 + 49 ≤ (List.length (ints t))) ∧ (let cz14 : List V := (List.take 49 (List.drop 0 (ints t)));
 (let iz15 : Int := (Go.IntKind.wrap Go.IntKind.i64 (0 - iz11));
 (AnyW Try.prog 59 [(V.agg cz14), (V.int Go.IntKind.i64 x), (V.int Go.IntKind.i64 (1 : Int)), (V.int Go.IntKind.i64 iz15), (V.int Go.IntKind.i64 (0 : Int))] hz10 (fun (rz16 : V) (hz17 : Heap) =>
 ((True ∧ V.isAgg 49 rz16 = true) ∧ (((List.length (V.cells rz16)) = 49) ∧ 0 + 49 ≤ (List.length (ints t)) ∧ (let cz18 : List V := (wrCells (ints t) 0 (V.cells rz16));
 ((0 ≤ x ∧ x < 8) ∧ ((((0 + ((Int.toNat x) * 6)) + 4) < (List.length cz18) ∧ V.isInt Go.IntKind.i64 (gv cz18 ((0 + ((Int.toNat x) * 6)) + 4)) = true) ∧ (let iz19 : Int := (V.num (gv cz18 ((0 + ((Int.toNat x) * 6)) + 4)));
 (let iz20 : Int := (Go.IntKind.wrap Go.IntKind.i64 (iz19 - iz11));
 ((0 ≤ x ∧ x < 8) ∧ (True ∧ ((0 + ((Int.toNat x) * 6)) + 4) + 1 ≤ (List.length cz18) ∧ (let cz21 : List V := (wrCells cz18 ((0 + ((Int.toNat x) * 6)) + 4) [(V.int Go.IntKind.i64 iz20)]);
 ((48 < (List.length cz21) ∧ V.isInt Go.IntKind.i64 (gv cz21 48) = true) ∧ (let iz22 : Int := (Go.IntKind.wrap Go.IntKind.i64 ((V.num (gv cz21 48)) + iz11));
 (True ∧ 48 + 1 ≤ (List.length cz21) ∧ (let cz23 : List V := (wrCells cz21 48 [(V.int Go.IntKind.i64 iz22)]);
 ((0 + 49 ≤ (List.length cz23)) ∧ (let cz24 : List V := (List.take 49 (List.drop 0 cz23));
 (((List.length cz24) = 49) ∧ 0 + 49 ≤ 49 ∧ (let cz25 : List V := (wrCells [(V.int Go.IntKind.i64 (0 : Int)), (V.int Go.IntKind.i64 (0 : Int)), (V.int Go.IntKind.i64 (0 : Int)), (V.int Go.IntKind.i64 (0 : Int)), (V.int Go.IntKind.i64 (0 : Int)), (V.int Go.IntKind.i64 (0 : Int)), (V.int Go.IntKind.i64 (0 : Int)), (V.int Go.IntKind.i64 (0 : Int)), (V.int Go.IntKind.i64 (0 : Int)), (V.int Go.IntKind.i64 (0 : Int)), (V.int Go.IntKind.i64 (0 : Int)), (V.int Go.IntKind.i64 (0 : Int)), (V.int Go.IntKind.i64 (0 : Int)), (V.int Go.IntKind.i64 (0 : Int)), (V.int Go.IntKind.i64 (0 : Int)), (V.int Go.IntKind.i64 (0 : Int)), (V.int Go.IntKind.i64 (0 : Int)), (V.int Go.IntKind.i64 (0 : Int)), (V.int Go.IntKind.i64 (0 : Int)), (V.int Go.IntKind.i64 (0 : Int)), (V.int Go.IntKind.i64 (0 : Int)), (V.int Go.IntKind.i64 (0 : Int)), (V.int Go.IntKind.i64 (0 : Int)), (V.int Go.IntKind.i64 (0 : Int)), (V.int Go.IntKind.i64 (0 : Int)), (V.int Go.IntKind.i64 (0 : Int)), (V.int Go.IntKind.i64 (0 : Int)), (V.int Go.IntKind.i64 (0 : Int)), (V.int Go.IntKind.i64 (0 : Int)), (V.int Go.IntKind.i64 (0 : Int)), (V.int Go.IntKind.i64 (0 : Int)), (V.int Go.IntKind.i64 (0 : Int)), (V.int Go.IntKind.i64 (0 : Int)), (V.int Go.IntKind.i64 (0 : Int)), (V.int Go.IntKind.i64 (0 : Int)), (V.int Go.IntKind.i64 (0 : Int)), (V.int Go.IntKind.i64 (0 : Int)), (V.int Go.IntKind.i64 (0 : Int)), (V.int Go.IntKind.i64 (0 : Int)), (V.int Go.IntKind.i64 (0 : Int)), (V.int Go.IntKind.i64 (0 : Int)), (V.int Go.IntKind.i64 (0 : Int)), (V.int Go.IntKind.i64 (0 : Int)), (V.int Go.IntKind.i64 (0 : Int)), (V.int Go.IntKind.i64 (0 : Int)), (V.int Go.IntKind.i64 (0 : Int)), (V.int Go.IntKind.i64 (0 : Int)), (V.int Go.IntKind.i64 (0 : Int)), (V.int Go.IntKind.i64 (0 : Int))] 0 cz24);
 (Q Ex.ret ⟨[V.undef, V.undef, V.undef, V.undef, (V.lp 4 0), (V.int Go.IntKind.i64 iz11), (V.int Go.IntKind.i64 (0 : Int)), V.undef, V.undef, V.undef, V.undef, V.undef, V.undef, V.undef, V.undef, V.undef, V.undef, V.undef, V.undef, V.undef, V.undef, V.undef, V.undef, V.undef, V.undef, V.undef, V.undef, V.undef, V.undef, V.undef, V.undef, V.undef, V.undef, V.undef, V.undef, V.undef, V.undef, V.undef, V.undef, V.undef, V.undef, V.undef, V.undef, V.undef, V.undef, V.undef, V.undef, V.undef, V.undef, V.undef, V.undef], [(4, cz25)]⟩ hz17))))))))))))))))))))))))))))))))))))))))) := wpA_at f43_n_plug (by kernel_rfl)
theorem f43_end1 (x0 : Int) (x1 : Int) (c2 : List V) (h : Heap) (K : V → Heap → Prop) : bodyK Try.prog Try.f43 K Ex.ret ⟨[V.undef, V.undef, V.undef, V.undef, (V.lp 4 0), (V.int Go.IntKind.i64 x0), (V.int Go.IntKind.i64 x1), V.undef, V.undef, V.undef, V.undef, V.undef, V.undef, V.undef, V.undef, V.undef, V.undef, V.undef, V.undef, V.undef, V.undef, V.undef, V.undef, V.undef, V.undef, V.undef, V.undef, V.undef, V.undef, V.undef, V.undef, V.undef, V.undef, V.undef, V.undef, V.undef, V.undef, V.undef, V.undef, V.undef, V.undef, V.undef, V.undef, V.undef, V.undef, V.undef, V.undef, V.undef, V.undef, V.undef, V.undef], [(4, c2)]⟩ h = ((0 + 49 ≤ (List.length c2)) ∧ (let cz26 : List V := (List.take 49 (List.drop 0 c2));
 (K (V.tup [(V.agg cz26), (V.int Go.IntKind.i64 x0), (V.int Go.IntKind.i64 x1)]) h))) := by kernel_rfl
end

section
set_option linter.all false
set_option maxRecDepth 100000
open Go Go.Proofs Jb
def f41_cf : Cfg := ⟨[], [(0, [0, 1, 5]), (1, [8, 9, 10, 11, 12, 13, 14, 15, 16, 17, 18, 19, 20, 21, 22, 23, 24, 25, 26, 27, 28, 29, 30, 31, 32, 33, 34, 35, 36, 37, 38, 39, 40, 41, 42, 43, 44, 45, 46, 47, 48, 49, 50, 51, 52]), (2, [2, 3, 53, 54]), (3, [53, 55, 56, 57, 58, 59, 60, 61, 62, 63]), (4, [64]), (5, [2, 3, 6, 7, 65, 66, 67]), (6, [65, 68, 69, 70, 71, 72, 73, 74, 75, 76]), (7, [77]), (8, [2, 3, 6, 7, 78, 79, 80]), (9, [7, 78, 81, 82, 83, 84, 85, 86, 87, 88, 89, 90, 91, 92, 93, 94, 95]), (10, [2, 3, 6, 96, 97]), (11, [2, 96, 98, 99, 100, 101, 102, 103, 104]), (12, [105, 106, 107, 108, 109, 110]), (13, [111, 112, 113, 114, 115, 116, 117]), (14, [118, 119, 120, 121, 122, 123]), (15, [124, 125, 126, 127, 128, 129, 130, 131]), (16, [3, 6, 132, 133, 134, 135, 136, 137, 138, 139])]⟩
noncomputable def f41_b : Code := bodyOf Try.f41
noncomputable def f41_n : Code :=  (codeAt [] f41_b)
noncomputable def f41_n1 : Code := hide (codeAt [1] f41_b)
noncomputable def f41_n10 : Code := hide (codeAt [1, 0] f41_b)
noncomputable def f41_n100 : Code := hide (codeAt [1, 0, 0] f41_b)
noncomputable def f41_n101 : Code := hide (codeAt [1, 0, 1] f41_b)
noncomputable def f41_n11 : Code := hide (codeAt [1, 1] f41_b)
noncomputable def f41_n111111 : Code := hide (codeAt [1, 1, 1, 1, 1, 1] f41_b)
noncomputable def f41_n1111110 : Code := hide (codeAt [1, 1, 1, 1, 1, 1, 0] f41_b)
noncomputable def f41_n11111100 : Code := hide (codeAt [1, 1, 1, 1, 1, 1, 0, 0] f41_b)
noncomputable def f41_n11111101 : Code := hide (codeAt [1, 1, 1, 1, 1, 1, 0, 1] f41_b)
noncomputable def f41_n1111111 : Code := hide (codeAt [1, 1, 1, 1, 1, 1, 1] f41_b)
theorem f41_entry (t : List Int) (d : List Int) (h : Heap) (K : V → Heap → Prop) : bodyW Try.prog f41_cf Try.f41 [(V.agg (ints t)), (V.agg (ints d))] h K = wpA Try.prog f41_cf f41_n ⟨[(V.agg (ints t)), (V.agg (ints d)), V.undef, V.undef, V.undef, V.undef, V.undef, V.undef, V.undef, V.undef, V.undef, V.undef, V.undef, V.undef, V.undef, V.undef, V.undef, V.undef, V.undef, V.undef, V.undef, V.undef, V.undef, V.undef, V.undef, V.undef, V.undef, V.undef, V.undef, V.undef, V.undef, V.undef, V.undef, V.undef, V.undef, V.undef, V.undef, V.undef, V.undef, V.undef, V.undef, V.undef, V.undef, V.undef, V.undef, V.undef, V.undef, V.undef, V.undef, V.undef, V.undef, V.undef, V.undef, V.undef, V.undef, V.undef, V.undef, V.undef, V.undef, V.undef, V.undef, V.undef, V.undef, V.undef, V.undef, V.undef, V.undef, V.undef, V.undef, V.undef, V.undef, V.undef, V.undef, V.undef, V.undef, V.undef, V.undef, V.undef, V.undef, V.undef, V.undef, V.undef, V.undef, V.undef, V.undef, V.undef, V.undef, V.undef, V.undef, V.undef, V.undef, V.undef, V.undef, V.undef, V.undef, V.undef, V.undef, V.undef, V.undef, V.undef, V.undef, V.undef, V.undef, V.undef, V.undef, V.undef, V.undef, V.undef, V.undef, V.undef, V.undef, V.undef, V.undef, V.undef, V.undef, V.undef, V.undef, V.undef, V.undef, V.undef, V.undef, V.undef, V.undef, V.undef, V.undef, V.undef, V.undef, V.undef, V.undef, V.undef, V.undef, V.undef, V.undef, V.undef, V.undef, V.undef, V.undef, V.undef, V.undef, V.undef], []⟩ h (bodyK Try.prog Try.f41 K) := by kernel_rfl
theorem f41_n_plug : f41_n = (plug [1] (codeAt [] f41_b) f41_n1) := by
  simp only [f41_n, f41_n1, hide_eq]
  try kernel_rfl
theorem f41_n_wp (t : List Int) (d : List Int) (h : Heap) (Q : Ex → Fr → Heap → Prop) : wpA Try.prog f41_cf f41_n ⟨[(V.agg (ints t)), (V.agg (ints d)), V.undef, V.undef, V.undef, V.undef, V.undef, V.undef, V.undef, V.undef, V.undef, V.undef, V.undef, V.undef, V.undef, V.undef, V.undef, V.undef, V.undef, V.undef, V.undef, V.undef, V.undef, V.undef, V.undef, V.undef, V.undef, V.undef, V.undef, V.undef, V.undef, V.undef, V.undef, V.undef, V.undef, V.undef, V.undef, V.undef, V.undef, V.undef, V.undef, V.undef, V.undef, V.undef, V.undef, V.undef, V.undef, V.undef, V.undef, V.undef, V.undef, V.undef, V.undef, V.undef, V.undef, V.undef, V.undef, V.undef, V.undef, V.undef, V.undef, V.undef, V.undef, V.undef, V.undef, V.undef, V.undef, V.undef, V.undef, V.undef, V.undef, V.undef, V.undef, V.undef, V.undef, V.undef, V.undef, V.undef, V.undef, V.undef, V.undef, V.undef, V.undef, V.undef, V.undef, V.undef, V.undef, V.undef, V.undef, V.undef, V.undef, V.undef, V.undef, V.undef, V.undef, V.undef, V.undef, V.undef, V.undef, V.undef, V.undef, V.undef, V.undef, V.undef, V.undef, V.undef, V.undef, V.undef, V.undef, V.undef, V.undef, V.undef, V.undef, V.undef, V.undef, V.undef, V.undef, V.undef, V.undef, V.undef, V.undef, V.undef, V.undef, V.undef, V.undef, V.undef, V.undef, V.undef, V.undef, V.undef, V.undef, V.undef, V.undef, V.undef, V.undef, V.undef, V.undef, V.undef, V.undef, V.undef], []⟩ h Q =
 (((List.length (ints t)) = 49) ∧ (((List.length (ints d)) = 8) ∧ (True ∧ (wpA Try.prog f41_cf f41_n1 ⟨[V.undef, V.undef, (V.lp 2 0), (V.lp 3 0), (V.lp 4 0), V.undef, V.undef, V.undef, V.undef, V.undef, V.undef, V.undef, V.undef, V.undef, V.undef, V.undef, V.undef, V.undef, V.undef, V.undef, V.undef, V.undef, V.undef, V.undef, V.undef, V.undef, V.undef, V.undef, V.undef, V.undef, V.undef, V.undef, V.undef, V.undef, V.undef, V.undef, V.undef, V.undef, V.undef, V.undef, V.undef, V.undef, V.undef, V.undef, V.undef, V.undef, V.undef, V.undef, V.undef, V.undef, V.undef, V.undef, V.undef, V.undef, V.undef, V.undef, V.undef, V.undef, V.undef, V.undef, V.undef, V.undef, V.undef, V.undef, V.undef, V.undef, V.undef, V.undef, V.undef, V.undef, V.undef, V.undef, V.undef, V.undef, V.undef, V.undef, V.undef, V.undef, V.undef, V.undef, V.undef, V.undef, V.undef, V.undef, V.undef, V.undef, V.undef, V.undef, V.undef, V.undef, V.undef, V.undef, V.undef, V.undef, V.undef, V.undef, V.undef, V.undef, V.undef, V.undef, V.undef, V.undef, V.undef, V.undef, V.undef, V.undef, V.undef, V.undef, V.undef, V.undef, V.undef, V.undef, V.undef, V.undef, V.undef, V.undef, V.undef, V.undef, V.undef, V.undef, V.undef, V.undef, V.undef, V.undef, V.undef, V.undef, V.undef, V.undef, V.undef, V.undef, V.undef, V.undef, V.undef, V.undef, V.undef, V.undef, V.undef, V.undef, V.undef, V.undef], [(2, (ints t)), (3, (ints d)), (4, [(V.int Go.IntKind.i64 (0 : Int)), (V.int Go.IntKind.i64 (0 : Int)), (V.int Go.IntKind.i64 (0 : Int)), (V.int Go.IntKind.i64 (0 : Int)), (V.int Go.IntKind.i64 (0 : Int)), (V.int Go.IntKind.i64 (0 : Int)), (V.int Go.IntKind.i64 (0 : Int)), (V.int Go.IntKind.i64 (0 : Int)), (V.int Go.IntKind.i64 (0 : Int)), (V.int Go.IntKind.i64 (0 : Int)), (V.int Go.IntKind.i64 (0 : Int)), (V.int Go.IntKind.i64 (0 : Int)), (V.int Go.IntKind.i64 (0 : Int)), (V.int Go.IntKind.i64 (0 : Int)), (V.int Go.IntKind.i64 (0 : Int)), (V.int Go.IntKind.i64 (0 : Int)), (V.int Go.IntKind.i64 (0 : Int)), (V.int Go.IntKind.i64 (0 : Int)), (V.int Go.IntKind.i64 (0 : Int)), (V.int Go.IntKind.i64 (0 : Int)), (V.int Go.IntKind.i64 (0 : Int)), (V.int Go.IntKind.i64 (0 : Int)), (V.int Go.IntKind.i64 (0 : Int)), (V.int Go.IntKind.i64 (0 : Int)), (V.int Go.IntKind.i64 (0 : Int)), (V.int Go.IntKind.i64 (0 : Int)), (V.int Go.IntKind.i64 (0 : Int)), (V.int Go.IntKind.i64 (0 : Int)), (V.int Go.IntKind.i64 (0 : Int)), (V.int Go.IntKind.i64 (0 : Int)), (V.int Go.IntKind.i64 (0 : Int)), (V.int Go.IntKind.i64 (0 : Int)), (V.int Go.IntKind.i64 (0 : Int)), (V.int Go.IntKind.i64 (0 : Int)), (V.int Go.IntKind.i64 (0 : Int)), (V.int Go.IntKind.i64 (0 : Int)), (V.int Go.IntKind.i64 (0 : Int)), (V.int Go.IntKind.i64 (0 : Int)), (V.int Go.IntKind.i64 (0 : Int)), (V.int Go.IntKind.i64 (0 : Int)), (V.int Go.IntKind.i64 (0 : Int)), (V.int Go.IntKind.i64 (0 : Int)), (V.int Go.IntKind.i64 (0 : Int)), (V.int Go.IntKind.i64 (0 : Int)), (V.int Go.IntKind.i64 (0 : Int)), (V.int Go.IntKind.i64 (0 : Int)), (V.int Go.IntKind.i64 (0 : Int)), (V.int Go.IntKind.i64 (0 : Int)), (V.int Go.IntKind.i64 (0 : Int))])]⟩ h Q)))) := wpA_at f41_n_plug (by kernel_rfl)
theorem f41_n1_eq : f41_n1 = Code.seq f41_n10 f41_n11 := by
  simp only [f41_n1, f41_n10, f41_n11, hide_eq]
  kernel_rfl
theorem f41_n10_eq : f41_n10 = Code.seq f41_n100 f41_n101 := by
  simp only [f41_n10, f41_n100, f41_n101, hide_eq]
  kernel_rfl
theorem f41_n100_plug : f41_n100 = (codeAt [1, 0, 0] f41_b) := by
  simp only [f41_n100, hide_eq]
  try kernel_rfl
theorem f41_n100_wp (c0 : List V) (c1 : List V) (c2 : List V) (h : Heap) (Q : Ex → Fr → Heap → Prop) : wpA Try.prog f41_cf f41_n100 ⟨[V.undef, V.undef, (V.lp 2 0), (V.lp 3 0), (V.lp 4 0), V.undef, V.undef, V.undef, V.undef, V.undef, V.undef, V.undef, V.undef, V.undef, V.undef, V.undef, V.undef, V.undef, V.undef, V.undef, V.undef, V.undef, V.undef, V.undef, V.undef, V.undef, V.undef, V.undef, V.undef, V.undef, V.undef, V.undef, V.undef, V.undef, V.undef, V.undef, V.undef, V.undef, V.undef, V.undef, V.undef, V.undef, V.undef, V.undef, V.undef, V.undef, V.undef, V.undef, V.undef, V.undef, V.undef, V.undef, V.undef, V.undef, V.undef, V.undef, V.undef, V.undef, V.undef, V.undef, V.undef, V.undef, V.undef, V.undef, V.undef, V.undef, V.undef, V.undef, V.undef, V.undef, V.undef, V.undef, V.undef, V.undef, V.undef, V.undef, V.undef, V.undef, V.undef, V.undef, V.undef, V.undef, V.undef, V.undef, V.undef, V.undef, V.undef, V.undef, V.undef, V.undef, V.undef, V.undef, V.undef, V.undef, V.undef, V.undef, V.undef, V.undef, V.undef, V.undef, V.undef, V.undef, V.undef, V.undef, V.undef, V.undef, V.undef, V.undef, V.undef, V.undef, V.undef, V.undef, V.undef, V.undef, V.undef, V.undef, V.undef, V.undef, V.undef, V.undef, V.undef, V.undef, V.undef, V.undef, V.undef, V.undef, V.undef, V.undef, V.undef, V.undef, V.undef, V.undef, V.undef, V.undef, V.undef, V.undef, V.undef, V.undef, V.undef, V.undef], [(2, c0), (3, c1), (4, c2)]⟩ h Q =
 ((0 < (List.length c1) ∧ V.isInt Go.IntKind.i64 (gv c1 0) = true) ∧ (AnyW Try.prog 34 [(V.int Go.IntKind.i64 (V.num (gv c1 0))), (V.int Go.IntKind.i64 (1 : Int))] h (fun (rz1 : V) (hz2 : Heap) =>
 ((True ∧ V.isBool rz1 = true) ∧ (((!(!(V.flag rz1))) = true → (!(!(V.flag rz1))) = true) ∧ (((!(!(V.flag rz1))) = true → (1 < (List.length c1) ∧ V.isInt Go.IntKind.i64 (gv c1 1) = true)) ∧ (let kz3 : Bool → Heap → Prop := fun (xz4 : Bool) (hz5 : Heap) =>
 (((!(!(V.flag rz1))) = true → (!(!(V.flag rz1))) = true) ∧ ((((!(V.flag rz1)) = false → (!(!(V.flag rz1))) = true) ∧ True) ∧ (let bz6 : Bool := (cond (!(V.flag rz1)) true (!xz4));
 (((!bz6) = true → (!bz6) = true) ∧ (((!bz6) = true → (2 < (List.length c1) ∧ V.isInt Go.IntKind.i64 (gv c1 2) = true)) ∧ (let kz7 : Bool → Heap → Prop := fun (xz8 : Bool) (hz9 : Heap) =>
 (((!bz6) = true → (!bz6) = true) ∧ (((bz6 = false → (!bz6) = true) ∧ True) ∧ (let bz10 : Bool := (!(cond bz6 true (!xz8)));
 (((!(cond bz6 true (!xz8))) = true → bz10 = true) ∧ (((!(cond bz6 true (!xz8))) = true → (3 < (List.length c1) ∧ V.isInt Go.IntKind.i64 (gv c1 3) = true)) ∧ (let bz11 : Bool := (!(cond bz6 true (!xz8)));
 (let kz12 : Bool → Heap → Prop := fun (xz13 : Bool) (hz14 : Heap) =>
 (((!(cond bz6 true (!xz8))) = true → (!(cond bz6 true (!xz8))) = true) ∧ (let bz15 : Bool := (!(cond bz6 true (!xz8)));
 ((((cond bz6 true (!xz8)) = false → bz15 = true) ∧ True) ∧ (let bz16 : Bool := (cond (cond bz6 true (!xz8)) true (!xz13));
 (((!bz16) = true → (!bz16) = true) ∧ (((!bz16) = true → (4 < (List.length c1) ∧ V.isInt Go.IntKind.i64 (gv c1 4) = true)) ∧ (let kz17 : Bool → Heap → Prop := fun (xz18 : Bool) (hz19 : Heap) =>
 (((!bz16) = true → (!bz16) = true) ∧ (((bz16 = false → (!bz16) = true) ∧ True) ∧ (let bz20 : Bool := (!(cond bz16 true (!xz18)));
 (((!(cond bz16 true (!xz18))) = true → bz20 = true) ∧ (((!(cond bz16 true (!xz18))) = true → (5 < (List.length c1) ∧ V.isInt Go.IntKind.i64 (gv c1 5) = true)) ∧ (let bz21 : Bool := (!(cond bz16 true (!xz18)));
 (let kz22 : Bool → Heap → Prop := fun (xz23 : Bool) (hz24 : Heap) =>
 (((!(cond bz16 true (!xz18))) = true → (!(cond bz16 true (!xz18))) = true) ∧ (let bz25 : Bool := (!(cond bz16 true (!xz18)));
 ((((cond bz16 true (!xz18)) = false → bz25 = true) ∧ True) ∧ (let bz26 : Bool := (cond (cond bz16 true (!xz18)) true (!xz23));
 (((!bz26) = true → (!bz26) = true) ∧ (((!bz26) = true → (6 < (List.length c1) ∧ V.isInt Go.IntKind.i64 (gv c1 6) = true)) ∧ (let kz27 : Bool → Heap → Prop := fun (xz28 : Bool) (hz29 : Heap) =>
 (((!bz26) = true → (!bz26) = true) ∧ (((bz26 = false → (!bz26) = true) ∧ True) ∧ (let bz30 : Bool := (!(cond bz26 true (!xz28)));
 (((!(cond bz26 true (!xz28))) = true → bz30 = true) ∧ (((!(cond bz26 true (!xz28))) = true → (7 < (List.length c1) ∧ V.isInt Go.IntKind.i64 (gv c1 7) = true)) ∧ (let bz31 : Bool := (!(cond bz26 true (!xz28)));
 (let kz32 : Bool → Heap → Prop := fun (xz33 : Bool) (hz34 : Heap) =>
 (((!(cond bz26 true (!xz28))) = true → (!(cond bz26 true (!xz28))) = true) ∧ (let bz35 : Bool := (!(cond bz26 true (!xz28)));
 ((((cond bz26 true (!xz28)) = false → bz35 = true) ∧ True) ∧ (let bz36 : Bool := (cond (cond bz26 true (!xz28)) true (!xz33));
 (Q Ex.normal ⟨[V.undef, V.undef, (V.lp 2 0), (V.lp 3 0), (V.lp 4 0), V.undef, V.undef, V.undef, V.undef, V.undef, V.undef, V.undef, V.undef, V.undef, V.undef, V.undef, V.undef, V.undef, V.undef, V.undef, V.undef, V.undef, V.undef, V.undef, V.undef, V.undef, V.undef, V.undef, V.undef, V.undef, V.undef, V.undef, V.undef, V.undef, V.undef, V.undef, V.undef, V.undef, V.undef, V.undef, V.undef, V.undef, V.undef, V.undef, V.undef, V.undef, V.undef, V.undef, V.undef, V.undef, V.undef, V.undef, V.undef, (V.bool bz36), V.undef, V.undef, V.undef, V.undef, V.undef, V.undef, V.undef, V.undef, V.undef, V.undef, V.undef, V.undef, V.undef, V.undef, V.undef, V.undef, V.undef, V.undef, V.undef, V.undef, V.undef, V.undef, V.undef, V.undef, V.undef, V.undef, V.undef, V.undef, V.undef, V.undef, V.undef, V.undef, V.undef, V.undef, V.undef, V.undef, V.undef, V.undef, V.undef, V.undef, V.undef, V.undef, V.undef, V.undef, V.undef, V.undef, V.undef, V.undef, V.undef, V.undef, V.undef, V.undef, V.undef, V.undef, V.undef, V.undef, V.undef, V.undef, V.undef, V.undef, V.undef, V.undef, V.undef, V.undef, V.undef, V.undef, V.undef, V.undef, V.undef, V.undef, V.undef, V.undef, V.undef, V.undef, V.undef, V.undef, V.undef, V.undef, V.undef, V.undef, V.undef, V.undef, V.undef, V.undef, V.undef, V.undef], [(2, c0), (3, c1), (4, c2)]⟩ hz34)))));
 brW (!(cond bz26 true (!xz28)))
 ((bz31 = true) ∧ (AnyW Try.prog 27 [(V.int Go.IntKind.i64 (V.num (gv c1 7)))] hz29 (fun (rz37 : V) (hz38 : Heap) =>
 ((True ∧ V.isBool rz37 = true) ∧ (kz32 (V.flag rz37) hz38)))))
 (kz32 false hz29))))))));
 brW (!bz26)
 (((!bz26) = true) ∧ (AnyW Try.prog 27 [(V.int Go.IntKind.i64 (V.num (gv c1 6)))] hz24 (fun (rz39 : V) (hz40 : Heap) =>
 ((True ∧ V.isBool rz39 = true) ∧ (kz27 (V.flag rz39) hz40)))))
 (kz27 false hz24))))))));
 brW (!(cond bz16 true (!xz18)))
 ((bz21 = true) ∧ (AnyW Try.prog 27 [(V.int Go.IntKind.i64 (V.num (gv c1 5)))] hz19 (fun (rz41 : V) (hz42 : Heap) =>
 ((True ∧ V.isBool rz41 = true) ∧ (kz22 (V.flag rz41) hz42)))))
 (kz22 false hz19))))))));
 brW (!bz16)
 (((!bz16) = true) ∧ (AnyW Try.prog 27 [(V.int Go.IntKind.i64 (V.num (gv c1 4)))] hz14 (fun (rz43 : V) (hz44 : Heap) =>
 ((True ∧ V.isBool rz43 = true) ∧ (kz17 (V.flag rz43) hz44)))))
 (kz17 false hz14))))))));
 brW (!(cond bz6 true (!xz8)))
 ((bz11 = true) ∧ (AnyW Try.prog 27 [(V.int Go.IntKind.i64 (V.num (gv c1 3)))] hz9 (fun (rz45 : V) (hz46 : Heap) =>
 ((True ∧ V.isBool rz45 = true) ∧ (kz12 (V.flag rz45) hz46)))))
 (kz12 false hz9))))))));
 brW (!bz6)
 (((!bz6) = true) ∧ (AnyW Try.prog 27 [(V.int Go.IntKind.i64 (V.num (gv c1 2)))] hz5 (fun (rz47 : V) (hz48 : Heap) =>
 ((True ∧ V.isBool rz47 = true) ∧ (kz7 (V.flag rz47) hz48)))))
 (kz7 false hz5)))))));
 brW (!(!(V.flag rz1)))
 (((!(!(V.flag rz1))) = true) ∧ (AnyW Try.prog 34 [(V.int Go.IntKind.i64 (V.num (gv c1 1))), (V.int Go.IntKind.i64 (1 : Int))] hz2 (fun (rz49 : V) (hz50 : Heap) =>
 ((True ∧ V.isBool rz49 = true) ∧ (kz3 (V.flag rz49) hz50)))))
 (kz3 false hz2)))))))) := wpA_at f41_n100_plug (by kernel_rfl)
theorem f41_n101_plug : f41_n101 = (codeAt [1, 0, 1] f41_b) := by
  simp only [f41_n101, hide_eq]
  try kernel_rfl
theorem f41_n101_wp (b0 : Bool) (c1 : List V) (c2 : List V) (c3 : List V) (h : Heap) (Q : Ex → Fr → Heap → Prop) : wpA Try.prog f41_cf f41_n101 ⟨[V.undef, V.undef, (V.lp 2 0), (V.lp 3 0), (V.lp 4 0), V.undef, V.undef, V.undef, V.undef, V.undef, V.undef, V.undef, V.undef, V.undef, V.undef, V.undef, V.undef, V.undef, V.undef, V.undef, V.undef, V.undef, V.undef, V.undef, V.undef, V.undef, V.undef, V.undef, V.undef, V.undef, V.undef, V.undef, V.undef, V.undef, V.undef, V.undef, V.undef, V.undef, V.undef, V.undef, V.undef, V.undef, V.undef, V.undef, V.undef, V.undef, V.undef, V.undef, V.undef, V.undef, V.undef, V.undef, V.undef, (V.bool b0), V.undef, V.undef, V.undef, V.undef, V.undef, V.undef, V.undef, V.undef, V.undef, V.undef, V.undef, V.undef, V.undef, V.undef, V.undef, V.undef, V.undef, V.undef, V.undef, V.undef, V.undef, V.undef, V.undef, V.undef, V.undef, V.undef, V.undef, V.undef, V.undef, V.undef, V.undef, V.undef, V.undef, V.undef, V.undef, V.undef, V.undef, V.undef, V.undef, V.undef, V.undef, V.undef, V.undef, V.undef, V.undef, V.undef, V.undef, V.undef, V.undef, V.undef, V.undef, V.undef, V.undef, V.undef, V.undef, V.undef, V.undef, V.undef, V.undef, V.undef, V.undef, V.undef, V.undef, V.undef, V.undef, V.undef, V.undef, V.undef, V.undef, V.undef, V.undef, V.undef, V.undef, V.undef, V.undef, V.undef, V.undef, V.undef, V.undef, V.undef, V.undef, V.undef, V.undef, V.undef, V.undef, V.undef], [(2, c1), (3, c2), (4, c3)]⟩ h Q =
 (brW b0
 ((0 + 49 ≤ (List.length c1)) ∧ (let cz51 : List V := (List.take 49 (List.drop 0 c1));
 (((List.length cz51) = 49) ∧ 0 + 49 ≤ (List.length c3) ∧ (Q Ex.ret ⟨[V.undef, V.undef, V.undef, V.undef, (V.lp 4 0), (V.int Go.IntKind.i64 (2 : Int)), V.undef, V.undef, V.undef, V.undef, V.undef, V.undef, V.undef, V.undef, V.undef, V.undef, V.undef, V.undef, V.undef, V.undef, V.undef, V.undef, V.undef, V.undef, V.undef, V.undef, V.undef, V.undef, V.undef, V.undef, V.undef, V.undef, V.undef, V.undef, V.undef, V.undef, V.undef, V.undef, V.undef, V.undef, V.undef, V.undef, V.undef, V.undef, V.undef, V.undef, V.undef, V.undef, V.undef, V.undef, V.undef, V.undef, V.undef, V.undef, V.undef, V.undef, V.undef, V.undef, V.undef, V.undef, V.undef, V.undef, V.undef, V.undef, V.undef, V.undef, V.undef, V.undef, V.undef, V.undef, V.undef, V.undef, V.undef, V.undef, V.undef, V.undef, V.undef, V.undef, V.undef, V.undef, V.undef, V.undef, V.undef, V.undef, V.undef, V.undef, V.undef, V.undef, V.undef, V.undef, V.undef, V.undef, V.undef, V.undef, V.undef, V.undef, V.undef, V.undef, V.undef, V.undef, V.undef, V.undef, V.undef, V.undef, V.undef, V.undef, V.undef, V.undef, V.undef, V.undef, V.undef, V.undef, V.undef, V.undef, V.undef, V.undef, V.undef, V.undef, V.undef, V.undef, V.undef, V.undef, V.undef, V.undef, V.undef, V.undef, V.undef, V.undef, V.undef, V.undef, V.undef, V.undef, V.undef, V.undef, V.undef, V.undef, V.undef, V.undef, V.undef, V.undef], [(4, (wrCells c3 0 cz51))]⟩ h))))
 (Q Ex.normal ⟨[V.undef, V.undef, (V.lp 2 0), (V.lp 3 0), (V.lp 4 0), V.undef, V.undef, V.undef, V.undef, V.undef, V.undef, V.undef, V.undef, V.undef, V.undef, V.undef, V.undef, V.undef, V.undef, V.undef, V.undef, V.undef, V.undef, V.undef, V.undef, V.undef, V.undef, V.undef, V.undef, V.undef, V.undef, V.undef, V.undef, V.undef, V.undef, V.undef, V.undef, V.undef, V.undef, V.undef, V.undef, V.undef, V.undef, V.undef, V.undef, V.undef, V.undef, V.undef, V.undef, V.undef, V.undef, V.undef, V.undef, (V.bool b0), V.undef, V.undef, V.undef, V.undef, V.undef, V.undef, V.undef, V.undef, V.undef, V.undef, V.undef, V.undef, V.undef, V.undef, V.undef, V.undef, V.undef, V.undef, V.undef, V.undef, V.undef, V.undef, V.undef, V.undef, V.undef, V.undef, V.undef, V.undef, V.undef, V.undef, V.undef, V.undef, V.undef, V.undef, V.undef, V.undef, V.undef, V.undef, V.undef, V.undef, V.undef, V.undef, V.undef, V.undef, V.undef, V.undef, V.undef, V.undef, V.undef, V.undef, V.undef, V.undef, V.undef, V.undef, V.undef, V.undef, V.undef, V.undef, V.undef, V.undef, V.undef, V.undef, V.undef, V.undef, V.undef, V.undef, V.undef, V.undef, V.undef, V.undef, V.undef, V.undef, V.undef, V.undef, V.undef, V.undef, V.undef, V.undef, V.undef, V.undef, V.undef, V.undef, V.undef, V.undef, V.undef, V.undef], [(2, c1), (3, c2), (4, c3)]⟩ h)) := wpA_at f41_n101_plug (by kernel_rfl)
theorem f41_n11_plug : f41_n11 = (plug [1, 1, 1, 1] (codeAt [1, 1] f41_b) f41_n111111) := by
  simp only [f41_n11, f41_n111111, hide_eq]
  try kernel_rfl
theorem f41_n11_wp (b0 : Bool) (c1 : List V) (c2 : List V) (c3 : List V) (h : Heap) (Q : Ex → Fr → Heap → Prop) : wpA Try.prog f41_cf f41_n11 ⟨[V.undef, V.undef, (V.lp 2 0), (V.lp 3 0), (V.lp 4 0), V.undef, V.undef, V.undef, V.undef, V.undef, V.undef, V.undef, V.undef, V.undef, V.undef, V.undef, V.undef, V.undef, V.undef, V.undef, V.undef, V.undef, V.undef, V.undef, V.undef, V.undef, V.undef, V.undef, V.undef, V.undef, V.undef, V.undef, V.undef, V.undef, V.undef, V.undef, V.undef, V.undef, V.undef, V.undef, V.undef, V.undef, V.undef, V.undef, V.undef, V.undef, V.undef, V.undef, V.undef, V.undef, V.undef, V.undef, V.undef, (V.bool b0), V.undef, V.undef, V.undef, V.undef, V.undef, V.undef, V.undef, V.undef, V.undef, V.undef, V.undef, V.undef, V.undef, V.undef, V.undef, V.undef, V.undef, V.undef, V.undef, V.undef, V.undef, V.undef, V.undef, V.undef, V.undef, V.undef, V.undef, V.undef, V.undef, V.undef, V.undef, V.undef, V.undef, V.undef, V.undef, V.undef, V.undef, V.undef, V.undef, V.undef, V.undef, V.undef, V.undef, V.undef, V.undef, V.undef, V.undef, V.undef, V.undef, V.undef, V.undef, V.undef, V.undef, V.undef, V.undef, V.undef, V.undef, V.undef, V.undef, V.undef, V.undef, V.undef, V.undef, V.undef, V.undef, V.undef, V.undef, V.undef, V.undef, V.undef, V.undef, V.undef, V.undef, V.undef, V.undef, V.undef, V.undef, V.undef, V.undef, V.undef, V.undef, V.undef, V.undef, V.undef, V.undef, V.undef], [(2, c1), (3, c2), (4, c3)]⟩ h Q =
 ((0 + 49 ≤ (List.length c1)) ∧ (let cz52 : List V := (List.take 49 (List.drop 0 c1));
 ((0 < (List.length c2) ∧ V.isInt Go.IntKind.i64 (gv c2 0) = true) ∧ ((4 < (List.length c2) ∧ V.isInt Go.IntKind.i64 (gv c2 4) = true) ∧ (AnyW Try.prog 40 [(V.agg cz52), (V.int Go.IntKind.i64 (V.num (gv c2 0))), (V.int Go.IntKind.i64 (1 : Int)), (V.int Go.IntKind.i64 (V.num (gv c2 4)))] h (fun (rz53 : V) (hz54 : Heap) =>
 (V.isTup 2 rz53 = true ∧ ((True ∧ V.isAgg 49 (gv (V.vs rz53) 0) = true) ∧ (let cz55 : List V := (V.cells (gv (V.vs rz53) 0));
 ((True ∧ V.isInt Go.IntKind.i64 (gv (V.vs rz53) 1) = true) ∧ (let iz56 : Int := (V.num (gv (V.vs rz53) 1));
 ((true = true) ∧ ((true = true) ∧ (True ∧ (((List.length cz55) = 49) ∧ 0 + 49 ≤ 49 ∧ (let cz57 : List V := (wrCells [(V.int Go.IntKind.i64 (0 : Int)), (V.int Go.IntKind.i64 (0 : Int)), (V.int Go.IntKind.i64 (0 : Int)), (V.int Go.IntKind.i64 (0 : Int)), (V.int Go.IntKind.i64 (0 : Int)), (V.int Go.IntKind.i64 (0 : Int)), (V.int Go.IntKind.i64 (0 : Int)), (V.int Go.IntKind.i64 (0 : Int)), (V.int Go.IntKind.i64 (0 : Int)), (V.int Go.IntKind.i64 (0 : Int)), (V.int Go.IntKind.i64 (0 : Int)), (V.int Go.IntKind.i64 (0 : Int)), (V.int Go.IntKind.i64 (0 : Int)), (V.int Go.IntKind.i64 (0 : Int)), (V.int Go.IntKind.i64 (0 : Int)), (V.int Go.IntKind.i64 (0 : Int)), (V.int Go.IntKind.i64 (0 : Int)), (V.int Go.IntKind.i64 (0 : Int)), (V.int Go.IntKind.i64 (0 : Int)), (V.int Go.IntKind.i64 (0 : Int)), (V.int Go.IntKind.i64 (0 : Int)), (V.int Go.IntKind.i64 (0 : Int)), (V.int Go.IntKind.i64 (0 : Int)), (V.int Go.IntKind.i64 (0 : Int)), (V.int Go.IntKind.i64 (0 : Int)), (V.int Go.IntKind.i64 (0 : Int)), (V.int Go.IntKind.i64 (0 : Int)), (V.int Go.IntKind.i64 (0 : Int)), (V.int Go.IntKind.i64 (0 : Int)), (V.int Go.IntKind.i64 (0 : Int)), (V.int Go.IntKind.i64 (0 : Int)), (V.int Go.IntKind.i64 (0 : Int)), (V.int Go.IntKind.i64 (0 : Int)), (V.int Go.IntKind.i64 (0 : Int)), (V.int Go.IntKind.i64 (0 : Int)), (V.int Go.IntKind.i64 (0 : Int)), (V.int Go.IntKind.i64 (0 : Int)), (V.int Go.IntKind.i64 (0 : Int)), (V.int Go.IntKind.i64 (0 : Int)), (V.int Go.IntKind.i64 (0 : Int)), (V.int Go.IntKind.i64 (0 : Int)), (V.int Go.IntKind.i64 (0 : Int)), (V.int Go.IntKind.i64 (0 : Int)), (V.int Go.IntKind.i64 (0 : Int)), (V.int Go.IntKind.i64 (0 : Int)), (V.int Go.IntKind.i64 (0 : Int)), (V.int Go.IntKind.i64 (0 : Int)), (V.int Go.IntKind.i64 (0 : Int)), (V.int Go.IntKind.i64 (0 : Int))] 0 cz55);
 (brW (iz56 != (0 : Int))
 ((0 + 49 ≤ (List.length c1)) ∧ (let cz58 : List V := (List.take 49 (List.drop 0 c1));
 (((List.length cz58) = 49) ∧ 0 + 49 ≤ (List.length c3) ∧ (Q Ex.ret ⟨[V.undef, V.undef, V.undef, V.undef, (V.lp 4 0), (V.int Go.IntKind.i64 iz56), V.undef, V.undef, V.undef, V.undef, V.undef, V.undef, V.undef, V.undef, V.undef, V.undef, V.undef, V.undef, V.undef, V.undef, V.undef, V.undef, V.undef, V.undef, V.undef, V.undef, V.undef, V.undef, V.undef, V.undef, V.undef, V.undef, V.undef, V.undef, V.undef, V.undef, V.undef, V.undef, V.undef, V.undef, V.undef, V.undef, V.undef, V.undef, V.undef, V.undef, V.undef, V.undef, V.undef, V.undef, V.undef, V.undef, V.undef, V.undef, V.undef, V.undef, V.undef, V.undef, V.undef, V.undef, V.undef, V.undef, V.undef, V.undef, V.undef, V.undef, V.undef, V.undef, V.undef, V.undef, V.undef, V.undef, V.undef, V.undef, V.undef, V.undef, V.undef, V.undef, V.undef, V.undef, V.undef, V.undef, V.undef, V.undef, V.undef, V.undef, V.undef, V.undef, V.undef, V.undef, V.undef, V.undef, V.undef, V.undef, V.undef, V.undef, V.undef, V.undef, V.undef, V.undef, V.undef, V.undef, V.undef, V.undef, V.undef, V.undef, V.undef, V.undef, V.undef, V.undef, V.undef, V.undef, V.undef, V.undef, V.undef, V.undef, V.undef, V.undef, V.undef, V.undef, V.undef, V.undef, V.undef, V.undef, V.undef, V.undef, V.undef, V.undef, V.undef, V.undef, V.undef, V.undef, V.undef, V.undef, V.undef, V.undef, V.undef, V.undef, V.undef, V.undef], [(4, (wrCells c3 0 cz58))]⟩ hz54))))
 ((0 + 49 ≤ (List.length cz57)) ∧ (let cz59 : List V := (List.take 49 (List.drop 0 cz57));
 ((1 < (List.length c2) ∧ V.isInt Go.IntKind.i64 (gv c2 1) = true) ∧ ((5 < (List.length c2) ∧ V.isInt Go.IntKind.i64 (gv c2 5) = true) ∧ (AnyW Try.prog 40 [(V.agg cz59), (V.int Go.IntKind.i64 (V.num (gv c2 1))), (V.int Go.IntKind.i64 (2 : Int)), (V.int Go.IntKind.i64 (V.num (gv c2 5)))] hz54 (fun (rz60 : V) (hz61 : Heap) =>
 (V.isTup 2 rz60 = true ∧ ((True ∧ V.isAgg 49 (gv (V.vs rz60) 0) = true) ∧ (let cz62 : List V := (V.cells (gv (V.vs rz60) 0));
 ((True ∧ V.isInt Go.IntKind.i64 (gv (V.vs rz60) 1) = true) ∧ (let iz63 : Int := (V.num (gv (V.vs rz60) 1));
 ((true = true) ∧ ((true = true) ∧ (((List.length cz62) = 49) ∧ 0 + 49 ≤ (List.length cz57) ∧ (brW (iz63 != (0 : Int))
 ((0 + 49 ≤ (List.length c1)) ∧ (let cz64 : List V := (List.take 49 (List.drop 0 c1));
 (((List.length cz64) = 49) ∧ 0 + 49 ≤ (List.length c3) ∧ (Q Ex.ret ⟨[V.undef, V.undef, V.undef, V.undef, (V.lp 4 0), (V.int Go.IntKind.i64 iz63), V.undef, V.undef, V.undef, V.undef, V.undef, V.undef, V.undef, V.undef, V.undef, V.undef, V.undef, V.undef, V.undef, V.undef, V.undef, V.undef, V.undef, V.undef, V.undef, V.undef, V.undef, V.undef, V.undef, V.undef, V.undef, V.undef, V.undef, V.undef, V.undef, V.undef, V.undef, V.undef, V.undef, V.undef, V.undef, V.undef, V.undef, V.undef, V.undef, V.undef, V.undef, V.undef, V.undef, V.undef, V.undef, V.undef, V.undef, V.undef, V.undef, V.undef, V.undef, V.undef, V.undef, V.undef, V.undef, V.undef, V.undef, V.undef, V.undef, V.undef, V.undef, V.undef, V.undef, V.undef, V.undef, V.undef, V.undef, V.undef, V.undef, V.undef, V.undef, V.undef, V.undef, V.undef, V.undef, V.undef, V.undef, V.undef, V.undef, V.undef, V.undef, V.undef, V.undef, V.undef, V.undef, V.undef, V.undef, V.undef, V.undef, V.undef, V.undef, V.undef, V.undef, V.undef, V.undef, V.undef, V.undef, V.undef, V.undef, V.undef, V.undef, V.undef, V.undef, V.undef, V.undef, V.undef, V.undef, V.undef, V.undef, V.undef, V.undef, V.undef, V.undef, V.undef, V.undef, V.undef, V.undef, V.undef, V.undef, V.undef, V.undef, V.undef, V.undef, V.undef, V.undef, V.undef, V.undef, V.undef, V.undef, V.undef, V.undef, V.undef, V.undef, V.undef], [(4, (wrCells c3 0 cz64))]⟩ hz61))))
 (wpA Try.prog f41_cf f41_n111111 ⟨[V.undef, V.undef, (V.lp 2 0), (V.lp 3 0), (V.lp 4 0), V.undef, (V.lp 6 0), (V.int Go.IntKind.i64 iz63), V.undef, V.undef, V.undef, V.undef, V.undef, V.undef, V.undef, V.undef, V.undef, V.undef, V.undef, V.undef, V.undef, V.undef, V.undef, V.undef, V.undef, V.undef, V.undef, V.undef, V.undef, V.undef, V.undef, V.undef, V.undef, V.undef, V.undef, V.undef, V.undef, V.undef, V.undef, V.undef, V.undef, V.undef, V.undef, V.undef, V.undef, V.undef, V.undef, V.undef, V.undef, V.undef, V.undef, V.undef, V.undef, V.undef, V.undef, V.undef, V.undef, V.undef, V.undef, V.undef, V.undef, V.undef, V.undef, V.undef, V.undef, V.undef, V.undef, V.undef, V.undef, V.undef, V.undef, V.undef, V.undef, V.undef, V.undef, V.undef, V.undef, V.undef, (V.bool (iz63 != (0 : Int))), V.undef, V.undef, V.undef, V.undef, V.undef, V.undef, V.undef, V.undef, V.undef, V.undef, V.undef, V.undef, V.undef, V.undef, V.undef, V.undef, V.undef, V.undef, V.undef, V.undef, V.undef, V.undef, V.undef, V.undef, V.undef, V.undef, V.undef, V.undef, V.undef, V.undef, V.undef, V.undef, V.undef, V.undef, V.undef, V.undef, V.undef, V.undef, V.undef, V.undef, V.undef, V.undef, V.undef, V.undef, V.undef, V.undef, V.undef, V.undef, V.undef, V.undef, V.undef, V.undef, V.undef, V.undef, V.undef, V.undef, V.undef, V.undef, V.undef, V.undef, V.undef], [(2, c1), (3, c2), (4, c3), (6, (wrCells cz57 0 cz62))]⟩ hz61 Q))))))))))))))))))))))))))))))))) := wpA_at f41_n11_plug (by kernel_rfl)
theorem f41_n111111_eq : f41_n111111 = Code.seq f41_n1111110 f41_n1111111 := by
  simp only [f41_n111111, f41_n1111110, f41_n1111111, hide_eq]
  kernel_rfl
theorem f41_n1111110_eq : f41_n1111110 = Code.seq f41_n11111100 f41_n11111101 := by
  simp only [f41_n1111110, f41_n11111100, f41_n11111101, hide_eq]
  kernel_rfl
theorem f41_n11111100_plug : f41_n11111100 = (codeAt [1, 1, 1, 1, 1, 1, 0, 0] f41_b) := by
  simp only [f41_n11111100, hide_eq]
  try kernel_rfl
theorem f41_n11111100_wp (x0 : Int) (b1 : Bool) (c2 : List V) (c3 : List V) (c4 : List V) (c5 : List V) (h : Heap) (Q : Ex → Fr → Heap → Prop) : wpA Try.prog f41_cf f41_n11111100 ⟨[V.undef, V.undef, (V.lp 2 0), (V.lp 3 0), (V.lp 4 0), V.undef, (V.lp 6 0), (V.int Go.IntKind.i64 x0), V.undef, V.undef, V.undef, V.undef, V.undef, V.undef, V.undef, V.undef, V.undef, V.undef, V.undef, V.undef, V.undef, V.undef, V.undef, V.undef, V.undef, V.undef, V.undef, V.undef, V.undef, V.undef, V.undef, V.undef, V.undef, V.undef, V.undef, V.undef, V.undef, V.undef, V.undef, V.undef, V.undef, V.undef, V.undef, V.undef, V.undef, V.undef, V.undef, V.undef, V.undef, V.undef, V.undef, V.undef, V.undef, V.undef, V.undef, V.undef, V.undef, V.undef, V.undef, V.undef, V.undef, V.undef, V.undef, V.undef, V.undef, V.undef, V.undef, V.undef, V.undef, V.undef, V.undef, V.undef, V.undef, V.undef, V.undef, V.undef, V.undef, V.undef, (V.bool b1), V.undef, V.undef, V.undef, V.undef, V.undef, V.undef, V.undef, V.undef, V.undef, V.undef, V.undef, V.undef, V.undef, V.undef, V.undef, V.undef, V.undef, V.undef, V.undef, V.undef, V.undef, V.undef, V.undef, V.undef, V.undef, V.undef, V.undef, V.undef, V.undef, V.undef, V.undef, V.undef, V.undef, V.undef, V.undef, V.undef, V.undef, V.undef, V.undef, V.undef, V.undef, V.undef, V.undef, V.undef, V.undef, V.undef, V.undef, V.undef, V.undef, V.undef, V.undef, V.undef, V.undef, V.undef, V.undef, V.undef, V.undef, V.undef, V.undef, V.undef, V.undef], [(2, c2), (3, c3), (4, c4), (6, c5)]⟩ h Q =
 ((0 + 49 ≤ (List.length c5)) ∧ (let cz65 : List V := (List.take 49 (List.drop 0 c5));
 ((0 < (List.length c3) ∧ V.isInt Go.IntKind.i64 (gv c3 0) = true) ∧ ((2 < (List.length c3) ∧ V.isInt Go.IntKind.i64 (gv c3 2) = true) ∧ (AnyW Try.prog 14 [(V.agg cz65), (V.int Go.IntKind.i64 (V.num (gv c3 0))), (V.int Go.IntKind.i64 (1 : Int))] h (fun (rz66 : V) (hz67 : Heap) =>
 ((True ∧ V.isInt Go.IntKind.i64 rz66 = true) ∧ (((2 < (List.length c3) ∧ V.isInt Go.IntKind.i64 (gv c3 2) = true) ∧ (V.int Go.IntKind.i64 (V.num (gv c3 2))) = (V.int Go.IntKind.i64 (V.num (gv c3 2)))) ∧ (let bz68 : Bool := (decide ((V.num rz66) < (V.num (gv c3 2))));
 (((!bz68) = true → (0 + 49 ≤ (List.length c5))) ∧ (let cz69 : List V := (List.take 49 (List.drop 0 c5));
 (((!bz68) = true → (!bz68) = true) ∧ (((!bz68) = true → (1 < (List.length c3) ∧ V.isInt Go.IntKind.i64 (gv c3 1) = true)) ∧ (((!bz68) = true → (!bz68) = true) ∧ (((!bz68) = true → (3 < (List.length c3) ∧ V.isInt Go.IntKind.i64 (gv c3 3) = true)) ∧ (let kz70 : Int → Heap → Prop := fun (xz71 : Int) (hz72 : Heap) =>
 ((((!bz68) = true → (3 < (List.length c3) ∧ V.isInt Go.IntKind.i64 (gv c3 3) = true)) ∧ (V.opt (!bz68) (V.int Go.IntKind.i64 (V.num (gv c3 3)))) = (V.opt (!bz68) (V.int Go.IntKind.i64 (V.num (gv c3 3))))) ∧ (((!bz68) = true → (!bz68) = true) ∧ (((!bz68) = true → (!bz68) = true) ∧ (let bz73 : Bool := (decide (xz71 < (V.num (gv c3 3))));
 (((bz68 = false → (!bz68) = true) ∧ True) ∧ (Q Ex.normal ⟨[V.undef, V.undef, (V.lp 2 0), (V.lp 3 0), (V.lp 4 0), V.undef, (V.lp 6 0), V.undef, V.undef, V.undef, V.undef, V.undef, V.undef, V.undef, V.undef, V.undef, V.undef, V.undef, V.undef, V.undef, V.undef, V.undef, V.undef, V.undef, V.undef, V.undef, V.undef, V.undef, V.undef, V.undef, V.undef, V.undef, V.undef, V.undef, V.undef, V.undef, V.undef, V.undef, V.undef, V.undef, V.undef, V.undef, V.undef, V.undef, V.undef, V.undef, V.undef, V.undef, V.undef, V.undef, V.undef, V.undef, V.undef, V.undef, V.undef, V.undef, V.undef, V.undef, V.undef, V.undef, V.undef, V.undef, V.undef, V.undef, V.undef, V.undef, V.undef, V.undef, V.undef, V.undef, V.undef, V.undef, V.undef, V.undef, V.undef, V.undef, V.undef, V.undef, V.undef, V.undef, V.undef, V.undef, V.undef, V.undef, V.undef, V.undef, V.undef, V.undef, V.undef, V.undef, V.undef, V.undef, V.undef, V.undef, V.undef, V.undef, (V.bool (cond bz68 true bz73)), V.undef, V.undef, V.undef, V.undef, V.undef, V.undef, V.undef, V.undef, V.undef, V.undef, V.undef, V.undef, V.undef, V.undef, V.undef, V.undef, V.undef, V.undef, V.undef, V.undef, V.undef, V.undef, V.undef, V.undef, V.undef, V.undef, V.undef, V.undef, V.undef, V.undef, V.undef, V.undef, V.undef, V.undef, V.undef, V.undef, V.undef, V.undef, V.undef, V.undef, V.undef, V.undef, V.undef], [(2, c2), (3, c3), (4, c4), (6, c5)]⟩ hz72))))));
 brW (!bz68)
 (((!bz68) = true) ∧ (((!bz68) = true) ∧ (AnyW Try.prog 14 [(V.agg cz69), (V.int Go.IntKind.i64 (V.num (gv c3 1))), (V.int Go.IntKind.i64 (2 : Int))] hz67 (fun (rz74 : V) (hz75 : Heap) =>
 ((True ∧ V.isInt Go.IntKind.i64 rz74 = true) ∧ (kz70 (V.num rz74) hz75))))))
 (kz70 (0 : Int) hz67))))))))))))))))) := wpA_at f41_n11111100_plug (by kernel_rfl)
theorem f41_n11111101_plug : f41_n11111101 = (codeAt [1, 1, 1, 1, 1, 1, 0, 1] f41_b) := by
  simp only [f41_n11111101, hide_eq]
  try kernel_rfl
theorem f41_n11111101_wp (b0 : Bool) (c1 : List V) (c2 : List V) (c3 : List V) (c4 : List V) (h : Heap) (Q : Ex → Fr → Heap → Prop) : wpA Try.prog f41_cf f41_n11111101 ⟨[V.undef, V.undef, (V.lp 2 0), (V.lp 3 0), (V.lp 4 0), V.undef, (V.lp 6 0), V.undef, V.undef, V.undef, V.undef, V.undef, V.undef, V.undef, V.undef, V.undef, V.undef, V.undef, V.undef, V.undef, V.undef, V.undef, V.undef, V.undef, V.undef, V.undef, V.undef, V.undef, V.undef, V.undef, V.undef, V.undef, V.undef, V.undef, V.undef, V.undef, V.undef, V.undef, V.undef, V.undef, V.undef, V.undef, V.undef, V.undef, V.undef, V.undef, V.undef, V.undef, V.undef, V.undef, V.undef, V.undef, V.undef, V.undef, V.undef, V.undef, V.undef, V.undef, V.undef, V.undef, V.undef, V.undef, V.undef, V.undef, V.undef, V.undef, V.undef, V.undef, V.undef, V.undef, V.undef, V.undef, V.undef, V.undef, V.undef, V.undef, V.undef, V.undef, V.undef, V.undef, V.undef, V.undef, V.undef, V.undef, V.undef, V.undef, V.undef, V.undef, V.undef, V.undef, V.undef, V.undef, V.undef, V.undef, V.undef, V.undef, (V.bool b0), V.undef, V.undef, V.undef, V.undef, V.undef, V.undef, V.undef, V.undef, V.undef, V.undef, V.undef, V.undef, V.undef, V.undef, V.undef, V.undef, V.undef, V.undef, V.undef, V.undef, V.undef, V.undef, V.undef, V.undef, V.undef, V.undef, V.undef, V.undef, V.undef, V.undef, V.undef, V.undef, V.undef, V.undef, V.undef, V.undef, V.undef, V.undef, V.undef, V.undef, V.undef, V.undef, V.undef], [(2, c1), (3, c2), (4, c3), (6, c4)]⟩ h Q =
 (brW b0
 ((0 + 49 ≤ (List.length c1)) ∧ (let cz76 : List V := (List.take 49 (List.drop 0 c1));
 (((List.length cz76) = 49) ∧ 0 + 49 ≤ (List.length c3) ∧ (Q Ex.ret ⟨[V.undef, V.undef, V.undef, V.undef, (V.lp 4 0), (V.int Go.IntKind.i64 (53 : Int)), V.undef, V.undef, V.undef, V.undef, V.undef, V.undef, V.undef, V.undef, V.undef, V.undef, V.undef, V.undef, V.undef, V.undef, V.undef, V.undef, V.undef, V.undef, V.undef, V.undef, V.undef, V.undef, V.undef, V.undef, V.undef, V.undef, V.undef, V.undef, V.undef, V.undef, V.undef, V.undef, V.undef, V.undef, V.undef, V.undef, V.undef, V.undef, V.undef, V.undef, V.undef, V.undef, V.undef, V.undef, V.undef, V.undef, V.undef, V.undef, V.undef, V.undef, V.undef, V.undef, V.undef, V.undef, V.undef, V.undef, V.undef, V.undef, V.undef, V.undef, V.undef, V.undef, V.undef, V.undef, V.undef, V.undef, V.undef, V.undef, V.undef, V.undef, V.undef, V.undef, V.undef, V.undef, V.undef, V.undef, V.undef, V.undef, V.undef, V.undef, V.undef, V.undef, V.undef, V.undef, V.undef, V.undef, V.undef, V.undef, V.undef, V.undef, V.undef, V.undef, V.undef, V.undef, V.undef, V.undef, V.undef, V.undef, V.undef, V.undef, V.undef, V.undef, V.undef, V.undef, V.undef, V.undef, V.undef, V.undef, V.undef, V.undef, V.undef, V.undef, V.undef, V.undef, V.undef, V.undef, V.undef, V.undef, V.undef, V.undef, V.undef, V.undef, V.undef, V.undef, V.undef, V.undef, V.undef, V.undef, V.undef, V.undef, V.undef, V.undef, V.undef, V.undef], [(4, (wrCells c3 0 cz76))]⟩ h))))
 (Q Ex.normal ⟨[V.undef, V.undef, (V.lp 2 0), (V.lp 3 0), (V.lp 4 0), V.undef, (V.lp 6 0), V.undef, V.undef, V.undef, V.undef, V.undef, V.undef, V.undef, V.undef, V.undef, V.undef, V.undef, V.undef, V.undef, V.undef, V.undef, V.undef, V.undef, V.undef, V.undef, V.undef, V.undef, V.undef, V.undef, V.undef, V.undef, V.undef, V.undef, V.undef, V.undef, V.undef, V.undef, V.undef, V.undef, V.undef, V.undef, V.undef, V.undef, V.undef, V.undef, V.undef, V.undef, V.undef, V.undef, V.undef, V.undef, V.undef, V.undef, V.undef, V.undef, V.undef, V.undef, V.undef, V.undef, V.undef, V.undef, V.undef, V.undef, V.undef, V.undef, V.undef, V.undef, V.undef, V.undef, V.undef, V.undef, V.undef, V.undef, V.undef, V.undef, V.undef, V.undef, V.undef, V.undef, V.undef, V.undef, V.undef, V.undef, V.undef, V.undef, V.undef, V.undef, V.undef, V.undef, V.undef, V.undef, V.undef, V.undef, V.undef, V.undef, (V.bool b0), V.undef, V.undef, V.undef, V.undef, V.undef, V.undef, V.undef, V.undef, V.undef, V.undef, V.undef, V.undef, V.undef, V.undef, V.undef, V.undef, V.undef, V.undef, V.undef, V.undef, V.undef, V.undef, V.undef, V.undef, V.undef, V.undef, V.undef, V.undef, V.undef, V.undef, V.undef, V.undef, V.undef, V.undef, V.undef, V.undef, V.undef, V.undef, V.undef, V.undef, V.undef, V.undef, V.undef], [(2, c1), (3, c2), (4, c3), (6, c4)]⟩ h)) := wpA_at f41_n11111101_plug (by kernel_rfl)
theorem f41_n1111111_plug : f41_n1111111 = (codeAt [1, 1, 1, 1, 1, 1, 1] f41_b) := by
  simp only [f41_n1111111, hide_eq]
  try kernel_rfl
theorem f41_n1111111_wp (b0 : Bool) (c1 : List V) (c2 : List V) (c3 : List V) (c4 : List V) (h : Heap) (Q : Ex → Fr → Heap → Prop) : wpA Try.prog f41_cf f41_n1111111 ⟨[V.undef, V.undef, (V.lp 2 0), (V.lp 3 0), (V.lp 4 0), V.undef, (V.lp 6 0), V.undef, V.undef, V.undef, V.undef, V.undef, V.undef, V.undef, V.undef, V.undef, V.undef, V.undef, V.undef, V.undef, V.undef, V.undef, V.undef, V.undef, V.undef, V.undef, V.undef, V.undef, V.undef, V.undef, V.undef, V.undef, V.undef, V.undef, V.undef, V.undef, V.undef, V.undef, V.undef, V.undef, V.undef, V.undef, V.undef, V.undef, V.undef, V.undef, V.undef, V.undef, V.undef, V.undef, V.undef, V.undef, V.undef, V.undef, V.undef, V.undef, V.undef, V.undef, V.undef, V.undef, V.undef, V.undef, V.undef, V.undef, V.undef, V.undef, V.undef, V.undef, V.undef, V.undef, V.undef, V.undef, V.undef, V.undef, V.undef, V.undef, V.undef, V.undef, V.undef, V.undef, V.undef, V.undef, V.undef, V.undef, V.undef, V.undef, V.undef, V.undef, V.undef, V.undef, V.undef, V.undef, V.undef, V.undef, V.undef, V.undef, (V.bool b0), V.undef, V.undef, V.undef, V.undef, V.undef, V.undef, V.undef, V.undef, V.undef, V.undef, V.undef, V.undef, V.undef, V.undef, V.undef, V.undef, V.undef, V.undef, V.undef, V.undef, V.undef, V.undef, V.undef, V.undef, V.undef, V.undef, V.undef, V.undef, V.undef, V.undef, V.undef, V.undef, V.undef, V.undef, V.undef, V.undef, V.undef, V.undef, V.undef, V.undef, V.undef, V.undef, V.undef], [(2, c1), (3, c2), (4, c3), (6, c4)]⟩ h Q =
 ((0 + 49 ≤ (List.length c4)) ∧ (let cz77 : List V := (List.take 49 (List.drop 0 c4));
 ((0 < (List.length c2) ∧ V.isInt Go.IntKind.i64 (gv c2 0) = true) ∧ ((2 < (List.length c2) ∧ V.isInt Go.IntKind.i64 (gv c2 2) = true) ∧ (let iz78 : Int := (Go.IntKind.wrap Go.IntKind.i64 (0 - (V.num (gv c2 2))));
 (AnyW Try.prog 59 [(V.agg cz77), (V.int Go.IntKind.i64 (V.num (gv c2 0))), (V.int Go.IntKind.i64 (1 : Int)), (V.int Go.IntKind.i64 iz78), (V.int Go.IntKind.i64 (0 : Int))] h (fun (rz79 : V) (hz80 : Heap) =>
 ((True ∧ V.isAgg 49 rz79 = true) ∧ (((List.length (V.cells rz79)) = 49) ∧ 0 + 49 ≤ (List.length c4) ∧ (let cz81 : List V := (wrCells c4 0 (V.cells rz79));
 ((0 + 49 ≤ (List.length cz81)) ∧ (let cz82 : List V := (List.take 49 (List.drop 0 cz81));
 ((1 < (List.length c2) ∧ V.isInt Go.IntKind.i64 (gv c2 1) = true) ∧ ((2 < (List.length c2) ∧ V.isInt Go.IntKind.i64 (gv c2 2) = true) ∧ (AnyW Try.prog 59 [(V.agg cz82), (V.int Go.IntKind.i64 (V.num (gv c2 1))), (V.int Go.IntKind.i64 (1 : Int)), (V.int Go.IntKind.i64 (V.num (gv c2 2))), (V.int Go.IntKind.i64 (0 : Int))] hz80 (fun (rz83 : V) (hz84 : Heap) =>
 ((True ∧ V.isAgg 49 rz83 = true) ∧ (((List.length (V.cells rz83)) = 49) ∧ 0 + 49 ≤ (List.length cz81) ∧ (let cz85 : List V := (wrCells cz81 0 (V.cells rz83));
 ((0 + 49 ≤ (List.length cz85)) ∧ (let cz86 : List V := (List.take 49 (List.drop 0 cz85));
 ((1 < (List.length c2) ∧ V.isInt Go.IntKind.i64 (gv c2 1) = true) ∧ ((3 < (List.length c2) ∧ V.isInt Go.IntKind.i64 (gv c2 3) = true) ∧ (let iz87 : Int := (Go.IntKind.wrap Go.IntKind.i64 (0 - (V.num (gv c2 3))));
 (AnyW Try.prog 59 [(V.agg cz86), (V.int Go.IntKind.i64 (V.num (gv c2 1))), (V.int Go.IntKind.i64 (2 : Int)), (V.int Go.IntKind.i64 iz87), (V.int Go.IntKind.i64 (0 : Int))] hz84 (fun (rz88 : V) (hz89 : Heap) =>
 ((True ∧ V.isAgg 49 rz88 = true) ∧ (((List.length (V.cells rz88)) = 49) ∧ 0 + 49 ≤ (List.length cz85) ∧ (let cz90 : List V := (wrCells cz85 0 (V.cells rz88));
 ((0 + 49 ≤ (List.length cz90)) ∧ (let cz91 : List V := (List.take 49 (List.drop 0 cz90));
 ((0 < (List.length c2) ∧ V.isInt Go.IntKind.i64 (gv c2 0) = true) ∧ ((3 < (List.length c2) ∧ V.isInt Go.IntKind.i64 (gv c2 3) = true) ∧ (AnyW Try.prog 59 [(V.agg cz91), (V.int Go.IntKind.i64 (V.num (gv c2 0))), (V.int Go.IntKind.i64 (2 : Int)), (V.int Go.IntKind.i64 (V.num (gv c2 3))), (V.int Go.IntKind.i64 (0 : Int))] hz89 (fun (rz92 : V) (hz93 : Heap) =>
 ((True ∧ V.isAgg 49 rz92 = true) ∧ (((List.length (V.cells rz92)) = 49) ∧ 0 + 49 ≤ (List.length cz90) ∧ (let cz94 : List V := (wrCells cz90 0 (V.cells rz92));
 ((0 + 49 ≤ (List.length cz94)) ∧ (let cz95 : List V := (List.take 49 (List.drop 0 cz94));
 ((0 < (List.length c2) ∧ V.isInt Go.IntKind.i64 (gv c2 0) = true) ∧ ((6 < (List.length c2) ∧ V.isInt Go.IntKind.i64 (gv c2 6) = true) ∧ ((2 < (List.length c2) ∧ V.isInt Go.IntKind.i64 (gv c2 2) = true) ∧ (AnyW Try.prog 60 [(V.agg cz95), (V.int Go.IntKind.i64 (V.num (gv c2 0))), (V.int Go.IntKind.i64 (V.num (gv c2 6))), (V.int Go.IntKind.i64 (V.num (gv c2 2)))] hz93 (fun (rz96 : V) (hz97 : Heap) =>
 ((True ∧ V.isAgg 49 rz96 = true) ∧ (((List.length (V.cells rz96)) = 49) ∧ 0 + 49 ≤ (List.length cz94) ∧ (let cz98 : List V := (wrCells cz94 0 (V.cells rz96));
 ((0 + 49 ≤ (List.length cz98)) ∧ (let cz99 : List V := (List.take 49 (List.drop 0 cz98));
 ((1 < (List.length c2) ∧ V.isInt Go.IntKind.i64 (gv c2 1) = true) ∧ ((7 < (List.length c2) ∧ V.isInt Go.IntKind.i64 (gv c2 7) = true) ∧ ((2 < (List.length c2) ∧ V.isInt Go.IntKind.i64 (gv c2 2) = true) ∧ (AnyW Try.prog 60 [(V.agg cz99), (V.int Go.IntKind.i64 (V.num (gv c2 1))), (V.int Go.IntKind.i64 (V.num (gv c2 7))), (V.int Go.IntKind.i64 (V.num (gv c2 2)))] hz97 (fun (rz100 : V) (hz101 : Heap) =>
 ((True ∧ V.isAgg 49 rz100 = true) ∧ (((List.length (V.cells rz100)) = 49) ∧ 0 + 49 ≤ (List.length c3) ∧ (let cz102 : List V := (wrCells c3 0 (V.cells rz100));
 (Q Ex.ret ⟨[V.undef, V.undef, V.undef, V.undef, (V.lp 4 0), (V.int Go.IntKind.i64 (0 : Int)), V.undef, V.undef, V.undef, V.undef, V.undef, V.undef, V.undef, V.undef, V.undef, V.undef, V.undef, V.undef, V.undef, V.undef, V.undef, V.undef, V.undef, V.undef, V.undef, V.undef, V.undef, V.undef, V.undef, V.undef, V.undef, V.undef, V.undef, V.undef, V.undef, V.undef, V.undef, V.undef, V.undef, V.undef, V.undef, V.undef, V.undef, V.undef, V.undef, V.undef, V.undef, V.undef, V.undef, V.undef, V.undef, V.undef, V.undef, V.undef, V.undef, V.undef, V.undef, V.undef, V.undef, V.undef, V.undef, V.undef, V.undef, V.undef, V.undef, V.undef, V.undef, V.undef, V.undef, V.undef, V.undef, V.undef, V.undef, V.undef, V.undef, V.undef, V.undef, V.undef, V.undef, V.undef, V.undef, V.undef, V.undef, V.undef, V.undef, V.undef, V.undef, V.undef, V.undef, V.undef, V.undef, V.undef, V.undef, V.undef, V.undef, V.undef, V.undef, V.undef, V.undef, V.undef, V.undef, V.undef, V.undef, V.undef, V.undef, V.undef, V.undef, V.undef, V.undef, V.undef, V.undef, V.undef, V.undef, V.undef, V.undef, V.undef, V.undef, V.undef, V.undef, V.undef, V.undef, V.undef, V.undef, V.undef, V.undef, V.undef, V.undef, V.undef, V.undef, V.undef, V.undef, V.undef, V.undef, V.undef, V.undef, V.undef, V.undef, V.undef, V.undef, V.undef], [(4, cz102)]⟩ hz101))))))))))))))))))))))))))))))))))))))))))))))))))))))))))) := wpA_at f41_n1111111_plug (by kernel_rfl)
theorem f41_end1 (x0 : Int) (c1 : List V) (h : Heap) (K : V → Heap → Prop) : bodyK Try.prog Try.f41 K Ex.ret ⟨[V.undef, V.undef, V.undef, V.undef, (V.lp 4 0), (V.int Go.IntKind.i64 x0), V.undef, V.undef, V.undef, V.undef, V.undef, V.undef, V.undef, V.undef, V.undef, V.undef, V.undef, V.undef, V.undef, V.undef, V.undef, V.undef, V.undef, V.undef, V.undef, V.undef, V.undef, V.undef, V.undef, V.undef, V.undef, V.undef, V.undef, V.undef, V.undef, V.undef, V.undef, V.undef, V.undef, V.undef, V.undef, V.undef, V.undef, V.undef, V.undef, V.undef, V.undef, V.undef, V.undef, V.undef, V.undef, V.undef, V.undef, V.undef, V.undef, V.undef, V.undef, V.undef, V.undef, V.undef, V.undef, V.undef, V.undef, V.undef, V.undef, V.undef, V.undef, V.undef, V.undef, V.undef, V.undef, V.undef, V.undef, V.undef, V.undef, V.undef, V.undef, V.undef, V.undef, V.undef, V.undef, V.undef, V.undef, V.undef, V.undef, V.undef, V.undef, V.undef, V.undef, V.undef, V.undef, V.undef, V.undef, V.undef, V.undef, V.undef, V.undef, V.undef, V.undef, V.undef, V.undef, V.undef, V.undef, V.undef, V.undef, V.undef, V.undef, V.undef, V.undef, V.undef, V.undef, V.undef, V.undef, V.undef, V.undef, V.undef, V.undef, V.undef, V.undef, V.undef, V.undef, V.undef, V.undef, V.undef, V.undef, V.undef, V.undef, V.undef, V.undef, V.undef, V.undef, V.undef, V.undef, V.undef, V.undef, V.undef, V.undef, V.undef, V.undef, V.undef], [(4, c1)]⟩ h = ((0 + 49 ≤ (List.length c1)) ∧ (let cz103 : List V := (List.take 49 (List.drop 0 c1));
 (K (V.tup [(V.agg cz103), (V.int Go.IntKind.i64 x0)]) h))) := by kernel_rfl
end

section
open Go Go.Proofs Jb
set_option linter.unusedSimpArgs false
set_option maxRecDepth 4000

theorem e40 : enters Try.prog 40 = true := by kernel_rfl
theorem refRelease_len (t : List Int) (x s n : Int) : (refRelease t x s n).1.length = t.length := by unfold refRelease; split <;> (try split) <;> simp [putT]
theorem oweT_len (t : List Int) (b : Nat) (f v : Int) : (oweT t b f v).length = t.length := by simp [oweT]
theorem refRelease_any {t : List Int} (ht : t.length = 49) {x s n : Int} {h : Heap} {K : V → Heap → Prop} (m : K (.tup [.agg (ints (refRelease t x s n).1), .int .i64 (refRelease t x s n).2]) h) : AnyW Try.prog 40 [.agg (ints t), .int .i64 x, .int .i64 s, .int .i64 n] h K := AnyW.eq e40 (refRelease_call t ht x s n h) m

def refSettle (t : List Int) (x : Int) : List Int × Int × Int :=
  if isA x 1 = false then (t, 0, 2) else
  let b := x.toNat * 6
  if gi t (b + 4) = 0 then (t, 0, 51) else
  let n := if free t x 1 < gi t (b + 4) then free t x 1 else gi t (b + 4)
  if n = 0 then (t, 0, 53) else
  let t1 := putT t x 1 (IntKind.i64.wrap (0 - n)) 0
  let t2 := t1.set (b + 4) (IntKind.i64.wrap (gi t1 (b + 4) - n))
  (t2.set 48 (IntKind.i64.wrap (gi t2 48 + n)), n, 0)

theorem refSettle_call (t : List Int) (ht : t.length = 49) (x : Int) (h : Heap) : CallW Try.prog 43 [.agg (ints t), .int .i64 x] h (fun r h' => r = .tup [.agg (ints (refSettle t x).1), .int .i64 (refSettle t x).2.1, .int .i64 (refSettle t x).2.2] ∧ h' = h) := by
  refine CallW.body mix f43_cf Try.func43 (by rw [Try.ntmps43]; simp) ?_
  rw [f43_entry, f43_n_wp]
  refine ⟨by simp [ht], trivial, may_any ?_⟩
  unfold refSettle
  cases hi : isA x 1 with
  | false => simp [f43_end1, ht, take_all, wr_all]
  | true =>
    have hx := isA_iff.1 hi
    have hb : x.toNat * 6 + 5 < 48 := by omega
    simp only [isBool_bool, flag_bool, Bool.not_true, brW_false, true_and, Nat.zero_add, ints_len, ht, ints_isInt, ints_num, List.drop_zero, take_all ht]
    by_cases h1 : gi t (x.toNat * 6 + 4) = 0
    · simp [h1, ht, f43_end1, take_all, wr_all, hx, show x.toNat * 6 + 4 < 49 from by omega]
    · simp [h1, beq_dec, ht, hx, show x.toNat * 6 + 4 < 49 from by omega]
      refine refFree_any ht ?_
      by_cases hlt : free t x 1 < gi t (x.toNat * 6 + 4)
      · by_cases h2 : free t x 1 = 0
        · rw [h2] at hlt
          simp [h1, h2, hlt, ht, f43_end1, take_all, wr_all]
        · simp [h1, h2, hlt, ht]
          refine put_any ht ⟨hx.1, hx.2.1⟩ ?_
          have l : ∀ a b : Int, (putT t x 1 a b).length = 49 := fun a b => by rw [putT_len, ht]
          have w : ∀ a b : Int, wrCells (ints t) 0 (ints (putT t x 1 a b)) = ints (putT t x 1 a b) := fun a b => wr_all _ (by simp [ht]) (l a b)
          simp [h1, h2, hlt, l, w, ht, hx, show x.toNat ≤ 7 from by omega, show x.toNat * 6 ≤ 44 from by omega, show x.toNat * 6 + 4 < 49 from by omega, ints_wr1, f43_end1, take_all, wr_all]
      · by_cases h2 : gi t (x.toNat * 6 + 4) = 0
        · exact (h1 h2).elim
        simp [h1, hlt, ht]
        refine put_any ht ⟨hx.1, hx.2.1⟩ ?_
        have l : ∀ a b : Int, (putT t x 1 a b).length = 49 := fun a b => by rw [putT_len, ht]
        have w : ∀ a b : Int, wrCells (ints t) 0 (ints (putT t x 1 a b)) = ints (putT t x 1 a b) := fun a b => wr_all _ (by simp [ht]) (l a b)
        simp [h1, hlt, l, w, ht, hx, show x.toNat ≤ 7 from by omega, show x.toNat * 6 ≤ 44 from by omega, show x.toNat * 6 + 4 < 49 from by omega, ints_wr1, f43_end1, take_all, wr_all]

def refTrade (t d : List Int) : List Int × Int :=
  if isA (gi d 0) 1 = false ∨ isA (gi d 1) 1 = false ∨ fineD d = false then (t, 2) else
  let r1 := refRelease t (gi d 0) 1 (gi d 4)
  if r1.2 ≠ 0 then (t, r1.2) else
  let r2 := refRelease r1.1 (gi d 1) 2 (gi d 5)
  if r2.2 ≠ 0 then (t, r2.2) else
  if free r2.1 (gi d 0) 1 < gi d 2 ∨ free r2.1 (gi d 1) 2 < gi d 3 then (t, 53) else
  let x1 := putT r2.1 (gi d 0) 1 (IntKind.i64.wrap (0 - gi d 2)) 0
  let x2 := putT x1 (gi d 1) 1 (gi d 2) 0
  let x3 := putT x2 (gi d 1) 2 (IntKind.i64.wrap (0 - gi d 3)) 0
  let x4 := putT x3 (gi d 0) 2 (gi d 3) 0
  let x5 := oweT x4 ((gi d 0).toNat * 6) (gi d 6) (gi d 2)
  (oweT x5 ((gi d 1).toNat * 6) (gi d 7) (gi d 2), 0)

theorem fineD_eight (d : List Int) (hd : d.length = 8) : fineD d = (fine1 (gi d 2) && (fine1 (gi d 3) && (fine1 (gi d 4) && (fine1 (gi d 5) && (fine1 (gi d 6) && fine1 (gi d 7)))))) := by
  match d, hd with
  | [a, b, c, d, e, f, g, h], _ => simp [fineD]

theorem refTrade_call (t d : List Int) (ht : t.length = 49) (hd : d.length = 8) (h : Heap) : CallW Try.prog 41 [.agg (ints t), .agg (ints d)] h (fun r h' => r = .tup [.agg (ints (refTrade t d).1), .int .i64 (refTrade t d).2] ∧ h' = h) := by
  refine CallW.body mix f41_cf Try.func41 (by rw [Try.ntmps41]; simp) ?_
  rw [f41_entry, f41_n_wp]
  generalize hK : (fun (r : V) (h' : Heap) => r = .tup [.agg (ints (refTrade t d).1), .int .i64 (refTrade t d).2] ∧ h' = h) = K
  have hk : ∀ t' e, refTrade t d = (t', e) → K (.tup [.agg (ints t'), .int .i64 e]) h := fun t' e eq => by rw [← hK, eq]; exact ⟨rfl, rfl⟩
  unfold refTrade at hk
  refine ⟨by simp [ht], by simp [hd], trivial, ?_⟩
  rw [f41_n1_eq, wpA_seq, f41_n10_eq, wpA_seq, f41_n100_wp]
  simp only [ints_len, hd, ints_isInt, ints_num]
  refine ⟨by simp, may_any ?_⟩
  have bad : (isA (gi d 0) 1 = false ∨ isA (gi d 1) 1 = false ∨ fineD d = false) → K (.tup [.agg (ints t), .int .i64 2]) h := fun c => hk _ _ (if_pos c)
  rw [fineD_eight d hd] at bad
  cases h1 : isA (gi d 0) 1 with
  | false => simp [f41_n101_wp, ht, f41_end1, take_all, wr_all]; exact bad (.inl h1)
  | true =>
  simp [hd]
  refine may_any ?_
  cases h2 : isA (gi d 1) 1 with
  | false => simp [f41_n101_wp, ht, f41_end1, take_all, wr_all]; exact bad (.inr (.inl h2))
  | true =>
  simp [hd]
  refine refFine_any ?_
  cases g2 : fine1 (gi d 2) with
  | false => simp [f41_n101_wp, ht, f41_end1, take_all, wr_all]; exact bad (.inr (.inr (by simp [g2])))
  | true =>
  simp [hd]
  refine refFine_any ?_
  cases g3 : fine1 (gi d 3) with
  | false => simp [f41_n101_wp, ht, f41_end1, take_all, wr_all]; exact bad (.inr (.inr (by simp [g3])))
  | true =>
  simp [hd]
  refine refFine_any ?_
  cases g4 : fine1 (gi d 4) with
  | false => simp [f41_n101_wp, ht, f41_end1, take_all, wr_all]; exact bad (.inr (.inr (by simp [g4])))
  | true =>
  simp [hd]
  refine refFine_any ?_
  cases g5 : fine1 (gi d 5) with
  | false => simp [f41_n101_wp, ht, f41_end1, take_all, wr_all]; exact bad (.inr (.inr (by simp [g5])))
  | true =>
  simp [hd]
  refine refFine_any ?_
  cases g6 : fine1 (gi d 6) with
  | false => simp [f41_n101_wp, ht, f41_end1, take_all, wr_all]; exact bad (.inr (.inr (by simp [g6])))
  | true =>
  simp [hd]
  refine refFine_any ?_
  cases g7 : fine1 (gi d 7) with
  | false => simp [f41_n101_wp, ht, f41_end1, take_all, wr_all]; exact bad (.inr (.inr (by simp [g7])))
  | true =>
  clear bad
  have h3 : fineD d = true := by rw [fineD_eight d hd]; simp [g2, g3, g4, g5, g6, g7]
  have x1 := isA_iff.1 h1
  have x2 := isA_iff.1 h2
  rw [if_neg (by simp [h1, h2, h3])] at hk
  simp only [isBool_bool, flag_bool, Bool.not_true, cond_false, seqK_normal, f41_n101_wp, brW_false, f41_n11_wp, true_and, ints_len, ht, hd, List.drop_zero, take_all ht, ints_isInt, ints_num]
  refine ⟨by omega, by simp, by simp, refRelease_any ht ?_⟩
  have l1 : (refRelease t (gi d 0) 1 (gi d 4)).1.length = 49 := by rw [refRelease_len, ht]
  have w1 : ∀ (cs : List V) (l : List Int), cs.length = 49 → l.length = 49 → wrCells cs 0 (ints l) = ints l := fun cs l a b => wr_all l a b
  generalize hr1 : refRelease t (gi d 0) 1 (gi d 4) = r1 at *
  simp only [isTup_tup, vs_tup, gv_zero, gv_succ, isInt_i64, num_int, cells_agg, isAgg_agg, true_and, List.length_cons, List.length_nil, decide_true, ints_len, l1, bne_dec]
  by_cases c1 : r1.2 = 0
  · rw [if_neg (by simp [c1])] at hk
    simp only [c1, decide_true, Bool.not_true, brW_false]
    refine ⟨by omega, ?_⟩
    rw [w1 _ r1.1 (by rfl) l1]
    simp only [ints_len, l1, List.drop_zero, take_all l1]
    refine ⟨by omega, by simp, by simp, refRelease_any l1 ?_⟩
    have l2 : (refRelease r1.1 (gi d 1) 2 (gi d 5)).1.length = 49 := by rw [refRelease_len, l1]
    generalize hr2 : refRelease r1.1 (gi d 1) 2 (gi d 5) = r2 at *
    simp only [isTup_tup, vs_tup, gv_zero, gv_succ, isInt_i64, num_int, cells_agg, isAgg_agg, true_and, List.length_cons, List.length_nil, decide_true, ints_len, l2, l1, bne_dec]
    by_cases c2 : r2.2 = 0
    · rw [if_neg (by simp [c2])] at hk
      simp only [c2, decide_true, Bool.not_true, brW_false, w1 (ints r1.1) r2.1 (by simp [l1]) l2]
      refine ⟨by omega, ?_⟩
      rw [f41_n111111_eq, wpA_seq, f41_n1111110_eq, wpA_seq, f41_n11111100_wp]
      simp only [ints_len, hd, l2, ints_isInt, ints_num, List.drop_zero, take_all l2]
      refine ⟨by omega, by simp, by simp, refFree_any l2 ?_⟩
      by_cases c3 : free r2.1 (gi d 0) 1 < gi d 2
      · rw [if_pos (.inl c3)] at hk
        simp [c3, hd, f41_n11111101_wp, ht, f41_end1, take_all, wr_all]
        exact hk _ _ rfl
      · simp [c3, hd, l2]
        refine refFree_any l2 ?_
        by_cases c4 : free r2.1 (gi d 1) 2 < gi d 3
        · rw [if_pos (.inr c4)] at hk
          simp [c4, hd, f41_n11111101_wp, ht, f41_end1, take_all, wr_all]
          exact hk _ _ rfl
        · rw [if_neg (by rintro (h | h) <;> contradiction)] at hk
          simp only [isInt_i64, num_int, c4, decide_false, true_and, cond_false, seqK_normal, f41_n11111101_wp, brW_false, f41_n1111111_wp, ints_len, hd, l2, ints_isInt, ints_num, List.drop_zero, take_all l2]
          dsimp only at hk
          refine ⟨by simp, by simp, by simp, put_any l2 ⟨x1.1, x1.2.1⟩ ?_⟩
          have lp1 : (putT r2.1 (gi d 0) 1 (IntKind.i64.wrap (0 - gi d 2)) 0).length = 49 := by rw [putT_len, l2]
          generalize putT r2.1 (gi d 0) 1 (IntKind.i64.wrap (0 - gi d 2)) 0 = p1 at *
          simp only [cells_agg, isAgg_agg, ints_len, lp1, decide_true, true_and, w1 (ints r2.1) p1 (by simp [l2]) lp1, List.drop_zero, take_all lp1]
          refine ⟨by simp, by simp, by simp, by simp, put_any lp1 ⟨x2.1, x2.2.1⟩ ?_⟩
          have lp2 : (putT p1 (gi d 1) 1 (gi d 2) 0).length = 49 := by rw [putT_len, lp1]
          generalize putT p1 (gi d 1) 1 (gi d 2) 0 = p2 at *
          simp only [cells_agg, isAgg_agg, ints_len, lp2, decide_true, true_and, w1 (ints p1) p2 (by simp [lp1]) lp2, List.drop_zero, take_all lp2]
          refine ⟨by simp, by simp, by simp, by simp, put_any lp2 ⟨x2.1, x2.2.1⟩ ?_⟩
          have lp3 : (putT p2 (gi d 1) 2 (IntKind.i64.wrap (0 - gi d 3)) 0).length = 49 := by rw [putT_len, lp2]
          generalize putT p2 (gi d 1) 2 (IntKind.i64.wrap (0 - gi d 3)) 0 = p3 at *
          simp only [cells_agg, isAgg_agg, ints_len, lp3, decide_true, true_and, w1 (ints p2) p3 (by simp [lp2]) lp3, List.drop_zero, take_all lp3]
          refine ⟨by simp, by simp, by simp, by simp, put_any lp3 ⟨x1.1, x1.2.1⟩ ?_⟩
          have lp4 : (putT p3 (gi d 0) 2 (gi d 3) 0).length = 49 := by rw [putT_len, lp3]
          generalize putT p3 (gi d 0) 2 (gi d 3) 0 = p4 at *
          simp only [cells_agg, isAgg_agg, ints_len, lp4, decide_true, true_and, w1 (ints p3) p4 (by simp [lp3]) lp4, List.drop_zero, take_all lp4]
          refine ⟨by simp, by simp, by simp, by simp, by simp, refOwe_any lp4 ⟨x1.1, x1.2.1⟩ ?_⟩
          have lp5 : (oweT p4 ((gi d 0).toNat * 6) (gi d 6) (gi d 2)).length = 49 := by rw [oweT_len, lp4]
          generalize oweT p4 ((gi d 0).toNat * 6) (gi d 6) (gi d 2) = p5 at *
          simp only [cells_agg, isAgg_agg, ints_len, lp5, decide_true, true_and, w1 (ints p4) p5 (by simp [lp4]) lp5, List.drop_zero, take_all lp5]
          refine ⟨by simp, by simp, by simp, by simp, by simp, refOwe_any lp5 ⟨x2.1, x2.2.1⟩ ?_⟩
          have lp6 : (oweT p5 ((gi d 1).toNat * 6) (gi d 7) (gi d 2)).length = 49 := by rw [oweT_len, lp5]
          generalize oweT p5 ((gi d 1).toNat * 6) (gi d 7) (gi d 2) = p6 at *
          simp only [cells_agg, isAgg_agg, ints_len, lp6, decide_true, true_and, w1 (ints p5) p6 (by simp [lp5]) lp6, List.drop_zero, take_all lp6]
          simp [lp6, ht, f41_end1, take_all, wr_all]
          exact hk _ _ rfl
    · rw [if_pos c2] at hk
      simp [c2, ht, f41_end1, take_all, wr_all]
      exact hk _ _ rfl
  · rw [if_pos c1] at hk
    simp [c1, ht, f41_end1, take_all, wr_all]
    exact hk _ _ rfl
end

section
set_option linter.all false
set_option maxRecDepth 100000
open Go Go.Proofs Jb
def f7_cf : Cfg := ⟨[], [(0, [0]), (2, [5, 6, 7]), (5, [9, 10]), (6, [4, 11, 12, 13, 14, 15, 16, 17]), (7, [18]), (8, [1, 3, 8, 9, 19])]⟩
noncomputable def f7_b : Code := bodyOf Try.f7
noncomputable def f7_n : Code :=  (codeAt [] f7_b)
noncomputable def f7_n111 : Code := hide (codeAt [1, 1, 1] f7_b)
noncomputable def f7_n1110 : Code := hide (codeAt [1, 1, 1, 0] f7_b)
noncomputable def f7_n111010 : Code := hide (codeAt [1, 1, 1, 0, 1, 0] f7_b)
noncomputable def f7_n1110100 : Code := hide (codeAt [1, 1, 1, 0, 1, 0, 0] f7_b)
noncomputable def f7_n1111 : Code := hide (codeAt [1, 1, 1, 1] f7_b)
theorem f7_entry (t : List Int) (h : Heap) (K : V → Heap → Prop) : bodyW Try.prog f7_cf Try.f7 [(V.agg (ints t))] h K = wpA Try.prog f7_cf f7_n ⟨[(V.agg (ints t)), V.undef, V.undef, V.undef, V.undef, V.undef, V.undef, V.undef, V.undef, V.undef, V.undef, V.undef, V.undef, V.undef, V.undef, V.undef, V.undef, V.undef, V.undef, V.undef], []⟩ h (bodyK Try.prog Try.f7 K) := by kernel_rfl
theorem f7_n_plug : f7_n = (plug [1, 1, 1] (codeAt [] f7_b) f7_n111) := by
  simp only [f7_n, f7_n111, hide_eq]
  try kernel_rfl
theorem f7_n_wp (t : List Int) (h : Heap) (Q : Ex → Fr → Heap → Prop) : wpA Try.prog f7_cf f7_n ⟨[(V.agg (ints t)), V.undef, V.undef, V.undef, V.undef, V.undef, V.undef, V.undef, V.undef, V.undef, V.undef, V.undef, V.undef, V.undef, V.undef, V.undef, V.undef, V.undef, V.undef, V.undef], []⟩ h Q =
 (((List.length (ints t)) = 49) ∧ (True ∧ (True ∧ ((48 < (List.length (ints t)) ∧ V.isInt Go.IntKind.i64 (gv (ints t) 48) = true) ∧ (True ∧ 48 + 1 ≤ 49 ∧ (wpA Try.prog f7_cf f7_n111 ⟨[V.undef, (V.lp 1 0), (V.lp 2 0), (V.lp 3 0), V.undef, V.undef, V.undef, V.undef, V.undef, V.undef, V.undef, V.undef, V.undef, V.undef, V.undef, V.undef, V.undef, V.undef, V.undef, V.undef], [(1, (ints t)), (2, [(V.int Go.IntKind.i64 (0 : Int)), (V.int Go.IntKind.i64 (0 : Int)), (V.int Go.IntKind.i64 (0 : Int)), (V.int Go.IntKind.i64 (0 : Int)), (V.int Go.IntKind.i64 (0 : Int)), (V.int Go.IntKind.i64 (0 : Int)), (V.int Go.IntKind.i64 (0 : Int)), (V.int Go.IntKind.i64 (0 : Int)), (V.int Go.IntKind.i64 (0 : Int)), (V.int Go.IntKind.i64 (0 : Int)), (V.int Go.IntKind.i64 (0 : Int)), (V.int Go.IntKind.i64 (0 : Int)), (V.int Go.IntKind.i64 (0 : Int)), (V.int Go.IntKind.i64 (0 : Int)), (V.int Go.IntKind.i64 (0 : Int)), (V.int Go.IntKind.i64 (0 : Int)), (V.int Go.IntKind.i64 (0 : Int)), (V.int Go.IntKind.i64 (0 : Int)), (V.int Go.IntKind.i64 (0 : Int)), (V.int Go.IntKind.i64 (0 : Int)), (V.int Go.IntKind.i64 (0 : Int)), (V.int Go.IntKind.i64 (0 : Int)), (V.int Go.IntKind.i64 (0 : Int)), (V.int Go.IntKind.i64 (0 : Int)), (V.int Go.IntKind.i64 (0 : Int)), (V.int Go.IntKind.i64 (0 : Int)), (V.int Go.IntKind.i64 (0 : Int)), (V.int Go.IntKind.i64 (0 : Int)), (V.int Go.IntKind.i64 (0 : Int)), (V.int Go.IntKind.i64 (0 : Int)), (V.int Go.IntKind.i64 (0 : Int)), (V.int Go.IntKind.i64 (0 : Int)), (V.int Go.IntKind.i64 (0 : Int)), (V.int Go.IntKind.i64 (0 : Int)), (V.int Go.IntKind.i64 (0 : Int)), (V.int Go.IntKind.i64 (0 : Int)), (V.int Go.IntKind.i64 (0 : Int)), (V.int Go.IntKind.i64 (0 : Int)), (V.int Go.IntKind.i64 (0 : Int)), (V.int Go.IntKind.i64 (0 : Int)), (V.int Go.IntKind.i64 (0 : Int)), (V.int Go.IntKind.i64 (0 : Int)), (V.int Go.IntKind.i64 (0 : Int)), (V.int Go.IntKind.i64 (0 : Int)), (V.int Go.IntKind.i64 (0 : Int)), (V.int Go.IntKind.i64 (0 : Int)), (V.int Go.IntKind.i64 (0 : Int)), (V.int Go.IntKind.i64 (0 : Int)), (V.int Go.IntKind.i64 (0 : Int))]), (3, [(V.int Go.IntKind.i64 (0 : Int)), (V.int Go.IntKind.i64 (0 : Int)), (V.int Go.IntKind.i64 (0 : Int)), (V.int Go.IntKind.i64 (0 : Int)), (V.int Go.IntKind.i64 (0 : Int)), (V.int Go.IntKind.i64 (0 : Int)), (V.int Go.IntKind.i64 (0 : Int)), (V.int Go.IntKind.i64 (0 : Int)), (V.int Go.IntKind.i64 (0 : Int)), (V.int Go.IntKind.i64 (0 : Int)), (V.int Go.IntKind.i64 (0 : Int)), (V.int Go.IntKind.i64 (0 : Int)), (V.int Go.IntKind.i64 (0 : Int)), (V.int Go.IntKind.i64 (0 : Int)), (V.int Go.IntKind.i64 (0 : Int)), (V.int Go.IntKind.i64 (0 : Int)), (V.int Go.IntKind.i64 (0 : Int)), (V.int Go.IntKind.i64 (0 : Int)), (V.int Go.IntKind.i64 (0 : Int)), (V.int Go.IntKind.i64 (0 : Int)), (V.int Go.IntKind.i64 (0 : Int)), (V.int Go.IntKind.i64 (0 : Int)), (V.int Go.IntKind.i64 (0 : Int)), (V.int Go.IntKind.i64 (0 : Int)), (V.int Go.IntKind.i64 (0 : Int)), (V.int Go.IntKind.i64 (0 : Int)), (V.int Go.IntKind.i64 (0 : Int)), (V.int Go.IntKind.i64 (0 : Int)), (V.int Go.IntKind.i64 (0 : Int)), (V.int Go.IntKind.i64 (0 : Int)), (V.int Go.IntKind.i64 (0 : Int)), (V.int Go.IntKind.i64 (0 : Int)), (V.int Go.IntKind.i64 (0 : Int)), (V.int Go.IntKind.i64 (0 : Int)), (V.int Go.IntKind.i64 (0 : Int)), (V.int Go.IntKind.i64 (0 : Int)), (V.int Go.IntKind.i64 (0 : Int)), (V.int Go.IntKind.i64 (0 : Int)), (V.int Go.IntKind.i64 (0 : Int)), (V.int Go.IntKind.i64 (0 : Int)), (V.int Go.IntKind.i64 (0 : Int)), (V.int Go.IntKind.i64 (0 : Int)), (V.int Go.IntKind.i64 (0 : Int)), (V.int Go.IntKind.i64 (0 : Int)), (V.int Go.IntKind.i64 (0 : Int)), (V.int Go.IntKind.i64 (0 : Int)), (V.int Go.IntKind.i64 (0 : Int)), (V.int Go.IntKind.i64 (0 : Int)), (V.int Go.IntKind.i64 (V.num (gv (ints t) 48)))])]⟩ h Q)))))) := wpA_at f7_n_plug (by kernel_rfl)
theorem f7_n111_eq : f7_n111 = Code.seq f7_n1110 f7_n1111 := by
  simp only [f7_n111, f7_n1110, f7_n1111, hide_eq]
  kernel_rfl
theorem f7_n1110_plug : f7_n1110 = (plug [1, 0] (codeAt [1, 1, 1, 0] f7_b) f7_n111010) := by
  simp only [f7_n1110, f7_n111010, hide_eq]
  try kernel_rfl
theorem f7_n1110_wp (c0 : List V) (c1 : List V) (c2 : List V) (h : Heap) (Q : Ex → Fr → Heap → Prop) : wpA Try.prog f7_cf f7_n1110 ⟨[V.undef, (V.lp 1 0), (V.lp 2 0), (V.lp 3 0), V.undef, V.undef, V.undef, V.undef, V.undef, V.undef, V.undef, V.undef, V.undef, V.undef, V.undef, V.undef, V.undef, V.undef, V.undef, V.undef], [(1, c0), (2, c1), (3, c2)]⟩ h Q =
 (wpA Try.prog f7_cf f7_n111010 ⟨[V.undef, (V.lp 1 0), (V.lp 2 0), (V.lp 3 0), V.undef, V.undef, V.undef, V.undef, (V.int Go.IntKind.i64 (0 : Int)), V.undef, V.undef, V.undef, V.undef, V.undef, V.undef, V.undef, V.undef, V.undef, V.undef, V.undef], [(1, c0), (2, c1), (3, c2)]⟩ h (blockK 0 Q)) := wpA_at f7_n1110_plug (by kernel_rfl)
theorem f7_n111010_eq : f7_n111010 = Code.loop f7_n1110100 := by
  simp only [f7_n111010, f7_n1110100, hide_eq]
  kernel_rfl
def f7_n1110100_F (x0 : Int) (c1 : List V) (c2 : List V) (c3 : List V) : Fr := ⟨[V.undef, (V.lp 1 0), (V.lp 2 0), (V.lp 3 0), V.undef, V.undef, V.undef, V.undef, (V.int Go.IntKind.i64 x0), V.undef, V.undef, V.undef, V.undef, V.undef, V.undef, V.undef, V.undef, V.undef, V.undef, V.undef], [(1, c1), (2, c2), (3, c3)]⟩
theorem f7_n1110100_plug : f7_n1110100 = (codeAt [1, 1, 1, 0, 1, 0, 0] f7_b) := by
  simp only [f7_n1110100, hide_eq]
  try kernel_rfl
theorem f7_n1110100_wp (x0 : Int) (c1 : List V) (c2 : List V) (c3 : List V) (h : Heap) (Q : Ex → Fr → Heap → Prop) : wpA Try.prog f7_cf f7_n1110100 ⟨[V.undef, (V.lp 1 0), (V.lp 2 0), (V.lp 3 0), V.undef, V.undef, V.undef, V.undef, (V.int Go.IntKind.i64 x0), V.undef, V.undef, V.undef, V.undef, V.undef, V.undef, V.undef, V.undef, V.undef, V.undef, V.undef], [(1, c1), (2, c2), (3, c3)]⟩ h Q =
 (let bz1 : Bool := (decide (x0 < (8 : Int)));
 (brW bz1
 ((0 ≤ x0 ∧ x0 < 8) ∧ (((0 + ((Int.toNat x0) * 6)) + 6 ≤ (List.length c1)) ∧ (let cz2 : List V := (List.take 6 (List.drop (0 + ((Int.toNat x0) * 6)) c1));
 ((0 ≤ x0 ∧ x0 < 8) ∧ (((List.length cz2) = 6) ∧ (0 + ((Int.toNat x0) * 6)) + 6 ≤ (List.length c3) ∧ (let cz3 : List V := (wrCells c3 (0 + ((Int.toNat x0) * 6)) cz2);
 (let iz4 : Int := (Go.IntKind.wrap Go.IntKind.i64 (x0 + (1 : Int)));
 (Q Ex.normal ⟨[V.undef, (V.lp 1 0), (V.lp 2 0), (V.lp 3 0), V.undef, V.undef, V.undef, V.undef, (V.int Go.IntKind.i64 iz4), V.undef, V.undef, V.undef, V.undef, V.undef, V.undef, V.undef, V.undef, V.undef, V.undef, V.undef], [(1, c1), (2, c2), (3, cz3)]⟩ h))))))))
 (Q (Ex.exit 0) ⟨[V.undef, (V.lp 1 0), (V.lp 2 0), (V.lp 3 0), V.undef, V.undef, V.undef, V.undef, (V.int Go.IntKind.i64 x0), (V.bool bz1), V.undef, V.undef, V.undef, V.undef, V.undef, V.undef, V.undef, V.undef, V.undef, V.undef], [(1, c1), (2, c2), (3, c3)]⟩ h))) := wpA_at f7_n1110100_plug (by kernel_rfl)
theorem f7_n1111_plug : f7_n1111 = (codeAt [1, 1, 1, 1] f7_b) := by
  simp only [f7_n1111, hide_eq]
  try kernel_rfl
theorem f7_n1111_wp (x0 : Int) (b1 : Bool) (c2 : List V) (c3 : List V) (c4 : List V) (h : Heap) (Q : Ex → Fr → Heap → Prop) : wpA Try.prog f7_cf f7_n1111 ⟨[V.undef, (V.lp 1 0), (V.lp 2 0), (V.lp 3 0), V.undef, V.undef, V.undef, V.undef, (V.int Go.IntKind.i64 x0), (V.bool b1), V.undef, V.undef, V.undef, V.undef, V.undef, V.undef, V.undef, V.undef, V.undef, V.undef], [(1, c2), (2, c3), (3, c4)]⟩ h Q =
 ((0 + 49 ≤ (List.length c4)) ∧ (let cz5 : List V := (List.take 49 (List.drop 0 c4));
 (((List.length cz5) = 49) ∧ 0 + 49 ≤ (List.length c3) ∧ (Q Ex.ret ⟨[V.undef, V.undef, (V.lp 2 0), V.undef, V.undef, V.undef, V.undef, V.undef, V.undef, V.undef, V.undef, V.undef, V.undef, V.undef, V.undef, V.undef, V.undef, V.undef, V.undef, V.undef], [(2, (wrCells c3 0 cz5))]⟩ h)))) := wpA_at f7_n1111_plug (by kernel_rfl)
theorem f7_end1 (c0 : List V) (h : Heap) (K : V → Heap → Prop) : bodyK Try.prog Try.f7 K Ex.ret ⟨[V.undef, V.undef, (V.lp 2 0), V.undef, V.undef, V.undef, V.undef, V.undef, V.undef, V.undef, V.undef, V.undef, V.undef, V.undef, V.undef, V.undef, V.undef, V.undef, V.undef, V.undef], [(2, c0)]⟩ h = ((0 + 49 ≤ (List.length c0)) ∧ (let cz6 : List V := (List.take 49 (List.drop 0 c0));
 (K (V.agg cz6) h))) := by kernel_rfl
end
