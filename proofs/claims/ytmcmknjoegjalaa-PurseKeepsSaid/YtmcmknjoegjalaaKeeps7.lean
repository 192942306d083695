/- Proved here: of Keeps7, that what the Go functions of this part compute is as their contracts say (texts S5, Pk, JbZ), for every input; no condition beyond those that each theorem states. -/
import Derived.Test.YtmcmknjoegjalaaKeeps2
import Derived.KernelRfl
import Derived.Test.YtmcmknjoegjalaaProg
import Derived.Test.YtmcmknjoegjalaaKeeps6
import Derived.WalkKit
import Derived.ProofKit
import Derived.OpenShut
import Derived.ChangeArms
import Derived.WideKeyArgs
import Derived.RowKit3
import Derived.Handed
set_option linter.all false
section
set_option linter.all false
set_option maxRecDepth 100000
open Go Go.Proofs Jb
def f5_cf : Cfg := ⟨[], [(0, [0, 4]), (1, [14, 15, 16, 17, 18, 19, 20, 21]), (2, [1, 2, 22, 23]), (3, [1, 22]), (5, [27, 28, 29]), (6, [30, 31, 32, 33, 34]), (7, [35, 36, 37, 38, 39, 40]), (8, [10, 41, 42, 43, 44, 45, 46]), (9, [2, 6, 7, 8, 9, 24, 25, 26, 47]), (10, [47, 48, 49, 50, 51, 52]), (11, [53, 54, 55, 56, 57, 58, 59, 60, 61, 62, 63, 64]), (12, [65, 66, 67]), (13, [68, 69]), (14, [70, 71, 72, 73]), (15, [6, 70, 74, 75]), (16, [13, 76, 77, 78, 79]), (17, [13, 76, 80, 81, 82]), (18, [6, 7, 8, 11, 12, 65, 83, 84, 85, 86, 87, 88, 89]), (19, [2, 9, 24, 25, 26, 90]), (20, [9, 90, 91]), (21, [92]), (22, [2, 24, 25, 26, 27, 93])]⟩
noncomputable def f5_b : Code := bodyOf Try.f5
noncomputable def f5_n : Code :=  (codeAt [] f5_b)
noncomputable def f5_n1 : Code := hide (codeAt [1] f5_b)
noncomputable def f5_n10 : Code := hide (codeAt [1, 0] f5_b)
noncomputable def f5_n100 : Code := hide (codeAt [1, 0, 0] f5_b)
noncomputable def f5_n101 : Code := hide (codeAt [1, 0, 1] f5_b)
noncomputable def f5_n11 : Code := hide (codeAt [1, 1] f5_b)
noncomputable def f5_n110 : Code := hide (codeAt [1, 1, 0] f5_b)
noncomputable def f5_n11010 : Code := hide (codeAt [1, 1, 0, 1, 0] f5_b)
noncomputable def f5_n110100 : Code := hide (codeAt [1, 1, 0, 1, 0, 0] f5_b)
noncomputable def f5_n11010011 : Code := hide (codeAt [1, 1, 0, 1, 0, 0, 1, 1] f5_b)
noncomputable def f5_n111 : Code := hide (codeAt [1, 1, 1] f5_b)
noncomputable def f5_n110100110 : Code := hide (codeAt [1, 1, 0, 1, 0, 0, 1, 1, 0] f5_b)
noncomputable def f5_n1101001100111 : Code := hide (codeAt [1, 1, 0, 1, 0, 0, 1, 1, 0, 0, 1, 1, 1] f5_b)
noncomputable def f5_n11010011001110 : Code := hide (codeAt [1, 1, 0, 1, 0, 0, 1, 1, 0, 0, 1, 1, 1, 0] f5_b)
noncomputable def f5_n110100110011100 : Code := hide (codeAt [1, 1, 0, 1, 0, 0, 1, 1, 0, 0, 1, 1, 1, 0, 0] f5_b)
noncomputable def f5_n110100110011101 : Code := hide (codeAt [1, 1, 0, 1, 0, 0, 1, 1, 0, 0, 1, 1, 1, 0, 1] f5_b)
noncomputable def f5_n11010011001111 : Code := hide (codeAt [1, 1, 0, 1, 0, 0, 1, 1, 0, 0, 1, 1, 1, 1] f5_b)
noncomputable def f5_n110100110011111 : Code := hide (codeAt [1, 1, 0, 1, 0, 0, 1, 1, 0, 0, 1, 1, 1, 1, 1] f5_b)
noncomputable def f5_n1101001100111110 : Code := hide (codeAt [1, 1, 0, 1, 0, 0, 1, 1, 0, 0, 1, 1, 1, 1, 1, 0] f5_b)
noncomputable def f5_n1101001100111110101 : Code := hide (codeAt [1, 1, 0, 1, 0, 0, 1, 1, 0, 0, 1, 1, 1, 1, 1, 0, 1, 0, 1] f5_b)
noncomputable def f5_n1101001100111111 : Code := hide (codeAt [1, 1, 0, 1, 0, 0, 1, 1, 0, 0, 1, 1, 1, 1, 1, 1] f5_b)
noncomputable def f5_n11010011001111101010 : Code := hide (codeAt [1, 1, 0, 1, 0, 0, 1, 1, 0, 0, 1, 1, 1, 1, 1, 0, 1, 0, 1, 0] f5_b)
noncomputable def f5_n110100111 : Code := hide (codeAt [1, 1, 0, 1, 0, 0, 1, 1, 1] f5_b)
noncomputable def f5_n11010011001111101011 : Code := hide (codeAt [1, 1, 0, 1, 0, 0, 1, 1, 0, 0, 1, 1, 1, 1, 1, 0, 1, 0, 1, 1] f5_b)
theorem f5_entry (t : List Int) (l : List (List V)) (l_g : G) (h : Heap) (K : V → Heap → Prop) : bodyW Try.prog f5_cf Try.f5 [(V.agg (ints t)), (V.sl 12 l l_g)] h K = wpA Try.prog f5_cf f5_n ⟨[(V.agg (ints t)), (V.sl 12 l l_g), V.undef, V.undef, V.undef, V.undef, V.undef, V.undef, V.undef, V.undef, V.undef, V.undef, V.undef, V.undef, V.undef, V.undef, V.undef, V.undef, V.undef, V.undef, V.undef, V.undef, V.undef, V.undef, V.undef, V.undef, V.undef, V.undef, V.undef, V.undef, V.undef, V.undef, V.undef, V.undef, V.undef, V.undef, V.undef, V.undef, V.undef, V.undef, V.undef, V.undef, V.undef, V.undef, V.undef, V.undef, V.undef, V.undef, V.undef, V.undef, V.undef, V.undef, V.undef, V.undef, V.undef, V.undef, V.undef, V.undef, V.undef, V.undef, V.undef, V.undef, V.undef, V.undef, V.undef, V.undef, V.undef, V.undef, V.undef, V.undef, V.undef, V.undef, V.undef, V.undef, V.undef, V.undef, V.undef, V.undef, V.undef, V.undef, V.undef, V.undef, V.undef, V.undef, V.undef, V.undef, V.undef, V.undef, V.undef, V.undef, V.undef, V.undef, V.undef, V.undef], []⟩ h (bodyK Try.prog Try.f5 K) := by kernel_rfl
theorem f5_n_plug : f5_n = (plug [1] (codeAt [] f5_b) f5_n1) := by
  simp only [f5_n, f5_n1, hide_eq]
  try kernel_rfl
theorem f5_n_wp (t : List Int) (l : List (List V)) (l_g : G) (h : Heap) (Q : Ex → Fr → Heap → Prop) : wpA Try.prog f5_cf f5_n ⟨[(V.agg (ints t)), (V.sl 12 l l_g), V.undef, V.undef, V.undef, V.undef, V.undef, V.undef, V.undef, V.undef, V.undef, V.undef, V.undef, V.undef, V.undef, V.undef, V.undef, V.undef, V.undef, V.undef, V.undef, V.undef, V.undef, V.undef, V.undef, V.undef, V.undef, V.undef, V.undef, V.undef, V.undef, V.undef, V.undef, V.undef, V.undef, V.undef, V.undef, V.undef, V.undef, V.undef, V.undef, V.undef, V.undef, V.undef, V.undef, V.undef, V.undef, V.undef, V.undef, V.undef, V.undef, V.undef, V.undef, V.undef, V.undef, V.undef, V.undef, V.undef, V.undef, V.undef, V.undef, V.undef, V.undef, V.undef, V.undef, V.undef, V.undef, V.undef, V.undef, V.undef, V.undef, V.undef, V.undef, V.undef, V.undef, V.undef, V.undef, V.undef, V.undef, V.undef, V.undef, V.undef, V.undef, V.undef, V.undef, V.undef, V.undef, V.undef, V.undef, V.undef, V.undef, V.undef, V.undef, V.undef], []⟩ h Q =
 (((List.length (ints t)) = 49) ∧ (wpA Try.prog f5_cf f5_n1 ⟨[V.undef, (V.sl 12 l l_g), (V.lp 2 0), V.undef, V.undef, V.undef, V.undef, V.undef, V.undef, V.undef, V.undef, V.undef, V.undef, V.undef, V.undef, V.undef, V.undef, V.undef, V.undef, V.undef, V.undef, V.undef, V.undef, V.undef, V.undef, V.undef, V.undef, V.undef, V.undef, V.undef, V.undef, V.undef, V.undef, V.undef, V.undef, V.undef, V.undef, V.undef, V.undef, V.undef, V.undef, V.undef, V.undef, V.undef, V.undef, V.undef, V.undef, V.undef, V.undef, V.undef, V.undef, V.undef, V.undef, V.undef, V.undef, V.undef, V.undef, V.undef, V.undef, V.undef, V.undef, V.undef, V.undef, V.undef, V.undef, V.undef, V.undef, V.undef, V.undef, V.undef, V.undef, V.undef, V.undef, V.undef, V.undef, V.undef, V.undef, V.undef, V.undef, V.undef, V.undef, V.undef, V.undef, V.undef, V.undef, V.undef, V.undef, V.undef, V.undef, V.undef, V.undef, V.undef, V.undef, V.undef], [(2, (ints t))]⟩ h Q)) := wpA_at f5_n_plug (by kernel_rfl)
theorem f5_n1_eq : f5_n1 = Code.seq f5_n10 f5_n11 := by
  simp only [f5_n1, f5_n10, f5_n11, hide_eq]
  kernel_rfl
theorem f5_n10_eq : f5_n10 = Code.seq f5_n100 f5_n101 := by
  simp only [f5_n10, f5_n100, f5_n101, hide_eq]
  kernel_rfl
theorem f5_n100_plug : f5_n100 = (codeAt [1, 0, 0] f5_b) := by
  simp only [f5_n100, hide_eq]
  try kernel_rfl
theorem f5_n100_wp (e0 : List (List V)) (g1 : G) (c2 : List V) (h : Heap) (Q : Ex → Fr → Heap → Prop) : wpA Try.prog f5_cf f5_n100 ⟨[V.undef, (V.sl 12 e0 g1), (V.lp 2 0), V.undef, V.undef, V.undef, V.undef, V.undef, V.undef, V.undef, V.undef, V.undef, V.undef, V.undef, V.undef, V.undef, V.undef, V.undef, V.undef, V.undef, V.undef, V.undef, V.undef, V.undef, V.undef, V.undef, V.undef, V.undef, V.undef, V.undef, V.undef, V.undef, V.undef, V.undef, V.undef, V.undef, V.undef, V.undef, V.undef, V.undef, V.undef, V.undef, V.undef, V.undef, V.undef, V.undef, V.undef, V.undef, V.undef, V.undef, V.undef, V.undef, V.undef, V.undef, V.undef, V.undef, V.undef, V.undef, V.undef, V.undef, V.undef, V.undef, V.undef, V.undef, V.undef, V.undef, V.undef, V.undef, V.undef, V.undef, V.undef, V.undef, V.undef, V.undef, V.undef, V.undef, V.undef, V.undef, V.undef, V.undef, V.undef, V.undef, V.undef, V.undef, V.undef, V.undef, V.undef, V.undef, V.undef, V.undef, V.undef, V.undef, V.undef, V.undef], [(2, c2)]⟩ h Q =
 (let bz1 : Bool := (decide ((100 : Int) < ((List.length e0) : Int)));
 (((!bz1) = true → (0 + 49 ≤ (List.length c2))) ∧ (let cz2 : List V := (List.take 49 (List.drop 0 c2));
 (brW (!bz1)
 (((!bz1) = true) ∧ (AnyW Try.prog 7 [(V.agg cz2)] h (fun (rz3 : V) (hz4 : Heap) =>
 ((True ∧ V.isAgg 49 rz3 = true) ∧ (let kz5 : Bool → Heap → Prop := fun (xz6 : Bool) (hz7 : Heap) =>
 (((!bz1) = true → (!bz1) = true) ∧ (((bz1 = false → (!bz1) = true) ∧ True) ∧ (Q Ex.normal ⟨[V.undef, (V.sl 12 e0 g1), (V.lp 2 0), V.undef, V.undef, V.undef, V.undef, V.undef, V.undef, V.undef, V.undef, V.undef, V.undef, V.undef, V.undef, V.undef, V.undef, V.undef, V.undef, V.undef, V.undef, V.undef, (V.bool (cond bz1 true (!xz6))), V.undef, V.undef, V.undef, V.undef, V.undef, V.undef, V.undef, V.undef, V.undef, V.undef, V.undef, V.undef, V.undef, V.undef, V.undef, V.undef, V.undef, V.undef, V.undef, V.undef, V.undef, V.undef, V.undef, V.undef, V.undef, V.undef, V.undef, V.undef, V.undef, V.undef, V.undef, V.undef, V.undef, V.undef, V.undef, V.undef, V.undef, V.undef, V.undef, V.undef, V.undef, V.undef, V.undef, V.undef, V.undef, V.undef, V.undef, V.undef, V.undef, V.undef, V.undef, V.undef, V.undef, V.undef, V.undef, V.undef, V.undef, V.undef, V.undef, V.undef, V.undef, V.undef, V.undef, V.undef, V.undef, V.undef, V.undef, V.undef, V.undef, V.undef, V.undef], [(2, c2)]⟩ hz7)));
 brW (!bz1)
 (AnyW Try.prog 9 [(V.agg (V.cells rz3))] hz4 (fun (rz8 : V) (hz9 : Heap) =>
 ((True ∧ V.isBool rz8 = true) ∧ (kz5 (V.flag rz8) hz9))))
 (kz5 false hz4))))))
 (let kz10 : Bool → Heap → Prop := fun (xz11 : Bool) (hz12 : Heap) =>
 (((!bz1) = true → (!bz1) = true) ∧ (((bz1 = false → (!bz1) = true) ∧ True) ∧ (Q Ex.normal ⟨[V.undef, (V.sl 12 e0 g1), (V.lp 2 0), V.undef, V.undef, V.undef, V.undef, V.undef, V.undef, V.undef, V.undef, V.undef, V.undef, V.undef, V.undef, V.undef, V.undef, V.undef, V.undef, V.undef, V.undef, V.undef, (V.bool (cond bz1 true (!xz11))), V.undef, V.undef, V.undef, V.undef, V.undef, V.undef, V.undef, V.undef, V.undef, V.undef, V.undef, V.undef, V.undef, V.undef, V.undef, V.undef, V.undef, V.undef, V.undef, V.undef, V.undef, V.undef, V.undef, V.undef, V.undef, V.undef, V.undef, V.undef, V.undef, V.undef, V.undef, V.undef, V.undef, V.undef, V.undef, V.undef, V.undef, V.undef, V.undef, V.undef, V.undef, V.undef, V.undef, V.undef, V.undef, V.undef, V.undef, V.undef, V.undef, V.undef, V.undef, V.undef, V.undef, V.undef, V.undef, V.undef, V.undef, V.undef, V.undef, V.undef, V.undef, V.undef, V.undef, V.undef, V.undef, V.undef, V.undef, V.undef, V.undef, V.undef, V.undef], [(2, c2)]⟩ hz12)));
 brW (!bz1)
 (AnyW Try.prog 9 [V.undef] h (fun (rz13 : V) (hz14 : Heap) =>
 ((True ∧ V.isBool rz13 = true) ∧ (kz10 (V.flag rz13) hz14))))
 (kz10 false h)))))) := wpA_at f5_n100_plug (by kernel_rfl)
theorem f5_n101_plug : f5_n101 = (codeAt [1, 0, 1] f5_b) := by
  simp only [f5_n101, hide_eq]
  try kernel_rfl
theorem f5_n101_wp (e0 : List (List V)) (g1 : G) (b2 : Bool) (c3 : List V) (h : Heap) (Q : Ex → Fr → Heap → Prop) : wpA Try.prog f5_cf f5_n101 ⟨[V.undef, (V.sl 12 e0 g1), (V.lp 2 0), V.undef, V.undef, V.undef, V.undef, V.undef, V.undef, V.undef, V.undef, V.undef, V.undef, V.undef, V.undef, V.undef, V.undef, V.undef, V.undef, V.undef, V.undef, V.undef, (V.bool b2), V.undef, V.undef, V.undef, V.undef, V.undef, V.undef, V.undef, V.undef, V.undef, V.undef, V.undef, V.undef, V.undef, V.undef, V.undef, V.undef, V.undef, V.undef, V.undef, V.undef, V.undef, V.undef, V.undef, V.undef, V.undef, V.undef, V.undef, V.undef, V.undef, V.undef, V.undef, V.undef, V.undef, V.undef, V.undef, V.undef, V.undef, V.undef, V.undef, V.undef, V.undef, V.undef, V.undef, V.undef, V.undef, V.undef, V.undef, V.undef, V.undef, V.undef, V.undef, V.undef, V.undef, V.undef, V.undef, V.undef, V.undef, V.undef, V.undef, V.undef, V.undef, V.undef, V.undef, V.undef, V.undef, V.undef, V.undef, V.undef, V.undef, V.undef, V.undef], [(2, c3)]⟩ h Q =
 (brW b2
 (AnyW Try.prog 10 [] h (fun (rz15 : V) (hz16 : Heap) =>
 ((True ∧ V.isBool rz15 = true) ∧ (Q Ex.ret ⟨[V.undef, V.undef, V.undef, V.undef, (V.bool (V.flag rz15)), V.undef, V.undef, V.undef, V.undef, V.undef, V.undef, V.undef, V.undef, V.undef, V.undef, V.undef, V.undef, V.undef, V.undef, V.undef, V.undef, V.undef, V.undef, V.undef, V.undef, V.undef, V.undef, V.undef, V.undef, V.undef, V.undef, V.undef, V.undef, V.undef, V.undef, V.undef, V.undef, V.undef, V.undef, V.undef, V.undef, V.undef, V.undef, V.undef, V.undef, V.undef, V.undef, V.undef, V.undef, V.undef, V.undef, V.undef, V.undef, V.undef, V.undef, V.undef, V.undef, V.undef, V.undef, V.undef, V.undef, V.undef, V.undef, V.undef, V.undef, V.undef, V.undef, V.undef, V.undef, V.undef, V.undef, V.undef, V.undef, V.undef, V.undef, V.undef, V.undef, V.undef, V.undef, V.undef, V.undef, V.undef, V.undef, V.undef, V.undef, V.undef, V.undef, V.undef, V.undef, V.undef, V.undef, V.undef, V.undef, V.undef], []⟩ hz16))))
 (Q Ex.normal ⟨[V.undef, (V.sl 12 e0 g1), (V.lp 2 0), V.undef, V.undef, V.undef, V.undef, V.undef, V.undef, V.undef, V.undef, V.undef, V.undef, V.undef, V.undef, V.undef, V.undef, V.undef, V.undef, V.undef, V.undef, V.undef, (V.bool b2), V.undef, V.undef, V.undef, V.undef, V.undef, V.undef, V.undef, V.undef, V.undef, V.undef, V.undef, V.undef, V.undef, V.undef, V.undef, V.undef, V.undef, V.undef, V.undef, V.undef, V.undef, V.undef, V.undef, V.undef, V.undef, V.undef, V.undef, V.undef, V.undef, V.undef, V.undef, V.undef, V.undef, V.undef, V.undef, V.undef, V.undef, V.undef, V.undef, V.undef, V.undef, V.undef, V.undef, V.undef, V.undef, V.undef, V.undef, V.undef, V.undef, V.undef, V.undef, V.undef, V.undef, V.undef, V.undef, V.undef, V.undef, V.undef, V.undef, V.undef, V.undef, V.undef, V.undef, V.undef, V.undef, V.undef, V.undef, V.undef, V.undef, V.undef, V.undef], [(2, c3)]⟩ h)) := wpA_at f5_n101_plug (by kernel_rfl)
theorem f5_n11_eq : f5_n11 = Code.seq f5_n110 f5_n111 := by
  simp only [f5_n11, f5_n110, f5_n111, hide_eq]
  kernel_rfl
theorem f5_n110_plug : f5_n110 = (plug [1, 0] (codeAt [1, 1, 0] f5_b) f5_n11010) := by
  simp only [f5_n110, f5_n11010, hide_eq]
  try kernel_rfl
theorem f5_n110_wp (e0 : List (List V)) (g1 : G) (b2 : Bool) (c3 : List V) (h : Heap) (Q : Ex → Fr → Heap → Prop) : wpA Try.prog f5_cf f5_n110 ⟨[V.undef, (V.sl 12 e0 g1), (V.lp 2 0), V.undef, V.undef, V.undef, V.undef, V.undef, V.undef, V.undef, V.undef, V.undef, V.undef, V.undef, V.undef, V.undef, V.undef, V.undef, V.undef, V.undef, V.undef, V.undef, (V.bool b2), V.undef, V.undef, V.undef, V.undef, V.undef, V.undef, V.undef, V.undef, V.undef, V.undef, V.undef, V.undef, V.undef, V.undef, V.undef, V.undef, V.undef, V.undef, V.undef, V.undef, V.undef, V.undef, V.undef, V.undef, V.undef, V.undef, V.undef, V.undef, V.undef, V.undef, V.undef, V.undef, V.undef, V.undef, V.undef, V.undef, V.undef, V.undef, V.undef, V.undef, V.undef, V.undef, V.undef, V.undef, V.undef, V.undef, V.undef, V.undef, V.undef, V.undef, V.undef, V.undef, V.undef, V.undef, V.undef, V.undef, V.undef, V.undef, V.undef, V.undef, V.undef, V.undef, V.undef, V.undef, V.undef, V.undef, V.undef, V.undef, V.undef, V.undef, V.undef], [(2, c3)]⟩ h Q =
 (wpA Try.prog f5_cf f5_n11010 ⟨[V.undef, V.undef, (V.lp 2 0), V.undef, V.undef, V.undef, V.undef, V.undef, V.undef, V.undef, V.undef, V.undef, V.undef, V.undef, V.undef, V.undef, V.undef, V.undef, V.undef, V.undef, V.undef, V.undef, V.undef, V.undef, (V.sl 12 e0 g1), (V.int Go.IntKind.i64 ((List.length e0) : Int)), (V.int Go.IntKind.i64 (0 : Int)), V.undef, V.undef, V.undef, V.undef, V.undef, V.undef, V.undef, V.undef, V.undef, V.undef, V.undef, V.undef, V.undef, V.undef, V.undef, V.undef, V.undef, V.undef, V.undef, V.undef, V.undef, V.undef, V.undef, V.undef, V.undef, V.undef, V.undef, V.undef, V.undef, V.undef, V.undef, V.undef, V.undef, V.undef, V.undef, V.undef, V.undef, V.undef, V.undef, V.undef, V.undef, V.undef, V.undef, V.undef, V.undef, V.undef, V.undef, V.undef, V.undef, V.undef, V.undef, V.undef, V.undef, V.undef, V.undef, V.undef, V.undef, V.undef, V.undef, V.undef, V.undef, V.undef, V.undef, V.undef, V.undef, V.undef, V.undef], [(2, c3)]⟩ h (blockK 0 Q)) := wpA_at f5_n110_plug (by kernel_rfl)
theorem f5_n11010_eq : f5_n11010 = Code.loop f5_n110100 := by
  simp only [f5_n11010, f5_n110100, hide_eq]
  kernel_rfl
def f5_n110100_F (e0 : List (List V)) (g1 : G) (x2 : Int) (x3 : Int) (c4 : List V) : Fr := ⟨[V.undef, V.undef, (V.lp 2 0), V.undef, V.undef, V.undef, V.undef, V.undef, V.undef, V.undef, V.undef, V.undef, V.undef, V.undef, V.undef, V.undef, V.undef, V.undef, V.undef, V.undef, V.undef, V.undef, V.undef, V.undef, (V.sl 12 e0 g1), (V.int Go.IntKind.i64 x2), (V.int Go.IntKind.i64 x3), V.undef, V.undef, V.undef, V.undef, V.undef, V.undef, V.undef, V.undef, V.undef, V.undef, V.undef, V.undef, V.undef, V.undef, V.undef, V.undef, V.undef, V.undef, V.undef, V.undef, V.undef, V.undef, V.undef, V.undef, V.undef, V.undef, V.undef, V.undef, V.undef, V.undef, V.undef, V.undef, V.undef, V.undef, V.undef, V.undef, V.undef, V.undef, V.undef, V.undef, V.undef, V.undef, V.undef, V.undef, V.undef, V.undef, V.undef, V.undef, V.undef, V.undef, V.undef, V.undef, V.undef, V.undef, V.undef, V.undef, V.undef, V.undef, V.undef, V.undef, V.undef, V.undef, V.undef, V.undef, V.undef, V.undef, V.undef], [(2, c4)]⟩
theorem f5_n110100_plug : f5_n110100 = (plug [1, 1] (codeAt [1, 1, 0, 1, 0, 0] f5_b) f5_n11010011) := by
  simp only [f5_n110100, f5_n11010011, hide_eq]
  try kernel_rfl
theorem f5_n110100_wp (e0 : List (List V)) (g1 : G) (x2 : Int) (x3 : Int) (c4 : List V) (h : Heap) (Q : Ex → Fr → Heap → Prop) : wpA Try.prog f5_cf f5_n110100 ⟨[V.undef, V.undef, (V.lp 2 0), V.undef, V.undef, V.undef, V.undef, V.undef, V.undef, V.undef, V.undef, V.undef, V.undef, V.undef, V.undef, V.undef, V.undef, V.undef, V.undef, V.undef, V.undef, V.undef, V.undef, V.undef, (V.sl 12 e0 g1), (V.int Go.IntKind.i64 x2), (V.int Go.IntKind.i64 x3), V.undef, V.undef, V.undef, V.undef, V.undef, V.undef, V.undef, V.undef, V.undef, V.undef, V.undef, V.undef, V.undef, V.undef, V.undef, V.undef, V.undef, V.undef, V.undef, V.undef, V.undef, V.undef, V.undef, V.undef, V.undef, V.undef, V.undef, V.undef, V.undef, V.undef, V.undef, V.undef, V.undef, V.undef, V.undef, V.undef, V.undef, V.undef, V.undef, V.undef, V.undef, V.undef, V.undef, V.undef, V.undef, V.undef, V.undef, V.undef, V.undef, V.undef, V.undef, V.undef, V.undef, V.undef, V.undef, V.undef, V.undef, V.undef, V.undef, V.undef, V.undef, V.undef, V.undef, V.undef, V.undef, V.undef, V.undef], [(2, c4)]⟩ h Q =
 (brW (decide (x3 < x2))
 (wpA Try.prog f5_cf f5_n11010011 ⟨[V.undef, V.undef, (V.lp 2 0), V.undef, V.undef, V.undef, V.undef, V.undef, V.undef, V.undef, V.undef, V.undef, V.undef, V.undef, V.undef, V.undef, V.undef, V.undef, V.undef, V.undef, V.undef, V.undef, V.undef, V.undef, (V.sl 12 e0 g1), (V.int Go.IntKind.i64 x2), (V.int Go.IntKind.i64 x3), (V.bool (decide (x3 < x2))), V.undef, V.undef, V.undef, V.undef, V.undef, V.undef, V.undef, V.undef, V.undef, V.undef, V.undef, V.undef, V.undef, V.undef, V.undef, V.undef, V.undef, V.undef, V.undef, V.undef, V.undef, V.undef, V.undef, V.undef, V.undef, V.undef, V.undef, V.undef, V.undef, V.undef, V.undef, V.undef, V.undef, V.undef, V.undef, V.undef, V.undef, V.undef, V.undef, V.undef, V.undef, V.undef, V.undef, V.undef, V.undef, V.undef, V.undef, V.undef, V.undef, V.undef, V.undef, V.undef, V.undef, V.undef, V.undef, V.undef, V.undef, V.undef, V.undef, V.undef, V.undef, V.undef, V.undef, V.undef, V.undef, V.undef], [(2, c4)]⟩ h Q)
 (Q (Ex.exit 0) ⟨[V.undef, V.undef, (V.lp 2 0), V.undef, V.undef, V.undef, V.undef, V.undef, V.undef, V.undef, V.undef, V.undef, V.undef, V.undef, V.undef, V.undef, V.undef, V.undef, V.undef, V.undef, V.undef, V.undef, V.undef, V.undef, (V.sl 12 e0 g1), (V.int Go.IntKind.i64 x2), (V.int Go.IntKind.i64 x3), (V.bool (decide (x3 < x2))), V.undef, V.undef, V.undef, V.undef, V.undef, V.undef, V.undef, V.undef, V.undef, V.undef, V.undef, V.undef, V.undef, V.undef, V.undef, V.undef, V.undef, V.undef, V.undef, V.undef, V.undef, V.undef, V.undef, V.undef, V.undef, V.undef, V.undef, V.undef, V.undef, V.undef, V.undef, V.undef, V.undef, V.undef, V.undef, V.undef, V.undef, V.undef, V.undef, V.undef, V.undef, V.undef, V.undef, V.undef, V.undef, V.undef, V.undef, V.undef, V.undef, V.undef, V.undef, V.undef, V.undef, V.undef, V.undef, V.undef, V.undef, V.undef, V.undef, V.undef, V.undef, V.undef, V.undef, V.undef, V.undef, V.undef], [(2, c4)]⟩ h)) := wpA_at f5_n110100_plug (by kernel_rfl)
theorem f5_n11010011_eq : f5_n11010011 = Code.seq f5_n110100110 f5_n110100111 := by
  simp only [f5_n11010011, f5_n110100110, f5_n110100111, hide_eq]
  kernel_rfl
theorem f5_n111_plug : f5_n111 = (codeAt [1, 1, 1] f5_b) := by
  simp only [f5_n111, hide_eq]
  try kernel_rfl
theorem f5_n111_wp (e0 : List (List V)) (g1 : G) (x2 : Int) (x3 : Int) (b4 : Bool) (c5 : List V) (h : Heap) (Q : Ex → Fr → Heap → Prop) : wpA Try.prog f5_cf f5_n111 ⟨[V.undef, V.undef, (V.lp 2 0), V.undef, V.undef, V.undef, V.undef, V.undef, V.undef, V.undef, V.undef, V.undef, V.undef, V.undef, V.undef, V.undef, V.undef, V.undef, V.undef, V.undef, V.undef, V.undef, V.undef, V.undef, (V.sl 12 e0 g1), (V.int Go.IntKind.i64 x2), (V.int Go.IntKind.i64 x3), (V.bool b4), V.undef, V.undef, V.undef, V.undef, V.undef, V.undef, V.undef, V.undef, V.undef, V.undef, V.undef, V.undef, V.undef, V.undef, V.undef, V.undef, V.undef, V.undef, V.undef, V.undef, V.undef, V.undef, V.undef, V.undef, V.undef, V.undef, V.undef, V.undef, V.undef, V.undef, V.undef, V.undef, V.undef, V.undef, V.undef, V.undef, V.undef, V.undef, V.undef, V.undef, V.undef, V.undef, V.undef, V.undef, V.undef, V.undef, V.undef, V.undef, V.undef, V.undef, V.undef, V.undef, V.undef, V.undef, V.undef, V.undef, V.undef, V.undef, V.undef, V.undef, V.undef, V.undef, V.undef, V.undef, V.undef, V.undef], [(2, c5)]⟩ h Q =
 (AnyW Try.prog 10 [] h (fun (rz17 : V) (hz18 : Heap) =>
 ((True ∧ V.isBool rz17 = true) ∧ (Q Ex.ret ⟨[V.undef, V.undef, V.undef, V.undef, (V.bool (V.flag rz17)), V.undef, V.undef, V.undef, V.undef, V.undef, V.undef, V.undef, V.undef, V.undef, V.undef, V.undef, V.undef, V.undef, V.undef, V.undef, V.undef, V.undef, V.undef, V.undef, V.undef, V.undef, V.undef, V.undef, V.undef, V.undef, V.undef, V.undef, V.undef, V.undef, V.undef, V.undef, V.undef, V.undef, V.undef, V.undef, V.undef, V.undef, V.undef, V.undef, V.undef, V.undef, V.undef, V.undef, V.undef, V.undef, V.undef, V.undef, V.undef, V.undef, V.undef, V.undef, V.undef, V.undef, V.undef, V.undef, V.undef, V.undef, V.undef, V.undef, V.undef, V.undef, V.undef, V.undef, V.undef, V.undef, V.undef, V.undef, V.undef, V.undef, V.undef, V.undef, V.undef, V.undef, V.undef, V.undef, V.undef, V.undef, V.undef, V.undef, V.undef, V.undef, V.undef, V.undef, V.undef, V.undef, V.undef, V.undef, V.undef, V.undef], []⟩ hz18)))) := wpA_at f5_n111_plug (by kernel_rfl)
theorem f5_n110100110_plug : f5_n110100110 = (plug [0, 1, 1, 1] (codeAt [1, 1, 0, 1, 0, 0, 1, 1, 0] f5_b) f5_n1101001100111) := by
  simp only [f5_n110100110, f5_n1101001100111, hide_eq]
  try kernel_rfl
theorem f5_n110100110_wp (e0 : List (List V)) (g1 : G) (x2 : Int) (x3 : Int) (b4 : Bool) (c5 : List V) (h : Heap) (Q : Ex → Fr → Heap → Prop) : wpA Try.prog f5_cf f5_n110100110 ⟨[V.undef, V.undef, (V.lp 2 0), V.undef, V.undef, V.undef, V.undef, V.undef, V.undef, V.undef, V.undef, V.undef, V.undef, V.undef, V.undef, V.undef, V.undef, V.undef, V.undef, V.undef, V.undef, V.undef, V.undef, V.undef, (V.sl 12 e0 g1), (V.int Go.IntKind.i64 x2), (V.int Go.IntKind.i64 x3), (V.bool b4), V.undef, V.undef, V.undef, V.undef, V.undef, V.undef, V.undef, V.undef, V.undef, V.undef, V.undef, V.undef, V.undef, V.undef, V.undef, V.undef, V.undef, V.undef, V.undef, V.undef, V.undef, V.undef, V.undef, V.undef, V.undef, V.undef, V.undef, V.undef, V.undef, V.undef, V.undef, V.undef, V.undef, V.undef, V.undef, V.undef, V.undef, V.undef, V.undef, V.undef, V.undef, V.undef, V.undef, V.undef, V.undef, V.undef, V.undef, V.undef, V.undef, V.undef, V.undef, V.undef, V.undef, V.undef, V.undef, V.undef, V.undef, V.undef, V.undef, V.undef, V.undef, V.undef, V.undef, V.undef, V.undef, V.undef], [(2, c5)]⟩ h Q =
 ((0 ≤ x3 ∧ x3 < (List.length e0)) ∧ ((0 + 12 ≤ (List.length (ge e0 (Int.toNat x3)))) ∧ (let cz19 : List V := (List.take 12 (List.drop 0 (ge e0 (Int.toNat x3))));
 (True ∧ (((List.length cz19) = 12) ∧ 0 + 12 ≤ 12 ∧ (let cz20 : List V := (wrCells [(V.int Go.IntKind.i64 (0 : Int)), (V.int Go.IntKind.i64 (0 : Int)), (V.int Go.IntKind.i64 (0 : Int)), (V.int Go.IntKind.i64 (0 : Int)), (V.int Go.IntKind.i64 (0 : Int)), (V.int Go.IntKind.i64 (0 : Int)), (V.int Go.IntKind.i64 (0 : Int)), (V.int Go.IntKind.i64 (0 : Int)), (V.int Go.IntKind.i64 (0 : Int)), (V.int Go.IntKind.i64 (0 : Int)), (V.int Go.IntKind.i64 (0 : Int)), (V.int Go.IntKind.i64 (0 : Int))] 0 cz19);
 ((0 + 49 ≤ (List.length c5)) ∧ (let cz21 : List V := (List.take 49 (List.drop 0 c5));
 (AnyW Try.prog 11 [(V.agg cz21)] h (fun (rz22 : V) (hz23 : Heap) =>
 (V.isTup 2 rz22 = true ∧ ((True ∧ V.isInt Go.IntKind.i64 (gv (V.vs rz22) 0) = true) ∧ (let iz24 : Int := (V.num (gv (V.vs rz22) 0));
 ((True ∧ V.isInt Go.IntKind.i64 (gv (V.vs rz22) 1) = true) ∧ (let iz25 : Int := (V.num (gv (V.vs rz22) 1));
 ((true = true) ∧ ((true = true) ∧ ((0 + 49 ≤ (List.length c5)) ∧ (let cz26 : List V := (List.take 49 (List.drop 0 c5));
 ((0 + 12 ≤ (List.length cz20)) ∧ (let cz27 : List V := (List.take 12 (List.drop 0 cz20));
 (AnyW Try.prog 15 [(V.agg cz26), (V.agg cz27)] hz23 (fun (rz28 : V) (hz29 : Heap) =>
 (V.isTup 2 rz28 = true ∧ ((True ∧ V.isAgg 49 (gv (V.vs rz28) 0) = true) ∧ (let cz30 : List V := (V.cells (gv (V.vs rz28) 0));
 ((True ∧ V.isBool (gv (V.vs rz28) 1) = true) ∧ (let bz31 : Bool := (V.flag (gv (V.vs rz28) 1));
 ((true = true) ∧ ((true = true) ∧ (True ∧ (((List.length cz30) = 49) ∧ 0 + 49 ≤ 49 ∧ (let cz32 : List V := (wrCells [(V.int Go.IntKind.i64 (0 : Int)), (V.int Go.IntKind.i64 (0 : Int)), (V.int Go.IntKind.i64 (0 : Int)), (V.int Go.IntKind.i64 (0 : Int)), (V.int Go.IntKind.i64 (0 : Int)), (V.int Go.IntKind.i64 (0 : Int)), (V.int Go.IntKind.i64 (0 : Int)), (V.int Go.IntKind.i64 (0 : Int)), (V.int Go.IntKind.i64 (0 : Int)), (V.int Go.IntKind.i64 (0 : Int)), (V.int Go.IntKind.i64 (0 : Int)), (V.int Go.IntKind.i64 (0 : Int)), (V.int Go.IntKind.i64 (0 : Int)), (V.int Go.IntKind.i64 (0 : Int)), (V.int Go.IntKind.i64 (0 : Int)), (V.int Go.IntKind.i64 (0 : Int)), (V.int Go.IntKind.i64 (0 : Int)), (V.int Go.IntKind.i64 (0 : Int)), (V.int Go.IntKind.i64 (0 : Int)), (V.int Go.IntKind.i64 (0 : Int)), (V.int Go.IntKind.i64 (0 : Int)), (V.int Go.IntKind.i64 (0 : Int)), (V.int Go.IntKind.i64 (0 : Int)), (V.int Go.IntKind.i64 (0 : Int)), (V.int Go.IntKind.i64 (0 : Int)), (V.int Go.IntKind.i64 (0 : Int)), (V.int Go.IntKind.i64 (0 : Int)), (V.int Go.IntKind.i64 (0 : Int)), (V.int Go.IntKind.i64 (0 : Int)), (V.int Go.IntKind.i64 (0 : Int)), (V.int Go.IntKind.i64 (0 : Int)), (V.int Go.IntKind.i64 (0 : Int)), (V.int Go.IntKind.i64 (0 : Int)), (V.int Go.IntKind.i64 (0 : Int)), (V.int Go.IntKind.i64 (0 : Int)), (V.int Go.IntKind.i64 (0 : Int)), (V.int Go.IntKind.i64 (0 : Int)), (V.int Go.IntKind.i64 (0 : Int)), (V.int Go.IntKind.i64 (0 : Int)), (V.int Go.IntKind.i64 (0 : Int)), (V.int Go.IntKind.i64 (0 : Int)), (V.int Go.IntKind.i64 (0 : Int)), (V.int Go.IntKind.i64 (0 : Int)), (V.int Go.IntKind.i64 (0 : Int)), (V.int Go.IntKind.i64 (0 : Int)), (V.int Go.IntKind.i64 (0 : Int)), (V.int Go.IntKind.i64 (0 : Int)), (V.int Go.IntKind.i64 (0 : Int)), (V.int Go.IntKind.i64 (0 : Int))] 0 cz30);
 (wpA Try.prog f5_cf f5_n1101001100111 ⟨[V.undef, V.undef, (V.lp 2 0), V.undef, V.undef, V.undef, (V.lp 6 0), (V.int Go.IntKind.i64 iz24), (V.int Go.IntKind.i64 iz25), (V.lp 9 0), (V.bool bz31), V.undef, V.undef, V.undef, V.undef, V.undef, V.undef, V.undef, V.undef, V.undef, V.undef, V.undef, V.undef, V.undef, (V.sl 12 e0 g1), (V.int Go.IntKind.i64 x2), (V.int Go.IntKind.i64 x3), V.undef, V.undef, V.undef, V.undef, V.undef, V.undef, V.undef, V.undef, V.undef, V.undef, V.undef, V.undef, V.undef, V.undef, V.undef, V.undef, V.undef, V.undef, V.undef, V.undef, V.undef, V.undef, V.undef, V.undef, V.undef, V.undef, V.undef, V.undef, V.undef, V.undef, V.undef, V.undef, V.undef, V.undef, V.undef, V.undef, V.undef, V.undef, V.undef, V.undef, V.undef, V.undef, V.undef, V.undef, V.undef, V.undef, V.undef, V.undef, V.undef, V.undef, V.undef, V.undef, V.undef, V.undef, V.undef, V.undef, V.undef, V.undef, V.undef, V.undef, V.undef, V.undef, V.undef, V.undef, V.undef, V.undef, V.undef], [(2, c5), (6, cz20), (9, cz32)]⟩ hz29 (blockK 1 Q))))))))))))))))))))))))))))))))))) := wpA_at f5_n110100110_plug (by kernel_rfl)
theorem f5_n1101001100111_eq : f5_n1101001100111 = Code.seq f5_n11010011001110 f5_n11010011001111 := by
  simp only [f5_n1101001100111, f5_n11010011001110, f5_n11010011001111, hide_eq]
  kernel_rfl
theorem f5_n11010011001110_eq : f5_n11010011001110 = Code.seq f5_n110100110011100 f5_n110100110011101 := by
  simp only [f5_n11010011001110, f5_n110100110011100, f5_n110100110011101, hide_eq]
  kernel_rfl
theorem f5_n110100110011100_plug : f5_n110100110011100 = (codeAt [1, 1, 0, 1, 0, 0, 1, 1, 0, 0, 1, 1, 1, 0, 0] f5_b) := by
  simp only [f5_n110100110011100, hide_eq]
  try kernel_rfl
theorem f5_n110100110011100_wp (x0 : Int) (x1 : Int) (b2 : Bool) (e3 : List (List V)) (g4 : G) (x5 : Int) (x6 : Int) (c7 : List V) (c8 : List V) (c9 : List V) (h : Heap) (Q : Ex → Fr → Heap → Prop) : wpA Try.prog f5_cf f5_n110100110011100 ⟨[V.undef, V.undef, (V.lp 2 0), V.undef, V.undef, V.undef, (V.lp 6 0), (V.int Go.IntKind.i64 x0), (V.int Go.IntKind.i64 x1), (V.lp 9 0), (V.bool b2), V.undef, V.undef, V.undef, V.undef, V.undef, V.undef, V.undef, V.undef, V.undef, V.undef, V.undef, V.undef, V.undef, (V.sl 12 e3 g4), (V.int Go.IntKind.i64 x5), (V.int Go.IntKind.i64 x6), V.undef, V.undef, V.undef, V.undef, V.undef, V.undef, V.undef, V.undef, V.undef, V.undef, V.undef, V.undef, V.undef, V.undef, V.undef, V.undef, V.undef, V.undef, V.undef, V.undef, V.undef, V.undef, V.undef, V.undef, V.undef, V.undef, V.undef, V.undef, V.undef, V.undef, V.undef, V.undef, V.undef, V.undef, V.undef, V.undef, V.undef, V.undef, V.undef, V.undef, V.undef, V.undef, V.undef, V.undef, V.undef, V.undef, V.undef, V.undef, V.undef, V.undef, V.undef, V.undef, V.undef, V.undef, V.undef, V.undef, V.undef, V.undef, V.undef, V.undef, V.undef, V.undef, V.undef, V.undef, V.undef, V.undef, V.undef], [(2, c7), (6, c8), (9, c9)]⟩ h Q =
 (((!(!b2)) = true → (0 + 49 ≤ (List.length c9))) ∧ (let cz33 : List V := (List.take 49 (List.drop 0 c9));
 (let kz34 : Bool → Heap → Prop := fun (xz35 : Bool) (hz36 : Heap) =>
 (((!(!b2)) = true → (!(!b2)) = true) ∧ ((((!b2) = false → (!(!b2)) = true) ∧ True) ∧ (let bz37 : Bool := (cond (!b2) true (!xz35));
 (Q Ex.normal ⟨[V.undef, V.undef, (V.lp 2 0), V.undef, V.undef, V.undef, (V.lp 6 0), (V.int Go.IntKind.i64 x0), (V.int Go.IntKind.i64 x1), (V.lp 9 0), V.undef, V.undef, V.undef, V.undef, V.undef, V.undef, V.undef, V.undef, V.undef, V.undef, V.undef, V.undef, V.undef, V.undef, (V.sl 12 e3 g4), (V.int Go.IntKind.i64 x5), (V.int Go.IntKind.i64 x6), V.undef, V.undef, V.undef, V.undef, V.undef, V.undef, V.undef, V.undef, V.undef, V.undef, V.undef, V.undef, V.undef, V.undef, V.undef, V.undef, V.undef, V.undef, V.undef, V.undef, (V.bool bz37), V.undef, V.undef, V.undef, V.undef, V.undef, V.undef, V.undef, V.undef, V.undef, V.undef, V.undef, V.undef, V.undef, V.undef, V.undef, V.undef, V.undef, V.undef, V.undef, V.undef, V.undef, V.undef, V.undef, V.undef, V.undef, V.undef, V.undef, V.undef, V.undef, V.undef, V.undef, V.undef, V.undef, V.undef, V.undef, V.undef, V.undef, V.undef, V.undef, V.undef, V.undef, V.undef, V.undef, V.undef, V.undef, V.undef], [(2, c7), (6, c8), (9, c9)]⟩ hz36))));
 brW (!(!b2))
 (((!(!b2)) = true) ∧ (AnyW Try.prog 8 [(V.agg cz33)] h (fun (rz38 : V) (hz39 : Heap) =>
 ((True ∧ V.isBool rz38 = true) ∧ (kz34 (V.flag rz38) hz39)))))
 (kz34 false h)))) := wpA_at f5_n110100110011100_plug (by kernel_rfl)
theorem f5_n110100110011101_plug : f5_n110100110011101 = (codeAt [1, 1, 0, 1, 0, 0, 1, 1, 0, 0, 1, 1, 1, 0, 1] f5_b) := by
  simp only [f5_n110100110011101, hide_eq]
  try kernel_rfl
theorem f5_n110100110011101_wp (x0 : Int) (x1 : Int) (e2 : List (List V)) (g3 : G) (x4 : Int) (x5 : Int) (b6 : Bool) (c7 : List V) (c8 : List V) (c9 : List V) (h : Heap) (Q : Ex → Fr → Heap → Prop) : wpA Try.prog f5_cf f5_n110100110011101 ⟨[V.undef, V.undef, (V.lp 2 0), V.undef, V.undef, V.undef, (V.lp 6 0), (V.int Go.IntKind.i64 x0), (V.int Go.IntKind.i64 x1), (V.lp 9 0), V.undef, V.undef, V.undef, V.undef, V.undef, V.undef, V.undef, V.undef, V.undef, V.undef, V.undef, V.undef, V.undef, V.undef, (V.sl 12 e2 g3), (V.int Go.IntKind.i64 x4), (V.int Go.IntKind.i64 x5), V.undef, V.undef, V.undef, V.undef, V.undef, V.undef, V.undef, V.undef, V.undef, V.undef, V.undef, V.undef, V.undef, V.undef, V.undef, V.undef, V.undef, V.undef, V.undef, V.undef, (V.bool b6), V.undef, V.undef, V.undef, V.undef, V.undef, V.undef, V.undef, V.undef, V.undef, V.undef, V.undef, V.undef, V.undef, V.undef, V.undef, V.undef, V.undef, V.undef, V.undef, V.undef, V.undef, V.undef, V.undef, V.undef, V.undef, V.undef, V.undef, V.undef, V.undef, V.undef, V.undef, V.undef, V.undef, V.undef, V.undef, V.undef, V.undef, V.undef, V.undef, V.undef, V.undef, V.undef, V.undef, V.undef, V.undef, V.undef], [(2, c7), (6, c8), (9, c9)]⟩ h Q =
 (brW b6
 (Q Ex.ret ⟨[V.undef, V.undef, V.undef, V.undef, (V.bool false), V.undef, V.undef, V.undef, V.undef, V.undef, V.undef, V.undef, V.undef, V.undef, V.undef, V.undef, V.undef, V.undef, V.undef, V.undef, V.undef, V.undef, V.undef, V.undef, V.undef, V.undef, V.undef, V.undef, V.undef, V.undef, V.undef, V.undef, V.undef, V.undef, V.undef, V.undef, V.undef, V.undef, V.undef, V.undef, V.undef, V.undef, V.undef, V.undef, V.undef, V.undef, V.undef, V.undef, V.undef, V.undef, V.undef, V.undef, V.undef, V.undef, V.undef, V.undef, V.undef, V.undef, V.undef, V.undef, V.undef, V.undef, V.undef, V.undef, V.undef, V.undef, V.undef, V.undef, V.undef, V.undef, V.undef, V.undef, V.undef, V.undef, V.undef, V.undef, V.undef, V.undef, V.undef, V.undef, V.undef, V.undef, V.undef, V.undef, V.undef, V.undef, V.undef, V.undef, V.undef, V.undef, V.undef, V.undef, V.undef, V.undef], []⟩ h)
 (Q Ex.normal ⟨[V.undef, V.undef, (V.lp 2 0), V.undef, V.undef, V.undef, (V.lp 6 0), (V.int Go.IntKind.i64 x0), (V.int Go.IntKind.i64 x1), (V.lp 9 0), V.undef, V.undef, V.undef, V.undef, V.undef, V.undef, V.undef, V.undef, V.undef, V.undef, V.undef, V.undef, V.undef, V.undef, (V.sl 12 e2 g3), (V.int Go.IntKind.i64 x4), (V.int Go.IntKind.i64 x5), V.undef, V.undef, V.undef, V.undef, V.undef, V.undef, V.undef, V.undef, V.undef, V.undef, V.undef, V.undef, V.undef, V.undef, V.undef, V.undef, V.undef, V.undef, V.undef, V.undef, (V.bool b6), V.undef, V.undef, V.undef, V.undef, V.undef, V.undef, V.undef, V.undef, V.undef, V.undef, V.undef, V.undef, V.undef, V.undef, V.undef, V.undef, V.undef, V.undef, V.undef, V.undef, V.undef, V.undef, V.undef, V.undef, V.undef, V.undef, V.undef, V.undef, V.undef, V.undef, V.undef, V.undef, V.undef, V.undef, V.undef, V.undef, V.undef, V.undef, V.undef, V.undef, V.undef, V.undef, V.undef, V.undef, V.undef, V.undef], [(2, c7), (6, c8), (9, c9)]⟩ h)) := wpA_at f5_n110100110011101_plug (by kernel_rfl)
theorem f5_n11010011001111_plug : f5_n11010011001111 = (plug [1] (codeAt [1, 1, 0, 1, 0, 0, 1, 1, 0, 0, 1, 1, 1, 1] f5_b) f5_n110100110011111) := by
  simp only [f5_n11010011001111, f5_n110100110011111, hide_eq]
  try kernel_rfl
theorem f5_n11010011001111_wp (x0 : Int) (x1 : Int) (e2 : List (List V)) (g3 : G) (x4 : Int) (x5 : Int) (b6 : Bool) (c7 : List V) (c8 : List V) (c9 : List V) (h : Heap) (Q : Ex → Fr → Heap → Prop) : wpA Try.prog f5_cf f5_n11010011001111 ⟨[V.undef, V.undef, (V.lp 2 0), V.undef, V.undef, V.undef, (V.lp 6 0), (V.int Go.IntKind.i64 x0), (V.int Go.IntKind.i64 x1), (V.lp 9 0), V.undef, V.undef, V.undef, V.undef, V.undef, V.undef, V.undef, V.undef, V.undef, V.undef, V.undef, V.undef, V.undef, V.undef, (V.sl 12 e2 g3), (V.int Go.IntKind.i64 x4), (V.int Go.IntKind.i64 x5), V.undef, V.undef, V.undef, V.undef, V.undef, V.undef, V.undef, V.undef, V.undef, V.undef, V.undef, V.undef, V.undef, V.undef, V.undef, V.undef, V.undef, V.undef, V.undef, V.undef, (V.bool b6), V.undef, V.undef, V.undef, V.undef, V.undef, V.undef, V.undef, V.undef, V.undef, V.undef, V.undef, V.undef, V.undef, V.undef, V.undef, V.undef, V.undef, V.undef, V.undef, V.undef, V.undef, V.undef, V.undef, V.undef, V.undef, V.undef, V.undef, V.undef, V.undef, V.undef, V.undef, V.undef, V.undef, V.undef, V.undef, V.undef, V.undef, V.undef, V.undef, V.undef, V.undef, V.undef, V.undef, V.undef, V.undef, V.undef], [(2, c7), (6, c8), (9, c9)]⟩ h Q =
 ((0 + 49 ≤ (List.length c9)) ∧ (let cz40 : List V := (List.take 49 (List.drop 0 c9));
 (AnyW Try.prog 11 [(V.agg cz40)] h (fun (rz41 : V) (hz42 : Heap) =>
 (V.isTup 2 rz41 = true ∧ ((True ∧ V.isInt Go.IntKind.i64 (gv (V.vs rz41) 0) = true) ∧ (let iz43 : Int := (V.num (gv (V.vs rz41) 0));
 ((True ∧ V.isInt Go.IntKind.i64 (gv (V.vs rz41) 1) = true) ∧ (let iz44 : Int := (V.num (gv (V.vs rz41) 1));
 ((true = true) ∧ ((true = true) ∧ (wpA Try.prog f5_cf f5_n110100110011111 ⟨[V.undef, V.undef, (V.lp 2 0), V.undef, V.undef, V.undef, (V.lp 6 0), (V.int Go.IntKind.i64 x0), (V.int Go.IntKind.i64 x1), (V.lp 9 0), V.undef, (V.int Go.IntKind.i64 iz43), (V.int Go.IntKind.i64 iz44), V.undef, V.undef, V.undef, V.undef, V.undef, V.undef, V.undef, V.undef, V.undef, V.undef, V.undef, (V.sl 12 e2 g3), (V.int Go.IntKind.i64 x4), (V.int Go.IntKind.i64 x5), V.undef, V.undef, V.undef, V.undef, V.undef, V.undef, V.undef, V.undef, V.undef, V.undef, V.undef, V.undef, V.undef, V.undef, V.undef, V.undef, V.undef, V.undef, V.undef, V.undef, V.undef, V.undef, V.undef, V.undef, V.undef, V.undef, V.undef, V.undef, V.undef, V.undef, V.undef, V.undef, V.undef, V.undef, V.undef, V.undef, V.undef, V.undef, V.undef, V.undef, V.undef, V.undef, V.undef, V.undef, V.undef, V.undef, V.undef, V.undef, V.undef, V.undef, V.undef, V.undef, V.undef, V.undef, V.undef, V.undef, V.undef, V.undef, V.undef, V.undef, V.undef, V.undef, V.undef, V.undef, V.undef, V.undef, V.undef], [(2, c7), (6, c8), (9, c9)]⟩ hz42 Q)))))))))))) := wpA_at f5_n11010011001111_plug (by kernel_rfl)
theorem f5_n110100110011111_eq : f5_n110100110011111 = Code.seq f5_n1101001100111110 f5_n1101001100111111 := by
  simp only [f5_n110100110011111, f5_n1101001100111110, f5_n1101001100111111, hide_eq]
  kernel_rfl
theorem f5_n1101001100111110_plug : f5_n1101001100111110 = (plug [1, 0, 1] (codeAt [1, 1, 0, 1, 0, 0, 1, 1, 0, 0, 1, 1, 1, 1, 1, 0] f5_b) f5_n1101001100111110101) := by
  simp only [f5_n1101001100111110, f5_n1101001100111110101, hide_eq]
  try kernel_rfl
theorem f5_n1101001100111110_wp (x0 : Int) (x1 : Int) (x2 : Int) (x3 : Int) (e4 : List (List V)) (g5 : G) (x6 : Int) (x7 : Int) (c8 : List V) (c9 : List V) (c10 : List V) (h : Heap) (Q : Ex → Fr → Heap → Prop) : wpA Try.prog f5_cf f5_n1101001100111110 ⟨[V.undef, V.undef, (V.lp 2 0), V.undef, V.undef, V.undef, (V.lp 6 0), (V.int Go.IntKind.i64 x0), (V.int Go.IntKind.i64 x1), (V.lp 9 0), V.undef, (V.int Go.IntKind.i64 x2), (V.int Go.IntKind.i64 x3), V.undef, V.undef, V.undef, V.undef, V.undef, V.undef, V.undef, V.undef, V.undef, V.undef, V.undef, (V.sl 12 e4 g5), (V.int Go.IntKind.i64 x6), (V.int Go.IntKind.i64 x7), V.undef, V.undef, V.undef, V.undef, V.undef, V.undef, V.undef, V.undef, V.undef, V.undef, V.undef, V.undef, V.undef, V.undef, V.undef, V.undef, V.undef, V.undef, V.undef, V.undef, V.undef, V.undef, V.undef, V.undef, V.undef, V.undef, V.undef, V.undef, V.undef, V.undef, V.undef, V.undef, V.undef, V.undef, V.undef, V.undef, V.undef, V.undef, V.undef, V.undef, V.undef, V.undef, V.undef, V.undef, V.undef, V.undef, V.undef, V.undef, V.undef, V.undef, V.undef, V.undef, V.undef, V.undef, V.undef, V.undef, V.undef, V.undef, V.undef, V.undef, V.undef, V.undef, V.undef, V.undef, V.undef, V.undef, V.undef], [(2, c8), (6, c9), (9, c10)]⟩ h Q =
 ((0 < (List.length c9) ∧ V.isInt Go.IntKind.i64 (gv c9 0) = true) ∧ (let bz45 : Bool := (decide ((V.num (gv c9 0)) ≤ (1 : Int)));
 ((bz45 = true → bz45 = true) ∧ ((bz45 = true → (0 < (List.length c9) ∧ V.isInt Go.IntKind.i64 (gv c9 0) = true)) ∧ ((bz45 = true → bz45 = true) ∧ (let bz46 : Bool := (decide ((0 : Int) ≤ (V.num (gv c9 0))));
 (((bz45 = true → bz45 = true) ∧ True) ∧ (((cond bz45 bz46 false) = true → (0 + 49 ≤ (List.length c10))) ∧ (let cz47 : List V := (List.take 49 (List.drop 0 c10));
 (((cond bz45 bz46 false) = true → (0 + 49 ≤ (List.length c8))) ∧ (let cz48 : List V := (List.take 49 (List.drop 0 c8));
 (((cond bz45 bz46 false) = true → (cond bz45 bz46 false) = true) ∧ (((cond bz45 bz46 false) = true → (cond bz45 bz46 false) = true) ∧ (((cond bz45 bz46 false) = true → (fits [(V.int Go.IntKind.i64 (0 : Int)), (V.int Go.IntKind.i64 (0 : Int)), (V.int Go.IntKind.i64 (0 : Int)), (V.int Go.IntKind.i64 (0 : Int)), (V.int Go.IntKind.i64 (0 : Int)), (V.int Go.IntKind.i64 (0 : Int)), (V.int Go.IntKind.i64 (0 : Int)), (V.int Go.IntKind.i64 (0 : Int)), (V.int Go.IntKind.i64 (0 : Int)), (V.int Go.IntKind.i64 (0 : Int)), (V.int Go.IntKind.i64 (0 : Int)), (V.int Go.IntKind.i64 (0 : Int)), (V.int Go.IntKind.i64 (0 : Int)), (V.int Go.IntKind.i64 (0 : Int)), (V.int Go.IntKind.i64 (0 : Int)), (V.int Go.IntKind.i64 (0 : Int)), (V.int Go.IntKind.i64 (0 : Int)), (V.int Go.IntKind.i64 (0 : Int)), (V.int Go.IntKind.i64 (0 : Int)), (V.int Go.IntKind.i64 (0 : Int)), (V.int Go.IntKind.i64 (0 : Int)), (V.int Go.IntKind.i64 (0 : Int)), (V.int Go.IntKind.i64 (0 : Int)), (V.int Go.IntKind.i64 (0 : Int)), (V.int Go.IntKind.i64 (0 : Int)), (V.int Go.IntKind.i64 (0 : Int)), (V.int Go.IntKind.i64 (0 : Int)), (V.int Go.IntKind.i64 (0 : Int)), (V.int Go.IntKind.i64 (0 : Int)), (V.int Go.IntKind.i64 (0 : Int)), (V.int Go.IntKind.i64 (0 : Int)), (V.int Go.IntKind.i64 (0 : Int)), (V.int Go.IntKind.i64 (0 : Int)), (V.int Go.IntKind.i64 (0 : Int)), (V.int Go.IntKind.i64 (0 : Int)), (V.int Go.IntKind.i64 (0 : Int)), (V.int Go.IntKind.i64 (0 : Int)), (V.int Go.IntKind.i64 (0 : Int)), (V.int Go.IntKind.i64 (0 : Int)), (V.int Go.IntKind.i64 (0 : Int)), (V.int Go.IntKind.i64 (0 : Int)), (V.int Go.IntKind.i64 (0 : Int)), (V.int Go.IntKind.i64 (0 : Int)), (V.int Go.IntKind.i64 (0 : Int)), (V.int Go.IntKind.i64 (0 : Int)), (V.int Go.IntKind.i64 (0 : Int)), (V.int Go.IntKind.i64 (0 : Int)), (V.int Go.IntKind.i64 (0 : Int)), (V.int Go.IntKind.i64 (0 : Int))] cz47 = true ∧ fits [(V.int Go.IntKind.i64 (0 : Int)), (V.int Go.IntKind.i64 (0 : Int)), (V.int Go.IntKind.i64 (0 : Int)), (V.int Go.IntKind.i64 (0 : Int)), (V.int Go.IntKind.i64 (0 : Int)), (V.int Go.IntKind.i64 (0 : Int)), (V.int Go.IntKind.i64 (0 : Int)), (V.int Go.IntKind.i64 (0 : Int)), (V.int Go.IntKind.i64 (0 : Int)), (V.int Go.IntKind.i64 (0 : Int)), (V.int Go.IntKind.i64 (0 : Int)), (V.int Go.IntKind.i64 (0 : Int)), (V.int Go.IntKind.i64 (0 : Int)), (V.int Go.IntKind.i64 (0 : Int)), (V.int Go.IntKind.i64 (0 : Int)), (V.int Go.IntKind.i64 (0 : Int)), (V.int Go.IntKind.i64 (0 : Int)), (V.int Go.IntKind.i64 (0 : Int)), (V.int Go.IntKind.i64 (0 : Int)), (V.int Go.IntKind.i64 (0 : Int)), (V.int Go.IntKind.i64 (0 : Int)), (V.int Go.IntKind.i64 (0 : Int)), (V.int Go.IntKind.i64 (0 : Int)), (V.int Go.IntKind.i64 (0 : Int)), (V.int Go.IntKind.i64 (0 : Int)), (V.int Go.IntKind.i64 (0 : Int)), (V.int Go.IntKind.i64 (0 : Int)), (V.int Go.IntKind.i64 (0 : Int)), (V.int Go.IntKind.i64 (0 : Int)), (V.int Go.IntKind.i64 (0 : Int)), (V.int Go.IntKind.i64 (0 : Int)), (V.int Go.IntKind.i64 (0 : Int)), (V.int Go.IntKind.i64 (0 : Int)), (V.int Go.IntKind.i64 (0 : Int)), (V.int Go.IntKind.i64 (0 : Int)), (V.int Go.IntKind.i64 (0 : Int)), (V.int Go.IntKind.i64 (0 : Int)), (V.int Go.IntKind.i64 (0 : Int)), (V.int Go.IntKind.i64 (0 : Int)), (V.int Go.IntKind.i64 (0 : Int)), (V.int Go.IntKind.i64 (0 : Int)), (V.int Go.IntKind.i64 (0 : Int)), (V.int Go.IntKind.i64 (0 : Int)), (V.int Go.IntKind.i64 (0 : Int)), (V.int Go.IntKind.i64 (0 : Int)), (V.int Go.IntKind.i64 (0 : Int)), (V.int Go.IntKind.i64 (0 : Int)), (V.int Go.IntKind.i64 (0 : Int)), (V.int Go.IntKind.i64 (0 : Int))] cz48 = true)) ∧ ((((cond bz45 bz46 false) = true → (cond bz45 bz46 false) = true) ∧ True) ∧ (let bz49 : Bool := (cond (cond bz45 bz46 false) (!(eqlCells cz47 cz48)) false);
 (brW bz49
 ((3 < (List.length c9) ∧ V.isInt Go.IntKind.i64 (gv c9 3) = true) ∧ (wpA Try.prog f5_cf f5_n1101001100111110101 ⟨[V.undef, V.undef, (V.lp 2 0), V.undef, V.undef, V.undef, (V.lp 6 0), (V.int Go.IntKind.i64 x0), (V.int Go.IntKind.i64 x1), (V.lp 9 0), V.undef, (V.int Go.IntKind.i64 x2), (V.int Go.IntKind.i64 x3), (V.int Go.IntKind.i64 (V.num (gv c9 3))), V.undef, V.undef, V.undef, V.undef, V.undef, V.undef, V.undef, V.undef, V.undef, V.undef, (V.sl 12 e4 g5), (V.int Go.IntKind.i64 x6), (V.int Go.IntKind.i64 x7), V.undef, V.undef, V.undef, V.undef, V.undef, V.undef, V.undef, V.undef, V.undef, V.undef, V.undef, V.undef, V.undef, V.undef, V.undef, V.undef, V.undef, V.undef, V.undef, V.undef, V.undef, V.undef, V.undef, V.undef, V.undef, V.undef, V.undef, V.undef, V.undef, V.undef, V.undef, V.undef, V.undef, V.undef, V.undef, V.undef, V.undef, V.undef, V.undef, V.undef, V.undef, V.undef, V.undef, V.undef, V.undef, V.undef, V.undef, V.undef, V.undef, V.undef, V.undef, V.undef, V.undef, V.undef, V.undef, V.undef, V.undef, V.undef, V.undef, V.undef, V.undef, V.undef, V.undef, V.undef, V.undef, V.undef, V.undef], [(2, c8), (6, c9), (9, c10)]⟩ h Q))
 (Q Ex.normal ⟨[V.undef, V.undef, (V.lp 2 0), V.undef, V.undef, V.undef, (V.lp 6 0), (V.int Go.IntKind.i64 x0), (V.int Go.IntKind.i64 x1), (V.lp 9 0), V.undef, (V.int Go.IntKind.i64 x2), (V.int Go.IntKind.i64 x3), V.undef, V.undef, V.undef, V.undef, V.undef, V.undef, V.undef, V.undef, V.undef, V.undef, V.undef, (V.sl 12 e4 g5), (V.int Go.IntKind.i64 x6), (V.int Go.IntKind.i64 x7), V.undef, V.undef, V.undef, V.undef, V.undef, V.undef, V.undef, V.undef, V.undef, V.undef, V.undef, V.undef, V.undef, V.undef, V.undef, V.undef, V.undef, V.undef, V.undef, V.undef, V.undef, V.undef, V.undef, V.undef, V.undef, V.undef, V.undef, V.undef, V.undef, V.undef, V.undef, V.undef, V.undef, V.undef, V.undef, V.undef, V.undef, V.undef, (V.bool bz49), V.undef, V.undef, V.undef, V.undef, V.undef, V.undef, V.undef, V.undef, V.undef, V.undef, V.undef, V.undef, V.undef, V.undef, V.undef, V.undef, V.undef, V.undef, V.undef, V.undef, V.undef, V.undef, V.undef, V.undef, V.undef, V.undef, V.undef, V.undef], [(2, c8), (6, c9), (9, c10)]⟩ h)))))))))))))))))) := wpA_at f5_n1101001100111110_plug (by kernel_rfl)
theorem f5_n1101001100111110101_eq : f5_n1101001100111110101 = Code.seq f5_n11010011001111101010 f5_n11010011001111101011 := by
  simp only [f5_n1101001100111110101, f5_n11010011001111101010, f5_n11010011001111101011, hide_eq]
  kernel_rfl
theorem f5_n1101001100111111_plug : f5_n1101001100111111 = (codeAt [1, 1, 0, 1, 0, 0, 1, 1, 0, 0, 1, 1, 1, 1, 1, 1] f5_b) := by
  simp only [f5_n1101001100111111, hide_eq]
  try kernel_rfl
theorem f5_n1101001100111111_wp (x0 : Int) (x1 : Int) (x2 : Int) (x3 : Int) (e4 : List (List V)) (g5 : G) (x6 : Int) (x7 : Int) (b8 : Bool) (c9 : List V) (c10 : List V) (c11 : List V) (h : Heap) (Q : Ex → Fr → Heap → Prop) : wpA Try.prog f5_cf f5_n1101001100111111 ⟨[V.undef, V.undef, (V.lp 2 0), V.undef, V.undef, V.undef, (V.lp 6 0), (V.int Go.IntKind.i64 x0), (V.int Go.IntKind.i64 x1), (V.lp 9 0), V.undef, (V.int Go.IntKind.i64 x2), (V.int Go.IntKind.i64 x3), V.undef, V.undef, V.undef, V.undef, V.undef, V.undef, V.undef, V.undef, V.undef, V.undef, V.undef, (V.sl 12 e4 g5), (V.int Go.IntKind.i64 x6), (V.int Go.IntKind.i64 x7), V.undef, V.undef, V.undef, V.undef, V.undef, V.undef, V.undef, V.undef, V.undef, V.undef, V.undef, V.undef, V.undef, V.undef, V.undef, V.undef, V.undef, V.undef, V.undef, V.undef, V.undef, V.undef, V.undef, V.undef, V.undef, V.undef, V.undef, V.undef, V.undef, V.undef, V.undef, V.undef, V.undef, V.undef, V.undef, V.undef, V.undef, V.undef, (V.bool b8), V.undef, V.undef, V.undef, V.undef, V.undef, V.undef, V.undef, V.undef, V.undef, V.undef, V.undef, V.undef, V.undef, V.undef, V.undef, V.undef, V.undef, V.undef, V.undef, V.undef, V.undef, V.undef, V.undef, V.undef, V.undef, V.undef, V.undef, V.undef], [(2, c9), (6, c10), (9, c11)]⟩ h Q =
 (((!(x0 != x2)) = true → (!(x0 != x2)) = true) ∧ (((!(x0 != x2)) = true → (!(x0 != x2)) = true) ∧ ((((x0 != x2) = false → (!(x0 != x2)) = true) ∧ True) ∧ (let bz50 : Bool := (cond (x0 != x2) true (x1 != x3));
 (brW bz50
 (Q Ex.ret ⟨[V.undef, V.undef, V.undef, V.undef, (V.bool false), V.undef, V.undef, V.undef, V.undef, V.undef, V.undef, V.undef, V.undef, V.undef, V.undef, V.undef, V.undef, V.undef, V.undef, V.undef, V.undef, V.undef, V.undef, V.undef, V.undef, V.undef, V.undef, V.undef, V.undef, V.undef, V.undef, V.undef, V.undef, V.undef, V.undef, V.undef, V.undef, V.undef, V.undef, V.undef, V.undef, V.undef, V.undef, V.undef, V.undef, V.undef, V.undef, V.undef, V.undef, V.undef, V.undef, V.undef, V.undef, V.undef, V.undef, V.undef, V.undef, V.undef, V.undef, V.undef, V.undef, V.undef, V.undef, V.undef, V.undef, V.undef, V.undef, V.undef, V.undef, V.undef, V.undef, V.undef, V.undef, V.undef, V.undef, V.undef, V.undef, V.undef, V.undef, V.undef, V.undef, V.undef, V.undef, V.undef, V.undef, V.undef, V.undef, V.undef, V.undef, V.undef, V.undef, V.undef, V.undef, V.undef], []⟩ h)
 ((0 + 49 ≤ (List.length c11)) ∧ (let cz51 : List V := (List.take 49 (List.drop 0 c11));
 (((List.length cz51) = 49) ∧ 0 + 49 ≤ (List.length c9) ∧ (Q Ex.normal ⟨[V.undef, V.undef, (V.lp 2 0), V.undef, V.undef, V.undef, V.undef, V.undef, V.undef, V.undef, V.undef, V.undef, V.undef, V.undef, V.undef, V.undef, V.undef, V.undef, V.undef, V.undef, V.undef, V.undef, V.undef, V.undef, (V.sl 12 e4 g5), (V.int Go.IntKind.i64 x6), (V.int Go.IntKind.i64 x7), V.undef, V.undef, V.undef, V.undef, V.undef, V.undef, V.undef, V.undef, V.undef, V.undef, V.undef, V.undef, V.undef, V.undef, V.undef, V.undef, V.undef, V.undef, V.undef, V.undef, V.undef, V.undef, V.undef, V.undef, V.undef, V.undef, V.undef, V.undef, V.undef, V.undef, V.undef, V.undef, V.undef, V.undef, V.undef, V.undef, V.undef, V.undef, V.undef, V.undef, V.undef, V.undef, V.undef, V.undef, V.undef, V.undef, V.undef, V.undef, V.undef, V.undef, V.undef, V.undef, V.undef, V.undef, V.undef, V.undef, V.undef, V.undef, V.undef, V.undef, V.undef, V.undef, V.undef, V.undef, V.undef, V.undef, V.undef], [(2, (wrCells c9 0 cz51))]⟩ h))))))))) := wpA_at f5_n1101001100111111_plug (by kernel_rfl)
theorem f5_n11010011001111101010_plug : f5_n11010011001111101010 = (codeAt [1, 1, 0, 1, 0, 0, 1, 1, 0, 0, 1, 1, 1, 1, 1, 0, 1, 0, 1, 0] f5_b) := by
  simp only [f5_n11010011001111101010, hide_eq]
  try kernel_rfl
theorem f5_n11010011001111101010_wp (x0 : Int) (x1 : Int) (x2 : Int) (x3 : Int) (x4 : Int) (e5 : List (List V)) (g6 : G) (x7 : Int) (x8 : Int) (c9 : List V) (c10 : List V) (c11 : List V) (h : Heap) (Q : Ex → Fr → Heap → Prop) : wpA Try.prog f5_cf f5_n11010011001111101010 ⟨[V.undef, V.undef, (V.lp 2 0), V.undef, V.undef, V.undef, (V.lp 6 0), (V.int Go.IntKind.i64 x0), (V.int Go.IntKind.i64 x1), (V.lp 9 0), V.undef, (V.int Go.IntKind.i64 x2), (V.int Go.IntKind.i64 x3), (V.int Go.IntKind.i64 x4), V.undef, V.undef, V.undef, V.undef, V.undef, V.undef, V.undef, V.undef, V.undef, V.undef, (V.sl 12 e5 g6), (V.int Go.IntKind.i64 x7), (V.int Go.IntKind.i64 x8), V.undef, V.undef, V.undef, V.undef, V.undef, V.undef, V.undef, V.undef, V.undef, V.undef, V.undef, V.undef, V.undef, V.undef, V.undef, V.undef, V.undef, V.undef, V.undef, V.undef, V.undef, V.undef, V.undef, V.undef, V.undef, V.undef, V.undef, V.undef, V.undef, V.undef, V.undef, V.undef, V.undef, V.undef, V.undef, V.undef, V.undef, V.undef, V.undef, V.undef, V.undef, V.undef, V.undef, V.undef, V.undef, V.undef, V.undef, V.undef, V.undef, V.undef, V.undef, V.undef, V.undef, V.undef, V.undef, V.undef, V.undef, V.undef, V.undef, V.undef, V.undef, V.undef, V.undef, V.undef, V.undef, V.undef, V.undef], [(2, c9), (6, c10), (9, c11)]⟩ h Q =
 ((0 < (List.length c10) ∧ V.isInt Go.IntKind.i64 (gv c10 0) = true) ∧ (let bz52 : Bool := ((V.num (gv c10 0)) == (1 : Int));
 (brW bz52
 ((3 < (List.length c10) ∧ V.isInt Go.IntKind.i64 (gv c10 3) = true) ∧ (let iz53 : Int := (Go.IntKind.wrap Go.IntKind.i64 (0 - (V.num (gv c10 3))));
 (Q Ex.normal ⟨[V.undef, V.undef, (V.lp 2 0), V.undef, V.undef, V.undef, (V.lp 6 0), (V.int Go.IntKind.i64 x0), (V.int Go.IntKind.i64 x1), (V.lp 9 0), V.undef, (V.int Go.IntKind.i64 x2), (V.int Go.IntKind.i64 x3), (V.int Go.IntKind.i64 iz53), V.undef, V.undef, V.undef, V.undef, V.undef, V.undef, V.undef, V.undef, V.undef, V.undef, (V.sl 12 e5 g6), (V.int Go.IntKind.i64 x7), (V.int Go.IntKind.i64 x8), V.undef, V.undef, V.undef, V.undef, V.undef, V.undef, V.undef, V.undef, V.undef, V.undef, V.undef, V.undef, V.undef, V.undef, V.undef, V.undef, V.undef, V.undef, V.undef, V.undef, V.undef, V.undef, V.undef, V.undef, V.undef, V.undef, V.undef, V.undef, V.undef, V.undef, V.undef, V.undef, V.undef, V.undef, V.undef, V.undef, V.undef, V.undef, V.undef, V.undef, V.undef, V.undef, V.undef, V.undef, V.undef, V.undef, V.undef, V.undef, V.undef, V.undef, V.undef, V.undef, V.undef, V.undef, V.undef, V.undef, V.undef, V.undef, V.undef, V.undef, V.undef, V.undef, V.undef, V.undef, V.undef, V.undef, V.undef], [(2, c9), (6, c10), (9, c11)]⟩ h)))
 (Q Ex.normal ⟨[V.undef, V.undef, (V.lp 2 0), V.undef, V.undef, V.undef, (V.lp 6 0), (V.int Go.IntKind.i64 x0), (V.int Go.IntKind.i64 x1), (V.lp 9 0), V.undef, (V.int Go.IntKind.i64 x2), (V.int Go.IntKind.i64 x3), (V.int Go.IntKind.i64 x4), V.undef, V.undef, V.undef, V.undef, V.undef, V.undef, V.undef, V.undef, V.undef, V.undef, (V.sl 12 e5 g6), (V.int Go.IntKind.i64 x7), (V.int Go.IntKind.i64 x8), V.undef, V.undef, V.undef, V.undef, V.undef, V.undef, V.undef, V.undef, V.undef, V.undef, V.undef, V.undef, V.undef, V.undef, V.undef, V.undef, V.undef, V.undef, V.undef, V.undef, V.undef, V.undef, V.undef, V.undef, V.undef, V.undef, V.undef, V.undef, V.undef, V.undef, V.undef, V.undef, V.undef, V.undef, V.undef, V.undef, V.undef, V.undef, V.undef, V.undef, V.undef, V.undef, V.undef, (V.bool bz52), V.undef, V.undef, V.undef, V.undef, V.undef, V.undef, V.undef, V.undef, V.undef, V.undef, V.undef, V.undef, V.undef, V.undef, V.undef, V.undef, V.undef, V.undef, V.undef, V.undef, V.undef, V.undef, V.undef], [(2, c9), (6, c10), (9, c11)]⟩ h)))) := wpA_at f5_n11010011001111101010_plug (by kernel_rfl)
theorem f5_n110100111_plug : f5_n110100111 = (codeAt [1, 1, 0, 1, 0, 0, 1, 1, 1] f5_b) := by
  simp only [f5_n110100111, hide_eq]
  try kernel_rfl
theorem f5_n110100111_wp (e0 : List (List V)) (g1 : G) (x2 : Int) (x3 : Int) (c4 : List V) (h : Heap) (Q : Ex → Fr → Heap → Prop) : wpA Try.prog f5_cf f5_n110100111 ⟨[V.undef, V.undef, (V.lp 2 0), V.undef, V.undef, V.undef, V.undef, V.undef, V.undef, V.undef, V.undef, V.undef, V.undef, V.undef, V.undef, V.undef, V.undef, V.undef, V.undef, V.undef, V.undef, V.undef, V.undef, V.undef, (V.sl 12 e0 g1), (V.int Go.IntKind.i64 x2), (V.int Go.IntKind.i64 x3), V.undef, V.undef, V.undef, V.undef, V.undef, V.undef, V.undef, V.undef, V.undef, V.undef, V.undef, V.undef, V.undef, V.undef, V.undef, V.undef, V.undef, V.undef, V.undef, V.undef, V.undef, V.undef, V.undef, V.undef, V.undef, V.undef, V.undef, V.undef, V.undef, V.undef, V.undef, V.undef, V.undef, V.undef, V.undef, V.undef, V.undef, V.undef, V.undef, V.undef, V.undef, V.undef, V.undef, V.undef, V.undef, V.undef, V.undef, V.undef, V.undef, V.undef, V.undef, V.undef, V.undef, V.undef, V.undef, V.undef, V.undef, V.undef, V.undef, V.undef, V.undef, V.undef, V.undef, V.undef, V.undef, V.undef, V.undef], [(2, c4)]⟩ h Q =
 (let iz54 : Int := (Go.IntKind.wrap Go.IntKind.i64 (x3 + (1 : Int)));
 (Q Ex.normal ⟨[V.undef, V.undef, (V.lp 2 0), V.undef, V.undef, V.undef, V.undef, V.undef, V.undef, V.undef, V.undef, V.undef, V.undef, V.undef, V.undef, V.undef, V.undef, V.undef, V.undef, V.undef, V.undef, V.undef, V.undef, V.undef, (V.sl 12 e0 g1), (V.int Go.IntKind.i64 x2), (V.int Go.IntKind.i64 iz54), V.undef, V.undef, V.undef, V.undef, V.undef, V.undef, V.undef, V.undef, V.undef, V.undef, V.undef, V.undef, V.undef, V.undef, V.undef, V.undef, V.undef, V.undef, V.undef, V.undef, V.undef, V.undef, V.undef, V.undef, V.undef, V.undef, V.undef, V.undef, V.undef, V.undef, V.undef, V.undef, V.undef, V.undef, V.undef, V.undef, V.undef, V.undef, V.undef, V.undef, V.undef, V.undef, V.undef, V.undef, V.undef, V.undef, V.undef, V.undef, V.undef, V.undef, V.undef, V.undef, V.undef, V.undef, V.undef, V.undef, V.undef, V.undef, V.undef, V.undef, V.undef, V.undef, V.undef, V.undef, V.undef, V.undef, V.undef], [(2, c4)]⟩ h)) := wpA_at f5_n110100111_plug (by kernel_rfl)
theorem f5_n11010011001111101011_plug : f5_n11010011001111101011 = (codeAt [1, 1, 0, 1, 0, 0, 1, 1, 0, 0, 1, 1, 1, 1, 1, 0, 1, 0, 1, 1] f5_b) := by
  simp only [f5_n11010011001111101011, hide_eq]
  try kernel_rfl
theorem f5_n11010011001111101011_wp (x0 : Int) (x1 : Int) (x2 : Int) (x3 : Int) (x4 : Int) (e5 : List (List V)) (g6 : G) (x7 : Int) (x8 : Int) (c9 : List V) (c10 : List V) (c11 : List V) (h : Heap) (Q : Ex → Fr → Heap → Prop) : wpA Try.prog f5_cf f5_n11010011001111101011 ⟨[V.undef, V.undef, (V.lp 2 0), V.undef, V.undef, V.undef, (V.lp 6 0), (V.int Go.IntKind.i64 x0), (V.int Go.IntKind.i64 x1), (V.lp 9 0), V.undef, (V.int Go.IntKind.i64 x2), (V.int Go.IntKind.i64 x3), (V.int Go.IntKind.i64 x4), V.undef, V.undef, V.undef, V.undef, V.undef, V.undef, V.undef, V.undef, V.undef, V.undef, (V.sl 12 e5 g6), (V.int Go.IntKind.i64 x7), (V.int Go.IntKind.i64 x8), V.undef, V.undef, V.undef, V.undef, V.undef, V.undef, V.undef, V.undef, V.undef, V.undef, V.undef, V.undef, V.undef, V.undef, V.undef, V.undef, V.undef, V.undef, V.undef, V.undef, V.undef, V.undef, V.undef, V.undef, V.undef, V.undef, V.undef, V.undef, V.undef, V.undef, V.undef, V.undef, V.undef, V.undef, V.undef, V.undef, V.undef, V.undef, V.undef, V.undef, V.undef, V.undef, V.undef, V.undef, V.undef, V.undef, V.undef, V.undef, V.undef, V.undef, V.undef, V.undef, V.undef, V.undef, V.undef, V.undef, V.undef, V.undef, V.undef, V.undef, V.undef, V.undef, V.undef, V.undef, V.undef, V.undef, V.undef], [(2, c9), (6, c10), (9, c11)]⟩ h Q =
 ((2 < (List.length c10) ∧ V.isInt Go.IntKind.i64 (gv c10 2) = true) ∧ (let bz55 : Bool := ((V.num (gv c10 2)) == (1 : Int));
 (brW bz55
 (let iz56 : Int := (Go.IntKind.wrap Go.IntKind.i64 (x0 + x4));
 (Q Ex.normal ⟨[V.undef, V.undef, (V.lp 2 0), V.undef, V.undef, V.undef, V.undef, (V.int Go.IntKind.i64 iz56), (V.int Go.IntKind.i64 x1), (V.lp 9 0), V.undef, (V.int Go.IntKind.i64 x2), (V.int Go.IntKind.i64 x3), V.undef, V.undef, V.undef, V.undef, V.undef, V.undef, V.undef, V.undef, V.undef, V.undef, V.undef, (V.sl 12 e5 g6), (V.int Go.IntKind.i64 x7), (V.int Go.IntKind.i64 x8), V.undef, V.undef, V.undef, V.undef, V.undef, V.undef, V.undef, V.undef, V.undef, V.undef, V.undef, V.undef, V.undef, V.undef, V.undef, V.undef, V.undef, V.undef, V.undef, V.undef, V.undef, V.undef, V.undef, V.undef, V.undef, V.undef, V.undef, V.undef, V.undef, V.undef, V.undef, V.undef, V.undef, V.undef, V.undef, V.undef, V.undef, V.undef, V.undef, V.undef, V.undef, V.undef, V.undef, V.undef, V.undef, V.undef, V.undef, V.undef, V.undef, V.undef, V.undef, V.undef, V.undef, V.undef, V.undef, V.undef, V.undef, V.undef, V.undef, V.undef, V.undef, V.undef, V.undef, V.undef, V.undef, V.undef, V.undef], [(2, c9), (9, c11)]⟩ h))
 (let iz57 : Int := (Go.IntKind.wrap Go.IntKind.i64 (x1 + x4));
 (Q Ex.normal ⟨[V.undef, V.undef, (V.lp 2 0), V.undef, V.undef, V.undef, V.undef, (V.int Go.IntKind.i64 x0), (V.int Go.IntKind.i64 iz57), (V.lp 9 0), V.undef, (V.int Go.IntKind.i64 x2), (V.int Go.IntKind.i64 x3), V.undef, V.undef, V.undef, V.undef, V.undef, V.undef, V.undef, V.undef, V.undef, V.undef, V.undef, (V.sl 12 e5 g6), (V.int Go.IntKind.i64 x7), (V.int Go.IntKind.i64 x8), V.undef, V.undef, V.undef, V.undef, V.undef, V.undef, V.undef, V.undef, V.undef, V.undef, V.undef, V.undef, V.undef, V.undef, V.undef, V.undef, V.undef, V.undef, V.undef, V.undef, V.undef, V.undef, V.undef, V.undef, V.undef, V.undef, V.undef, V.undef, V.undef, V.undef, V.undef, V.undef, V.undef, V.undef, V.undef, V.undef, V.undef, V.undef, V.undef, V.undef, V.undef, V.undef, V.undef, V.undef, V.undef, V.undef, V.undef, V.undef, V.undef, V.undef, V.undef, V.undef, V.undef, V.undef, V.undef, V.undef, V.undef, V.undef, V.undef, V.undef, V.undef, V.undef, V.undef, V.undef, V.undef, V.undef, V.undef], [(2, c9), (9, c11)]⟩ h))))) := wpA_at f5_n11010011001111101011_plug (by kernel_rfl)
theorem f5_n11010011001111101011s1_wp (x0 : Int) (x1 : Int) (x2 : Int) (x3 : Int) (x4 : Int) (e5 : List (List V)) (g6 : G) (x7 : Int) (x8 : Int) (b9 : Bool) (c10 : List V) (c11 : List V) (c12 : List V) (h : Heap) (Q : Ex → Fr → Heap → Prop) : wpA Try.prog f5_cf f5_n11010011001111101011 ⟨[V.undef, V.undef, (V.lp 2 0), V.undef, V.undef, V.undef, (V.lp 6 0), (V.int Go.IntKind.i64 x0), (V.int Go.IntKind.i64 x1), (V.lp 9 0), V.undef, (V.int Go.IntKind.i64 x2), (V.int Go.IntKind.i64 x3), (V.int Go.IntKind.i64 x4), V.undef, V.undef, V.undef, V.undef, V.undef, V.undef, V.undef, V.undef, V.undef, V.undef, (V.sl 12 e5 g6), (V.int Go.IntKind.i64 x7), (V.int Go.IntKind.i64 x8), V.undef, V.undef, V.undef, V.undef, V.undef, V.undef, V.undef, V.undef, V.undef, V.undef, V.undef, V.undef, V.undef, V.undef, V.undef, V.undef, V.undef, V.undef, V.undef, V.undef, V.undef, V.undef, V.undef, V.undef, V.undef, V.undef, V.undef, V.undef, V.undef, V.undef, V.undef, V.undef, V.undef, V.undef, V.undef, V.undef, V.undef, V.undef, V.undef, V.undef, V.undef, V.undef, V.undef, (V.bool b9), V.undef, V.undef, V.undef, V.undef, V.undef, V.undef, V.undef, V.undef, V.undef, V.undef, V.undef, V.undef, V.undef, V.undef, V.undef, V.undef, V.undef, V.undef, V.undef, V.undef, V.undef, V.undef, V.undef], [(2, c10), (6, c11), (9, c12)]⟩ h Q =
 ((2 < (List.length c11) ∧ V.isInt Go.IntKind.i64 (gv c11 2) = true) ∧ (let bz58 : Bool := ((V.num (gv c11 2)) == (1 : Int));
 (brW bz58
 (let iz59 : Int := (Go.IntKind.wrap Go.IntKind.i64 (x0 + x4));
 (Q Ex.normal ⟨[V.undef, V.undef, (V.lp 2 0), V.undef, V.undef, V.undef, V.undef, (V.int Go.IntKind.i64 iz59), (V.int Go.IntKind.i64 x1), (V.lp 9 0), V.undef, (V.int Go.IntKind.i64 x2), (V.int Go.IntKind.i64 x3), V.undef, V.undef, V.undef, V.undef, V.undef, V.undef, V.undef, V.undef, V.undef, V.undef, V.undef, (V.sl 12 e5 g6), (V.int Go.IntKind.i64 x7), (V.int Go.IntKind.i64 x8), V.undef, V.undef, V.undef, V.undef, V.undef, V.undef, V.undef, V.undef, V.undef, V.undef, V.undef, V.undef, V.undef, V.undef, V.undef, V.undef, V.undef, V.undef, V.undef, V.undef, V.undef, V.undef, V.undef, V.undef, V.undef, V.undef, V.undef, V.undef, V.undef, V.undef, V.undef, V.undef, V.undef, V.undef, V.undef, V.undef, V.undef, V.undef, V.undef, V.undef, V.undef, V.undef, V.undef, V.undef, V.undef, V.undef, V.undef, V.undef, V.undef, V.undef, V.undef, V.undef, V.undef, V.undef, V.undef, V.undef, V.undef, V.undef, V.undef, V.undef, V.undef, V.undef, V.undef, V.undef, V.undef, V.undef, V.undef], [(2, c10), (9, c12)]⟩ h))
 (let iz60 : Int := (Go.IntKind.wrap Go.IntKind.i64 (x1 + x4));
 (Q Ex.normal ⟨[V.undef, V.undef, (V.lp 2 0), V.undef, V.undef, V.undef, V.undef, (V.int Go.IntKind.i64 x0), (V.int Go.IntKind.i64 iz60), (V.lp 9 0), V.undef, (V.int Go.IntKind.i64 x2), (V.int Go.IntKind.i64 x3), V.undef, V.undef, V.undef, V.undef, V.undef, V.undef, V.undef, V.undef, V.undef, V.undef, V.undef, (V.sl 12 e5 g6), (V.int Go.IntKind.i64 x7), (V.int Go.IntKind.i64 x8), V.undef, V.undef, V.undef, V.undef, V.undef, V.undef, V.undef, V.undef, V.undef, V.undef, V.undef, V.undef, V.undef, V.undef, V.undef, V.undef, V.undef, V.undef, V.undef, V.undef, V.undef, V.undef, V.undef, V.undef, V.undef, V.undef, V.undef, V.undef, V.undef, V.undef, V.undef, V.undef, V.undef, V.undef, V.undef, V.undef, V.undef, V.undef, V.undef, V.undef, V.undef, V.undef, V.undef, V.undef, V.undef, V.undef, V.undef, V.undef, V.undef, V.undef, V.undef, V.undef, V.undef, V.undef, V.undef, V.undef, V.undef, V.undef, V.undef, V.undef, V.undef, V.undef, V.undef, V.undef, V.undef, V.undef, V.undef], [(2, c10), (9, c12)]⟩ h))))) := wpA_at f5_n11010011001111101011_plug (by kernel_rfl)
theorem f5_n1101001100111111s1_wp (x0 : Int) (x1 : Int) (x2 : Int) (x3 : Int) (e4 : List (List V)) (g5 : G) (x6 : Int) (x7 : Int) (c8 : List V) (c9 : List V) (h : Heap) (Q : Ex → Fr → Heap → Prop) : wpA Try.prog f5_cf f5_n1101001100111111 ⟨[V.undef, V.undef, (V.lp 2 0), V.undef, V.undef, V.undef, V.undef, (V.int Go.IntKind.i64 x0), (V.int Go.IntKind.i64 x1), (V.lp 9 0), V.undef, (V.int Go.IntKind.i64 x2), (V.int Go.IntKind.i64 x3), V.undef, V.undef, V.undef, V.undef, V.undef, V.undef, V.undef, V.undef, V.undef, V.undef, V.undef, (V.sl 12 e4 g5), (V.int Go.IntKind.i64 x6), (V.int Go.IntKind.i64 x7), V.undef, V.undef, V.undef, V.undef, V.undef, V.undef, V.undef, V.undef, V.undef, V.undef, V.undef, V.undef, V.undef, V.undef, V.undef, V.undef, V.undef, V.undef, V.undef, V.undef, V.undef, V.undef, V.undef, V.undef, V.undef, V.undef, V.undef, V.undef, V.undef, V.undef, V.undef, V.undef, V.undef, V.undef, V.undef, V.undef, V.undef, V.undef, V.undef, V.undef, V.undef, V.undef, V.undef, V.undef, V.undef, V.undef, V.undef, V.undef, V.undef, V.undef, V.undef, V.undef, V.undef, V.undef, V.undef, V.undef, V.undef, V.undef, V.undef, V.undef, V.undef, V.undef, V.undef, V.undef, V.undef, V.undef, V.undef], [(2, c8), (9, c9)]⟩ h Q =
 (((!(x0 != x2)) = true → (!(x0 != x2)) = true) ∧ (((!(x0 != x2)) = true → (!(x0 != x2)) = true) ∧ ((((x0 != x2) = false → (!(x0 != x2)) = true) ∧ True) ∧ (let bz61 : Bool := (cond (x0 != x2) true (x1 != x3));
 (brW bz61
 (Q Ex.ret ⟨[V.undef, V.undef, V.undef, V.undef, (V.bool false), V.undef, V.undef, V.undef, V.undef, V.undef, V.undef, V.undef, V.undef, V.undef, V.undef, V.undef, V.undef, V.undef, V.undef, V.undef, V.undef, V.undef, V.undef, V.undef, V.undef, V.undef, V.undef, V.undef, V.undef, V.undef, V.undef, V.undef, V.undef, V.undef, V.undef, V.undef, V.undef, V.undef, V.undef, V.undef, V.undef, V.undef, V.undef, V.undef, V.undef, V.undef, V.undef, V.undef, V.undef, V.undef, V.undef, V.undef, V.undef, V.undef, V.undef, V.undef, V.undef, V.undef, V.undef, V.undef, V.undef, V.undef, V.undef, V.undef, V.undef, V.undef, V.undef, V.undef, V.undef, V.undef, V.undef, V.undef, V.undef, V.undef, V.undef, V.undef, V.undef, V.undef, V.undef, V.undef, V.undef, V.undef, V.undef, V.undef, V.undef, V.undef, V.undef, V.undef, V.undef, V.undef, V.undef, V.undef, V.undef, V.undef], []⟩ h)
 ((0 + 49 ≤ (List.length c9)) ∧ (let cz62 : List V := (List.take 49 (List.drop 0 c9));
 (((List.length cz62) = 49) ∧ 0 + 49 ≤ (List.length c8) ∧ (Q Ex.normal ⟨[V.undef, V.undef, (V.lp 2 0), V.undef, V.undef, V.undef, V.undef, V.undef, V.undef, V.undef, V.undef, V.undef, V.undef, V.undef, V.undef, V.undef, V.undef, V.undef, V.undef, V.undef, V.undef, V.undef, V.undef, V.undef, (V.sl 12 e4 g5), (V.int Go.IntKind.i64 x6), (V.int Go.IntKind.i64 x7), V.undef, V.undef, V.undef, V.undef, V.undef, V.undef, V.undef, V.undef, V.undef, V.undef, V.undef, V.undef, V.undef, V.undef, V.undef, V.undef, V.undef, V.undef, V.undef, V.undef, V.undef, V.undef, V.undef, V.undef, V.undef, V.undef, V.undef, V.undef, V.undef, V.undef, V.undef, V.undef, V.undef, V.undef, V.undef, V.undef, V.undef, V.undef, V.undef, V.undef, V.undef, V.undef, V.undef, V.undef, V.undef, V.undef, V.undef, V.undef, V.undef, V.undef, V.undef, V.undef, V.undef, V.undef, V.undef, V.undef, V.undef, V.undef, V.undef, V.undef, V.undef, V.undef, V.undef, V.undef, V.undef, V.undef, V.undef], [(2, (wrCells c8 0 cz62))]⟩ h))))))))) := wpA_at f5_n1101001100111111_plug (by kernel_rfl)
theorem f5_end1 (b0 : Bool) (h : Heap) (K : V → Heap → Prop) : bodyK Try.prog Try.f5 K Ex.ret ⟨[V.undef, V.undef, V.undef, V.undef, (V.bool b0), V.undef, V.undef, V.undef, V.undef, V.undef, V.undef, V.undef, V.undef, V.undef, V.undef, V.undef, V.undef, V.undef, V.undef, V.undef, V.undef, V.undef, V.undef, V.undef, V.undef, V.undef, V.undef, V.undef, V.undef, V.undef, V.undef, V.undef, V.undef, V.undef, V.undef, V.undef, V.undef, V.undef, V.undef, V.undef, V.undef, V.undef, V.undef, V.undef, V.undef, V.undef, V.undef, V.undef, V.undef, V.undef, V.undef, V.undef, V.undef, V.undef, V.undef, V.undef, V.undef, V.undef, V.undef, V.undef, V.undef, V.undef, V.undef, V.undef, V.undef, V.undef, V.undef, V.undef, V.undef, V.undef, V.undef, V.undef, V.undef, V.undef, V.undef, V.undef, V.undef, V.undef, V.undef, V.undef, V.undef, V.undef, V.undef, V.undef, V.undef, V.undef, V.undef, V.undef, V.undef, V.undef, V.undef, V.undef, V.undef, V.undef], []⟩ h = (K (V.bool b0) h) := by kernel_rfl
end

section
open Go Go.Proofs Jb
set_option linter.unusedSimpArgs false
set_option maxRecDepth 8000

theorem Totals_good {t : List Int} (g : GoodI t) {h : Heap} {K : V → Heap → Prop} (m : K (.tup [.int .i64 (tc t), .int .i64 (ts t)]) h) : AnyW Try.prog 11 [.agg (ints t)] h K := by
  refine Totals_any g.fits ?_
  rw [g.totals]
  exact m

/-- What the totals are behind a call. -/
theorem doT_tot {t o : List Int} (g : GoodI t) (ho : o.length = 12) :
    ((gi o 0 = 0 ∨ gi o 0 = 1) ∧ doT t o ≠ t → 1 ≤ gi o 3 ∧ tc (doT t o) = tc t + (if gi o 2 = 1 then (if gi o 0 = 1 then -gi o 3 else gi o 3) else 0) ∧ ts (doT t o) = ts t + (if gi o 2 = 1 then 0 else (if gi o 0 = 1 then -gi o 3 else gi o 3))) ∧
    (¬ ((gi o 0 = 0 ∨ gi o 0 = 1) ∧ doT t o ≠ t) → tc (doT t o) = tc t ∧ ts (doT t o) = ts t) := by
  unfold doT
  by_cases k0 : gi o 0 = 0
  · rw [if_pos k0]
    simp only [k0, show ¬ ((0 : Int) = 1) from by omega, true_or, true_and, if_false]
    rcases deposit_after g (gi o 1) (gi o 2) (gi o 3) with ⟨h, e⟩ | ⟨h1, h2, h⟩
    · rw [e]; simp
    · refine ⟨fun _ => ⟨h1, h.2.1, h.2.2⟩, fun c => ?_⟩
      have c : (deposit t (gi o 1) (gi o 2) (gi o 3)).1 = t := Classical.byContradiction c
      rw [c]; simp
  rw [if_neg k0]
  by_cases k1 : gi o 0 = 1
  · rw [if_pos k1]
    simp only [k1, or_true, true_and, if_true]
    rcases withdraw_after g (gi o 1) (gi o 2) (gi o 3) with ⟨h, e⟩ | ⟨h1, h2, h⟩
    · rw [e]; simp
    · refine ⟨fun _ => ⟨h1, h.2.1, h.2.2⟩, fun c => ?_⟩
      have c : (withdraw t (gi o 1) (gi o 2) (gi o 3)).1 = t := Classical.byContradiction c
      rw [c]; simp
  rw [if_neg k1]
  simp only [k0, k1, or_self, false_and, false_implies, true_and, not_false_eq_true, true_implies]
  have z : ∀ {t' : List Int}, After t t' 0 0 → tc t' = tc t ∧ ts t' = ts t := fun a => ⟨by have := a.2.1; omega, by have := a.2.2; omega⟩
  split
  · exact z (hold_after g _ _ _)
  split
  · exact z (release_after g _ _ _)
  split
  · exact z (trade_both g (by simp [ho])).2
  · exact z (settle_after g _)

theorem PurseKeeps_call (t : List Int) (F : Fits t) (L : List (List Int)) (hL : ∀ o ∈ L, o.length = 12 ∧ ∀ n ∈ o, I64 n) (gg : G) (h : Heap) : CallW Try.prog 5 [.agg (ints t), .sl 12 (L.map ints) gg] h (fun r h' => r = .bool true ∧ h' = h) := by
  have ht := F.1
  refine CallW.body mix f5_cf Try.func5 (by rw [Try.ntmps5]; simp) ?_
  rw [f5_entry, f5_n_wp]
  refine ⟨by simp [ht], ?_⟩
  rw [f5_n1_eq, wpA_seq, f5_n10_eq, wpA_seq, f5_n100_wp]
  generalize hK : (fun (r : V) (h' : Heap) => r = .bool true ∧ h' = h) = K
  have hk : K (.bool true) h := by rw [← hK]; exact ⟨rfl, rfl⟩
  by_cases hlen : 100 < L.length
  · simp [show (100 : Int) < (L.length : Int) from by omega, hlen, f5_n101_wp]
    refine lives_any ?_
    simp [f5_end1, hk]
  · have hlen' : ¬ (100 : Int) < (L.length : Int) := by omega
    simp [hlen', hlen, ht, take_all]
    refine Plain_any ht ?_
    simp [ht]
    refine refGood_any F ?_
    cases hg : refGood t with
    | false =>
      simp [f5_n101_wp]
      refine lives_any ?_
      simp [f5_end1, hk]
    | true =>
      have g0 := (good_iff ht).1 hg
      simp [f5_n101_wp]
      rw [f5_n11_eq, wpA_seq, f5_n110_wp, f5_n11010_eq]
      refine wpA_loop (σ := Nat × List Int) (fun s => f5_n110100_F (L.map ints) gg L.length s.1 (ints s.2)) (fun _ => h) (fun s => L.length - s.1) (fun s => s.1 ≤ L.length ∧ GoodI s.2) (0, t) (by simp [f5_n110100_F]) rfl ⟨by simp, g0⟩ ?_
      clear hg g0 ht F t
      rintro ⟨i, t⟩ ⟨hi, g⟩
      simp only at hi g
      have ht := g.len
      simp only [f5_n110100_F]
      rw [f5_n110100_wp]
      by_cases hlt : i < L.length
      · have ho := hL L[i] (List.getElem_mem hlt)
        have gd := doT_after g ho.1
        have tot := doT_tot g ho.1
        have hr3 : I64 (gi L[i] 3) := ho.2 _ (gi_mem _ (by omega))
        have hge := ge_rows L hlt
        generalize L[i]'hlt = o at *
        have w12 : wrCells [.int .i64 0, .int .i64 0, .int .i64 0, .int .i64 0, .int .i64 0, .int .i64 0, .int .i64 0, .int .i64 0, .int .i64 0, .int .i64 0, .int .i64 0, .int .i64 0] 0 (ints o) = ints o := by simp [wrCells, ho.1]
        have w2 : ∀ (a l : List Int), a.length = 49 → l.length = 49 → wrCells (ints a) 0 (ints l) = ints l := fun a l h1 h2 => wr_all l (by simp [h1]) h2
        simp only [show (i : Int) < (L.length : Int) from by omega, decide_true, brW_true]
        rw [f5_n11010011_eq, wpA_seq, f5_n110100110_wp]
        simp [hge, hlt, ho.1, drop0 ho.1, w12, ht, take_all, -Prod.exists]
        refine Totals_good g ?_
        simp [ho.1, drop0 ho.1, w12, ht, take_all, -Prod.exists]
        refine AnyW.eq e15 (Do_call t o g ho.1 ho.2 h) ?_
        simp only [nilT, isTup_tup, vs_tup, gv_zero, gv_succ, isInt_i64, num_int, cells_agg, isAgg_agg, isBool_bool, flag_bool, true_and, List.length_cons, List.length_nil, decide_true, ints_len, gd.len, ht, w2 t _ ht gd.len, w2 (List.replicate 49 0) _ (by simp) gd.len]
        rw [f5_n1101001100111_eq, wpA_seq, f5_n11010011001110_eq, wpA_seq, f5_n110100110011100_wp]
        simp [gd.len, take_all, -Prod.exists]
        refine Good_any gd.fits ?_
        rw [(goodT_iff gd.len).2 gd]
        simp [f5_n110100110011101_wp, f5_n11010011001111_wp, gd.len, take_all, -Prod.exists]
        refine Totals_good gd ?_
        simp [-Prod.exists]
        rw [f5_n110100110011111_eq, wpA_seq, f5_n1101001100111110_wp]
        simp only [ints_len, ho.1, ints_isInt, ints_num, gd.len, ht, List.drop_zero, take_all gd.len, take_all ht, eqlCells_ints, nilT, fits_ints _ _ (show (List.replicate 49 (0 : Int)).length = (doT t o).length by simp [gd.len]), fits_ints _ _ (show (List.replicate 49 (0 : Int)).length = t.length by simp [ht])]
        have hw : IntKind.i64.wrap ((i : Int) + 1) = ((i + 1 : Nat) : Int) := wrap_up i (by omega)
        have b1 : tc (doT t o) ≤ 4611686018427387904 := gd.cash
        have b2 : ts (doT t o) ≤ 4611686018427387904 := gd.stock
        have b3 : 0 ≤ tc (doT t o) := by have := gd.sums.1; have := gd.rng 48 (by omega); unfold tc; omega
        have b4 : 0 ≤ ts (doT t o) := gd.sums.2
        unfold I64 at hr3
        by_cases adj : (gi o 0 = 0 ∨ gi o 0 = 1) ∧ doT t o ≠ t
        · have T := tot.1 adj
          obtain ⟨h01, hne⟩ := adj
          clear tot
          rcases h01 with k | k
          · simp [k, hne, -Prod.exists]
            rw [f5_n1101001100111110101_eq, wpA_seq, f5_n11010011001111101010_wp]
            simp [k, ho.1, beq_dec, f5_n11010011001111101011s1_wp, -Prod.exists]
            rw [k] at T
            by_cases s1 : gi o 2 = 1
            · rw [s1] at T
              simp only [if_true, show ¬ ((0 : Int) = 1) from by omega, if_false] at T
              have v : IntKind.i64.wrap (tc t + gi o 3) = tc (doT t o) := by
                rw [Go.IntWalk.i64_in _ (by omega)]; omega
              have v2 : ts (doT t o) = ts t := by omega
              simp [s1, v, v2, f5_n1101001100111111_wp, f5_n1101001100111111s1_wp, f5_n110100111_wp, bne_dec, gd.len, ht, take_all, w2 _ _ ht gd.len, hw, -Prod.exists, -Int.natCast_add]
              exact ⟨(i + 1, doT t o), ⟨rfl, rfl⟩, ⟨by simp only; omega, gd⟩, by simp only; omega⟩
            · simp only [s1, if_false, show ¬ ((0 : Int) = 1) from by omega] at T
              have v : IntKind.i64.wrap (ts t + gi o 3) = ts (doT t o) := by
                rw [Go.IntWalk.i64_in _ (by omega)]; omega
              have v2 : tc (doT t o) = tc t := by omega
              simp [s1, v, v2, f5_n1101001100111111_wp, f5_n1101001100111111s1_wp, f5_n110100111_wp, bne_dec, gd.len, ht, take_all, w2 _ _ ht gd.len, hw, -Prod.exists, -Int.natCast_add]
              exact ⟨(i + 1, doT t o), ⟨rfl, rfl⟩, ⟨by simp only; omega, gd⟩, by simp only; omega⟩
          · simp [k, hne, -Prod.exists]
            rw [f5_n1101001100111110101_eq, wpA_seq, f5_n11010011001111101010_wp]
            simp [k, ho.1, beq_dec, f5_n11010011001111101011_wp, -Prod.exists]
            rw [k] at T
            by_cases s1 : gi o 2 = 1
            · rw [s1] at T
              simp only [if_true, if_true] at T
              have v : IntKind.i64.wrap (tc t + IntKind.i64.wrap (-gi o 3)) = tc (doT t o) := by
                rw [Go.IntWalk.i64_in (-gi o 3) (by omega)]; rw [Go.IntWalk.i64_in _ (by omega)]; omega
              have v2 : ts (doT t o) = ts t := by omega
              simp [s1, v, v2, f5_n1101001100111111_wp, f5_n1101001100111111s1_wp, f5_n110100111_wp, bne_dec, gd.len, ht, take_all, w2 _ _ ht gd.len, hw, -Prod.exists, -Int.natCast_add]
              exact ⟨(i + 1, doT t o), ⟨rfl, rfl⟩, ⟨by simp only; omega, gd⟩, by simp only; omega⟩
            · simp only [s1, if_false, if_true] at T
              have v : IntKind.i64.wrap (ts t + IntKind.i64.wrap (-gi o 3)) = ts (doT t o) := by
                rw [Go.IntWalk.i64_in (-gi o 3) (by omega)]; rw [Go.IntWalk.i64_in _ (by omega)]; omega
              have v2 : tc (doT t o) = tc t := by omega
              simp [s1, v, v2, f5_n1101001100111111_wp, f5_n1101001100111111s1_wp, f5_n110100111_wp, bne_dec, gd.len, ht, take_all, w2 _ _ ht gd.len, hw, -Prod.exists, -Int.natCast_add]
              exact ⟨(i + 1, doT t o), ⟨rfl, rfl⟩, ⟨by simp only; omega, gd⟩, by simp only; omega⟩
        · have T := tot.2 adj
          have c : (bif bif decide (gi o 0 ≤ 1) then decide (0 ≤ gi o 0) else false then !decide (doT t o = t) else false) = false := by
            by_cases h1 : gi o 0 ≤ 1 <;> by_cases h2 : 0 ≤ gi o 0 <;> by_cases h3 : doT t o = t <;> simp [h1, h2, h3]
            exact adj ⟨by omega, h3⟩
          simp only [c, brW_false, seqK_normal, blockK_normal]
          simp [T.1, T.2, f5_n1101001100111111_wp, f5_n1101001100111111s1_wp, f5_n110100111_wp, bne_dec, gd.len, ht, take_all, w2 _ _ ht gd.len, hw, -Prod.exists, -Int.natCast_add]
          exact ⟨(i + 1, doT t o), ⟨rfl, rfl⟩, ⟨by simp only; omega, gd⟩, by simp only; omega⟩
      · simp [hlt, f5_n111_wp]
        refine lives_any ?_
        simp [f5_end1, hk]
end

section
/- From what is claimed of a Go function to what is asked of a call. -/
namespace Jb
open Go Go.ChangeShapes

/-- Types whose cells are all whole numbers of 64 bits, with a sign. -/
def allInt (P : Program) : Nat → TypeId → Bool
  | 0, _ => false
  | n + 1, t => match P.underlying t with
    | some (.int .i64) => true
    | some (.struct fs) => (List.range (P.cellsOf t)).all fun i => fs.toList.any fun f => decide (f.offset ≤ i) && decide (i < f.offset + P.cellsOf f.type) && allInt P n f.type
    | some (.array k e) => decide (k * P.cellsOf e = P.cellsOf t) && decide (0 < P.cellsOf e) && allInt P n e
    | _ => false

theorem trod_array {H : Type} {enc : TypeId × Value → H} {P : Program} {w : World} {base : Nat} {spare : Nat → Bool} {held : Bool} {fuel : Nat} {t e : TypeId} {k : Nat} {cs : List Value} {x : DataW H × List MemPlace}
    (ht : P.underlying t = some (.array k e)) (h : DataW.trod enc P w base spare held fuel t cs = some x) :
    ∃ (xs : List (DataW H × List MemPlace)) (n : Nat), fuel = n + 1 ∧ cs.length = P.cellsOf t ∧ xs.length = k ∧
      ∀ i, i < k → DataW.trod enc P w base spare held n e ((cs.drop (i * P.cellsOf e)).take (P.cellsOf e)) = xs[i]? := by
  cases fuel with
  | zero => simp [DataW.trod] at h
  | succ n =>
    unfold DataW.trod at h
    rw [ht] at h
    split at h <;> simp_all
    obtain ⟨hl, xs, hp, hd⟩ := h
    exact ⟨xs, by simpa using mapM_some_length hp, fun i hi => mapM_some_get hp i i (by simp [hi])⟩

theorem trod_allInt {H : Type} {enc : TypeId × Value → H} {P : Program} {w : World} {base : Nat} {spare : Nat → Bool} {held : Bool} : ∀ (n : Nat) {fuel : Nat} {t : TypeId} {cs : List Value} {x : DataW H × List MemPlace},
    allInt P n t = true → DataW.trod enc P w base spare held fuel t cs = some x → ∀ c ∈ cs, ∃ z, c = .int .i64 z ∧ I64 z
  | 0, _, _, _, _, a, _ => by cases a
  | n + 1, fuel, t, cs, x, a, h => by
    unfold allInt at a
    split at a
    · rename_i ht
      obtain ⟨z, rfl, _, hw⟩ := DataW.trod_int ht h
      intro c hc
      simp only [List.mem_singleton] at hc
      refine ⟨z, hc, ?_⟩
      simp only [Lit.wf, Bool.and_eq_true, decide_eq_true_eq] at hw
      exact hw
    · rename_i fs ht
      obtain ⟨xs, m, rfl, _, hl, hx, hf⟩ := DataW.trod_struct ht h
      intro c hc
      obtain ⟨i, hi, rfl⟩ := List.mem_iff_getElem.1 hc
      have := List.all_eq_true.1 a i (by simp; omega)
      obtain ⟨f, hfm, hf'⟩ := List.any_eq_true.1 this
      simp only [Bool.and_eq_true, decide_eq_true_eq] at hf'
      obtain ⟨j, hj, hj'⟩ := List.mem_iff_getElem.1 hfm
      have hj2 : j < fs.size := by simpa using hj
      have hfj : fs[j]? = some f := by rw [← Array.getElem?_toList, List.getElem?_eq_getElem hj, hj']
      have := hf j f hfj
      rw [List.getElem?_eq_getElem (by omega)] at this
      refine trod_allInt n hf'.2 this _ ?_
      refine List.mem_iff_getElem.2 ⟨i - f.offset, by simp; omega, ?_⟩
      simp only [List.getElem_take, List.getElem_drop]
      congr 1; omega
    · rename_i k e ht
      simp only [Bool.and_eq_true, decide_eq_true_eq] at a
      obtain ⟨xs, m, rfl, hl, hx, hf⟩ := trod_array ht h
      intro c hc
      obtain ⟨i, hi, rfl⟩ := List.mem_iff_getElem.1 hc
      have hi2 : i / P.cellsOf e < k := by rw [Nat.div_lt_iff_lt_mul a.1.2]; omega
      have := hf _ hi2
      rw [List.getElem?_eq_getElem (by omega)] at this
      have d := Nat.div_add_mod i (P.cellsOf e)
      have l := Nat.mod_lt i a.1.2
      have hmul : i / P.cellsOf e * P.cellsOf e = P.cellsOf e * (i / P.cellsOf e) := Nat.mul_comm _ _
      refine trod_allInt n a.2 this _ ?_
      refine List.mem_iff_getElem.2 ⟨i % P.cellsOf e, by simp; omega, ?_⟩
      simp only [List.getElem_take, List.getElem_drop]
      congr 1; omega
    · cases a

/-- Values that are whole numbers, as a list of them. -/
theorem ints_of {xs : List Value} (h : ∀ c ∈ xs, ∃ z, c = .int .i64 z ∧ I64 z) : ∃ l : List Int, xs = l.map (.int .i64) ∧ (∀ z ∈ l, I64 z) := by
  induction xs with
  | nil => exact ⟨[], rfl, by simp⟩
  | cons a xs ih =>
    obtain ⟨z, rfl, hz⟩ := h a (by simp)
    obtain ⟨l, rfl, hl⟩ := ih (fun c hc => h c (by simp [hc]))
    exact ⟨z :: l, rfl, by simpa using ⟨hz, hl⟩⟩

theorem rel_ints {S : Sim} {w : World} (l : List Int) : RelL S w (ints l) (l.map (.int .i64)) := by
  induction l with
  | nil => exact RelL.nil
  | cons a l ih => exact RelL.cons (Rel.int _ _) ih
theorem rel_agg_ints {S : Sim} {w : World} (l : List Int) : Rel S w (.agg (ints l)) (.agg (l.map (.int .i64)).toArray) :=
  Rel.agg _ _ (rel_ints (S := S) (w := w) l).1 (by simp [Value.oneCell']) (rel_ints l).2

/-- Nothing is known of any block. -/
def S0 : Sim := ⟨fun _ => none, fun _ => none, fun _ => (0, 0, 0)⟩
def h0 : Heap := fun _ => none
theorem hr0 (w : World) : HR S0 w h0 := ⟨fun l o h => (by cases h), fun l _ => ⟨rfl, rfl⟩⟩

/-- A slice of rows of whole numbers. -/
theorem rel_rows {H : Type} {enc : TypeId × Value → H} {P : Program} {w : World} {spare : Nat → Bool} {held : Bool} {r : Reach} {base : Nat} {t e : TypeId} {v : Value} {d : DataW H} {ps : List MemPlace} (ht : P.underlying t = some (.slice e)) (n : Nat) (he : allInt P n e = true) (hpos : 0 < P.cellsOf e)
    (hval : Value.okWide P w r base t v) (h : DataW.Trod enc P w 0 spare held t v d ps) : ∃ L : List (List Int), L.length ≤ maxLen ∧ (∀ l ∈ L, l.length = P.cellsOf e ∧ ∀ z ∈ l, I64 z) ∧ Rel S0 w (.sl (P.cellsOf e) (L.map ints) .no) v := by
  have hv : (v = .slice none 0 0) ∨ ∃ b o len cap, v = .slice (some ⟨b, o, none⟩) len cap := by
    unfold Value.okWide at hval
    rw [ht] at hval
    simp only [Cell.okWide, ht] at hval
    unfold Cell.ok at hval
    rw [ht] at hval
    cases v with
    | slice a len cap =>
      cases a with
      | none => cases len <;> cases cap <;> simp_all
      | some a =>
        obtain ⟨b, o, sp⟩ := a
        have : sp = none := hval.2.2.2.1
        subst this
        exact .inr ⟨b, o, len, cap, rfl⟩
    | _ => simp at hval
  obtain ⟨fuel, h⟩ := h
  rcases hv with rfl | ⟨b, o, len, cap, rfl⟩
  · exact ⟨[], by simp, by simp, Rel.slnil _ _ (by simp)⟩
  · have hc : (Value.slice (some ⟨b, o, none⟩) len cap).cells.toList = [.slice (some ⟨b, o, none⟩) len cap] := rfl
    rw [hc] at h
    rcases DataW.trod_slice ht h with ⟨e1, _⟩ | ⟨a, len', cap', elems, rest, m, rfl, e1, _, _, hle, hcap, hel, hget, _, _⟩
    · simp at e1
    simp only [List.cons.injEq, Value.slice.injEq, Option.some.injEq, and_true] at e1
    obtain ⟨rfl, rfl, rfl⟩ := e1
    have each : ∀ i, i < len → ∃ l : List Int, w.cells? 0 (Addr.add ⟨b, o, none⟩ (i * P.cellsOf e)) (P.cellsOf e) = some (l.map (.int .i64)) ∧ ∀ z ∈ l, I64 z := by
      intro i hi
      have := hget i hi
      rw [List.getElem?_eq_getElem (by omega)] at this
      obtain ⟨cs, h1, h2⟩ := Option.bind_eq_some_iff.1 this
      obtain ⟨l, rfl, hl⟩ := ints_of (trod_allInt n he h2)
      exact ⟨l, h1, hl⟩
    have : ∃ f : Nat → List Int, ∀ i, i < len → w.cells? 0 (Addr.add ⟨b, o, none⟩ (i * P.cellsOf e)) (P.cellsOf e) = some ((f i).map (.int .i64)) ∧ ∀ z ∈ f i, I64 z := by
      refine ⟨fun i => if h : i < len then (each i h).choose else [], fun i hi => ?_⟩
      simp only [hi, dite_true]
      exact (each i hi).choose_spec
    obtain ⟨f, hf⟩ := this
    have flen : ∀ i, i < len → (f i).length = P.cellsOf e := fun i hi => by have := (World.cells?_some (hf i hi).1).2.1; simpa using this
    have geti : ∀ (i : Nat) (x : List V), (List.map ints ((List.range len).map f))[i]? = some x → i < len ∧ x = ints (f i) := by
      intro i x hx
      simp only [List.getElem?_map, Option.map_eq_some_iff, List.getElem?_range] at hx
      obtain ⟨l, ⟨a, ha, rfl⟩, rfl⟩ := hx
      obtain ⟨hi, rfl⟩ := List.getElem?_eq_some_iff.1 ha
      simp only [List.length_range] at hi
      simp [hi]
    refine ⟨(List.range len).map f, by simp; omega, fun l hl => ?_, ?_⟩
    · obtain ⟨i, hi, rfl⟩ := List.mem_map.1 hl
      have hi : i < len := by simpa using hi
      exact ⟨flen i hi, (hf i hi).2⟩
    · have hk : ∀ (i : Nat) (x : List V), (List.map ints ((List.range len).map f))[i]? = some x → ∀ (j : Nat) (c : V), x[j]? = some c → c = .int .i64 (gi (f i) j) ∧ w.cell? ⟨b, o + i * P.cellsOf e + j, none⟩ = some (.int .i64 (gi (f i) j)) := by
        intro i x hx j c hc
        obtain ⟨hi, rfl⟩ := geti i x hx
        have hj : j < (f i).length := by
          have := (List.getElem?_eq_some_iff.1 hc).1
          simpa using this
        have e1 := (World.cells?_some (hf i hi).1).2.2 j (by rw [← flen i hi]; exact hj)
        have e2 : c = .int .i64 (gi (f i) j) := by
          have := ints_get (f i) hj
          unfold gv List.getD at this
          rw [hc] at this
          exact this
        refine ⟨e2, ?_⟩
        rw [show (⟨b, o + i * P.cellsOf e + j, none⟩ : Addr) = (Addr.add ⟨b, o, none⟩ (i * P.cellsOf e)).add j from by simp only [Addr.add]; split <;> split <;> simp_all <;> omega, e1, gi_lt _ hj]
        simp [hj]
      have := Rel.sl (S := S0) (w := w) (P.cellsOf e) (List.map ints ((List.range len).map f)) .no b o cap (fun i j => .int .i64 (gi (f i) j)) hpos (by simp; omega) trivial
        (fun i x hx => by obtain ⟨hi, rfl⟩ := geti i x hx; simp [flen i hi])
        (fun i x hx j c hc => ⟨trivial, (hk i x hx j c hc).2, rfl⟩)
        (fun i x hx j c hc => by rw [(hk i x hx j c hc).1]; exact Rel.int _ _)
      simpa using this

/-- A struct, an array, of whole numbers. -/
theorem rel_flat {H : Type} {enc : TypeId × Value → H} {P : Program} {w : World} {spare : Nat → Bool} {held : Bool} {r : Reach} {base b0 : Nat} {t : TypeId} {v : Value} {d : DataW H} {ps : List MemPlace} (ha : aggT P t = true) (n : Nat) (he : allInt P n t = true)
    (hval : Value.okWide P w r base t v) (h : DataW.Trod enc P w b0 spare held t v d ps) : ∃ l : List Int, l.length = P.cellsOf t ∧ (∀ z ∈ l, I64 z) ∧ v = .agg (l.map (.int .i64)).toArray := by
  obtain ⟨fuel, h⟩ := h
  have : ∃ cs, v = .agg cs ∧ cs.size = P.cellsOf t := by
    unfold Value.okWide at hval
    unfold aggT at ha
    split at hval
    · obtain ⟨cs, h1, h2, _⟩ := hval; exact ⟨cs, h1, h2⟩
    · obtain ⟨cs, h1, h2, _⟩ := hval; exact ⟨cs, h1, h2⟩
    · split at ha <;> simp_all
  obtain ⟨cs, rfl, hl⟩ := this
  obtain ⟨l, e, hz⟩ := ints_of (trod_allInt n he h)
  have e' : cs.toList = l.map (.int .i64) := e
  refine ⟨l, ?_, hz, ?_⟩
  · rw [← hl, ← Array.length_toList, e']; simp
  · rw [← e']

theorem kept_of {h h' : Heap} {S S' : Sim} {w w' : World} (L : Le (fun _ => False) h S w h' S' w') (hn : ∀ rb, S.own rb = none) (may : MemPlace → Prop) : w.keptBut w' may := by
  refine World.keptBut_mono (fun _ f => f.elim) (may := fun _ => False) ⟨L.os, L.output, fun i hi => ?_⟩
  rw [(L.un i hi (hn i)).1]
  exact (World.keptBut_refl w (fun _ => False)).2.2 i hi

theorem same_at {h h' : Heap} {S S' : Sim} {w w' : World} (L : Le (fun _ => False) h S w h' S' w') (hn : ∀ rb, S.own rb = none) (p : MemPlace) (hp : p.block < w.heap.size) : w.sameAt w' p := by
  have e := (L.un p.block hp (hn _)).1
  cases p with
  | cell b off => simp only [MemPlace.block] at e; simp only [World.sameAt, World.cell?, e]
  | map b => exact e

theorem args_again {H : Type} {enc : TypeId × Value → H} {P : Program} (hl : laidOutB P = true) {W W' : World} {sp : Nat → Bool} : ∀ {ts : List TypeId} {vs : List Value} {ds : List (DataW H)} {ps : List MemPlace}, (∀ t ∈ ts, P.readableRec t = true ∧ t < P.types.size) →
    DataW.TrodAll enc P W 0 (fun _ => true) true ts vs ds ps → (∀ p ∈ ps, W.sameAt W' p) → (∀ p ∈ ps, sp p.block = true) → DataW.TrodAll enc P W' 0 sp true ts vs ds ps
  | [], [], [], _, _, h, _, _ => h
  | t :: ts, v :: vs, d :: ds, ps, hts, ⟨p, q, h1, h2, e⟩, hs, hb => by
    subst e
    refine ⟨p, q, ?_, args_again hl (fun t ht => hts t (by simp [ht])) h2 (fun x hx => hs x (by simp [hx])) (fun x hx => hb x (by simp [hx])), rfl⟩
    exact Go.WideElems.Trod_stays hl (hts t (by simp)).1 (hts t (by simp)).2 h1 (fun x hx => hs x (by simp [hx])) (fun x hx => hb x (by simp [hx]))
  | [], _ :: _, _, _, _, h, _, _ => h.elim
  | [], [], _ :: _, _, _, h, _, _ => h.elim
  | _ :: _, [], _, _, _, h, _, _ => h.elim
  | _ :: _, _ :: _, [], _, _, h, _, _ => h.elim

/-- What is claimed of a law that answers true, and leaves all as it was. -/
theorem post_law {H : Type} {enc : TypeId × Value → H} {P : Program} {f : Func} {s : ChangeSpec} {apart fresh handsOn again : Bool} {W W' : World} {args : Array Value} {ds gs : List (DataW H)} {before : List MemPlace} {h h' : Heap} {S S' : Sim}
    (hW : DataW.Whole enc P f.params.toList s.vars apart W args.toList ds gs before) (hv : s.vars = []) (hs : (s.fn H (ds ++ gs)).results = [.lit (.bool true)] ∧ (s.fn H (ds ++ gs)).args = ds ∧ (s.fn H (ds ++ gs)).vars = [])
    {b : TypeId} (hr : f.resultTypes = #[b]) (hb : P.underlying b = some .bool) (hl : laidOutB P = true) (hts : ∀ t ∈ f.params.toList, P.readableRec t = true ∧ t < P.types.size)
    (L : Le (fun _ => False) h S W h' S' W') (hn : ∀ rb, S.own rb = none) : s.post enc P f apart fresh handsOn again W args (.bool true) W' := by
  have hlt := hW.lt
  have hsame : ∀ p ∈ before, W.sameAt W' p := fun p hp => same_at L hn p (hlt p hp)
  obtain ⟨s1, s2, s3⟩ := hs
  have hres : ∀ (b' : Nat) (sp : Nat → Bool) (hd : Bool), DataW.TrodAll enc P W' b' sp hd f.resultTypes.toList ((Value.bool true).resultList f.resultTypes.size) [.lit (.bool true)] [] := by
    intro b' sp hd
    rw [hr]
    exact trodAll_cons_mk (Go.RowKit.shut_bool hb true) trodAll_mk0
  have hok : ∀ (j : Nat) (t : TypeId) (r : Value), f.resultTypes[j]? = some t → ((Value.bool true).resultList f.resultTypes.size)[j]? = some r → Value.okWide P W' .any 0 t r :=
    Go.RowKit.ok_one hr rfl (Go.RowKit.okWide_bool_mk hb true)
  have hW0 := hW
  obtain ⟨p, q, hA, hV, rfl, hz, hnd⟩ := hW
  rw [hv] at hV
  obtain ⟨rfl, rfl⟩ := trodVars_none hV
  simp only [List.append_nil] at hsame hlt hz hnd hW0 s1 s2 s3
  have hargs : ∀ sp : Nat → Bool, (∀ x ∈ p, sp x.block = true) → DataW.TrodAll enc P W' 0 sp true f.params.toList args.toList ds p := fun sp hsp => args_again hl hts hA hsame hsp
  have hvars : ∀ sp : Nat → Bool, DataW.TrodVars enc P W' sp s.vars [] [] := fun sp => by rw [hv]; rfl
  refine ⟨ds, [], p, [], p, [], hW0, ?_, ?_, ?_, kept_of L hn _, fun _ => ⟨hok, .lit (.bool true) :: ds, [], p, ⟨[] ++ p, [], ?_, hvars _, by simp, ?_, ?_⟩, fun x hx _ => hx⟩⟩
  · rw [List.append_nil, s1]; exact hres _ _ _
  · rw [List.append_nil, s2]; exact hargs _ (fun x hx => by simpa using hlt x hx)
  · rw [List.append_nil, s3]; exact hvars _
  · exact trodAll_append (hargs _ (fun _ _ => rfl)) (hres _ _ _)
  · intro b off hp
    have e := (L.un b (hlt (.cell b off) hp) (hn _)).1
    have := hz b off hp
    simpa only [World.frozen?, e] using this
  · intro ha
    simpa using hnd ha
end Jb
end
