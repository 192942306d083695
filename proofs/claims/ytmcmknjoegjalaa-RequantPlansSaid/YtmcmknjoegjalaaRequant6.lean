/- Proved here: of Requant6, that what the Go functions of this part compute is as their contracts say (texts S6, Rg, Rh, JbZ, JbZb), for every input; no condition beyond those that each theorem states. -/
import Derived.Test.YtmcmknjoegjalaaRequant2
import Derived.KernelRfl
import Derived.Test.YtmcmknjoegjalaaProg
import Derived.Test.YtmcmknjoegjalaaRequant5
import Derived.WalkKit
import Derived.ProofKit
import Derived.OpenShut
import Derived.ChangeArms
import Derived.WideKeyArgs
import Derived.RowKit3
import Derived.Handed
set_option linter.all false
section
set_option linter.all false
set_option maxRecDepth 100000
open Go Go.Proofs Jb
def f6_cf : Cfg := ⟨[23], [(0, [1, 2, 6]), (1, [11, 12, 13, 14, 15, 16, 17]), (2, [0, 4, 5, 18, 19]), (3, [18, 20, 21, 22, 23, 24, 25]), (4, [0, 26, 27, 28, 29, 30, 31, 32]), (5, [4, 5, 7, 8, 9, 10, 33, 34, 35, 36, 37, 38, 39, 40, 41, 42, 43, 44, 45, 46, 47, 48, 49, 50, 51, 52])]⟩
noncomputable def f6_b : Code := bodyOf Try.f6
noncomputable def f6_n : Code :=  (codeAt [] f6_b)
noncomputable def f6_n1 : Code := hide (codeAt [1] f6_b)
noncomputable def f6_n10 : Code := hide (codeAt [1, 0] f6_b)
noncomputable def f6_n100 : Code := hide (codeAt [1, 0, 0] f6_b)
noncomputable def f6_n101 : Code := hide (codeAt [1, 0, 1] f6_b)
noncomputable def f6_n11 : Code := hide (codeAt [1, 1] f6_b)
noncomputable def f6_n1111 : Code := hide (codeAt [1, 1, 1, 1] f6_b)
noncomputable def f6_n11110 : Code := hide (codeAt [1, 1, 1, 1, 0] f6_b)
noncomputable def f6_n11111 : Code := hide (codeAt [1, 1, 1, 1, 1] f6_b)
theorem f6_entry (l : List (List V)) (l_g : G) (r : List V) (o : List V) (h : Heap) (K : V → Heap → Prop) : bodyW Try.prog f6_cf Try.f6 [(V.sl 6 l l_g), (V.agg r), (V.agg o)] h K = wpA Try.prog f6_cf f6_n ⟨[(V.sl 6 l l_g), (V.agg r), (V.agg o), V.undef, V.undef, V.undef, V.undef, V.undef, V.undef, V.undef, V.undef, V.undef, V.undef, V.undef, V.undef, V.undef, V.undef, V.undef, V.undef, V.undef, V.undef, V.undef, V.undef, V.undef, V.undef, V.undef, V.undef, V.undef, V.undef, V.undef, V.undef, V.undef, V.undef, V.undef, V.undef, V.undef, V.undef, V.undef, V.undef, V.undef, V.undef, V.undef, V.undef, V.undef, V.undef, V.undef, V.undef, V.undef, V.undef, V.undef, V.undef, V.undef, V.undef], []⟩ h (bodyK Try.prog Try.f6 K) := by kernel_rfl
theorem f6_n_plug : f6_n = (plug [1] (codeAt [] f6_b) f6_n1) := by
  simp only [f6_n, f6_n1, hide_eq]
  try kernel_rfl
theorem f6_n_wp (l : List (List V)) (l_g : G) (r : List V) (o : List V) (h : Heap) (Q : Ex → Fr → Heap → Prop) : wpA Try.prog f6_cf f6_n ⟨[(V.sl 6 l l_g), (V.agg r), (V.agg o), V.undef, V.undef, V.undef, V.undef, V.undef, V.undef, V.undef, V.undef, V.undef, V.undef, V.undef, V.undef, V.undef, V.undef, V.undef, V.undef, V.undef, V.undef, V.undef, V.undef, V.undef, V.undef, V.undef, V.undef, V.undef, V.undef, V.undef, V.undef, V.undef, V.undef, V.undef, V.undef, V.undef, V.undef, V.undef, V.undef, V.undef, V.undef, V.undef, V.undef, V.undef, V.undef, V.undef, V.undef, V.undef, V.undef, V.undef, V.undef, V.undef, V.undef], []⟩ h Q =
 (((List.length r) = 9) ∧ (((List.length o) = 6) ∧ (wpA Try.prog f6_cf f6_n1 ⟨[(V.sl 6 l l_g), V.undef, V.undef, V.undef, (V.lp 4 0), (V.lp 5 0), V.undef, V.undef, V.undef, V.undef, V.undef, V.undef, V.undef, V.undef, V.undef, V.undef, V.undef, V.undef, V.undef, V.undef, V.undef, V.undef, V.undef, V.undef, V.undef, V.undef, V.undef, V.undef, V.undef, V.undef, V.undef, V.undef, V.undef, V.undef, V.undef, V.undef, V.undef, V.undef, V.undef, V.undef, V.undef, V.undef, V.undef, V.undef, V.undef, V.undef, V.undef, V.undef, V.undef, V.undef, V.undef, V.undef, V.undef], [(4, r), (5, o)]⟩ h Q))) := wpA_at f6_n_plug (by kernel_rfl)
theorem f6_n1_eq : f6_n1 = Code.seq f6_n10 f6_n11 := by
  simp only [f6_n1, f6_n10, f6_n11, hide_eq]
  kernel_rfl
theorem f6_n10_eq : f6_n10 = Code.seq f6_n100 f6_n101 := by
  simp only [f6_n10, f6_n100, f6_n101, hide_eq]
  kernel_rfl
theorem f6_n100_plug : f6_n100 = (codeAt [1, 0, 0] f6_b) := by
  simp only [f6_n100, hide_eq]
  try kernel_rfl
theorem f6_n100_wp (e0 : List (List V)) (g1 : G) (c2 : List V) (c3 : List V) (h : Heap) (Q : Ex → Fr → Heap → Prop) : wpA Try.prog f6_cf f6_n100 ⟨[(V.sl 6 e0 g1), V.undef, V.undef, V.undef, (V.lp 4 0), (V.lp 5 0), V.undef, V.undef, V.undef, V.undef, V.undef, V.undef, V.undef, V.undef, V.undef, V.undef, V.undef, V.undef, V.undef, V.undef, V.undef, V.undef, V.undef, V.undef, V.undef, V.undef, V.undef, V.undef, V.undef, V.undef, V.undef, V.undef, V.undef, V.undef, V.undef, V.undef, V.undef, V.undef, V.undef, V.undef, V.undef, V.undef, V.undef, V.undef, V.undef, V.undef, V.undef, V.undef, V.undef, V.undef, V.undef, V.undef, V.undef], [(4, c2), (5, c3)]⟩ h Q =
 (let bz1 : Bool := (decide ((100 : Int) < ((List.length e0) : Int)));
 (((!bz1) = true → (0 + 9 ≤ (List.length c2))) ∧ (let cz2 : List V := (List.take 9 (List.drop 0 c2));
 (let kz3 : Bool → Heap → Prop := fun (xz4 : Bool) (hz5 : Heap) =>
 (((!bz1) = true → (!bz1) = true) ∧ (((bz1 = false → (!bz1) = true) ∧ True) ∧ (Q Ex.normal ⟨[(V.sl 6 e0 g1), V.undef, V.undef, V.undef, (V.lp 4 0), (V.lp 5 0), V.undef, V.undef, V.undef, V.undef, V.undef, V.undef, V.undef, V.undef, V.undef, V.undef, V.undef, V.undef, (V.bool (cond bz1 true (!xz4))), V.undef, V.undef, V.undef, V.undef, V.undef, V.undef, V.undef, V.undef, V.undef, V.undef, V.undef, V.undef, V.undef, V.undef, V.undef, V.undef, V.undef, V.undef, V.undef, V.undef, V.undef, V.undef, V.undef, V.undef, V.undef, V.undef, V.undef, V.undef, V.undef, V.undef, V.undef, V.undef, V.undef, V.undef], [(4, c2), (5, c3)]⟩ hz5)));
 brW (!bz1)
 (((!bz1) = true) ∧ (AnyW Try.prog 16 [(V.agg cz2)] h (fun (rz6 : V) (hz7 : Heap) =>
 ((True ∧ V.isBool rz6 = true) ∧ (kz3 (V.flag rz6) hz7)))))
 (kz3 false h))))) := wpA_at f6_n100_plug (by kernel_rfl)
theorem f6_n101_plug : f6_n101 = (codeAt [1, 0, 1] f6_b) := by
  simp only [f6_n101, hide_eq]
  try kernel_rfl
theorem f6_n101_wp (e0 : List (List V)) (g1 : G) (b2 : Bool) (c3 : List V) (c4 : List V) (h : Heap) (Q : Ex → Fr → Heap → Prop) : wpA Try.prog f6_cf f6_n101 ⟨[(V.sl 6 e0 g1), V.undef, V.undef, V.undef, (V.lp 4 0), (V.lp 5 0), V.undef, V.undef, V.undef, V.undef, V.undef, V.undef, V.undef, V.undef, V.undef, V.undef, V.undef, V.undef, (V.bool b2), V.undef, V.undef, V.undef, V.undef, V.undef, V.undef, V.undef, V.undef, V.undef, V.undef, V.undef, V.undef, V.undef, V.undef, V.undef, V.undef, V.undef, V.undef, V.undef, V.undef, V.undef, V.undef, V.undef, V.undef, V.undef, V.undef, V.undef, V.undef, V.undef, V.undef, V.undef, V.undef, V.undef, V.undef], [(4, c3), (5, c4)]⟩ h Q =
 (brW b2
 (AnyW Try.prog 17 [] h (fun (rz8 : V) (hz9 : Heap) =>
 ((True ∧ V.isBool rz8 = true) ∧ (Q Ex.ret ⟨[V.undef, V.undef, V.undef, V.undef, V.undef, V.undef, (V.bool (V.flag rz8)), V.undef, V.undef, V.undef, V.undef, V.undef, V.undef, V.undef, V.undef, V.undef, V.undef, V.undef, V.undef, V.undef, V.undef, V.undef, V.undef, V.undef, V.undef, V.undef, V.undef, V.undef, V.undef, V.undef, V.undef, V.undef, V.undef, V.undef, V.undef, V.undef, V.undef, V.undef, V.undef, V.undef, V.undef, V.undef, V.undef, V.undef, V.undef, V.undef, V.undef, V.undef, V.undef, V.undef, V.undef, V.undef, V.undef], []⟩ hz9))))
 (Q Ex.normal ⟨[(V.sl 6 e0 g1), V.undef, V.undef, V.undef, (V.lp 4 0), (V.lp 5 0), V.undef, V.undef, V.undef, V.undef, V.undef, V.undef, V.undef, V.undef, V.undef, V.undef, V.undef, V.undef, (V.bool b2), V.undef, V.undef, V.undef, V.undef, V.undef, V.undef, V.undef, V.undef, V.undef, V.undef, V.undef, V.undef, V.undef, V.undef, V.undef, V.undef, V.undef, V.undef, V.undef, V.undef, V.undef, V.undef, V.undef, V.undef, V.undef, V.undef, V.undef, V.undef, V.undef, V.undef, V.undef, V.undef, V.undef, V.undef], [(4, c3), (5, c4)]⟩ h)) := wpA_at f6_n101_plug (by kernel_rfl)
theorem f6_n11_plug : f6_n11 = (plug [1, 1] (codeAt [1, 1] f6_b) f6_n1111) := by
  simp only [f6_n11, f6_n1111, hide_eq]
  try kernel_rfl
theorem f6_n11_wp (e0 : List (List V)) (g1 : G) (b2 : Bool) (c3 : List V) (c4 : List V) (h : Heap) (Q : Ex → Fr → Heap → Prop) : wpA Try.prog f6_cf f6_n11 ⟨[(V.sl 6 e0 g1), V.undef, V.undef, V.undef, (V.lp 4 0), (V.lp 5 0), V.undef, V.undef, V.undef, V.undef, V.undef, V.undef, V.undef, V.undef, V.undef, V.undef, V.undef, V.undef, (V.bool b2), V.undef, V.undef, V.undef, V.undef, V.undef, V.undef, V.undef, V.undef, V.undef, V.undef, V.undef, V.undef, V.undef, V.undef, V.undef, V.undef, V.undef, V.undef, V.undef, V.undef, V.undef, V.undef, V.undef, V.undef, V.undef, V.undef, V.undef, V.undef, V.undef, V.undef, V.undef, V.undef, V.undef, V.undef], [(4, c3), (5, c4)]⟩ h Q =
 ((0 + 9 ≤ (List.length c3)) ∧ (let cz10 : List V := (List.take 9 (List.drop 0 c3));
 (AnyW Try.prog 18 [(V.sl 6 e0 g1), (V.agg cz10)] h (fun (rz11 : V) (hz12 : Heap) =>
 (V.isTup 2 rz11 = true ∧ (V.isRef 6 (gv (V.vs rz11) 0) = true ∧ (let lz13 : Nat := V.rl (gv (V.vs rz11) 0);
 let oz14 : Nat := V.ro (gv (V.vs rz11) 0);
 let mz15 : Nat := V.rn (gv (V.vs rz11) 0);
 let cz16 : Nat := V.rc (gv (V.vs rz11) 0);
 (V.isRef 6 (gv (V.vs rz11) 1) = true ∧ (let lz17 : Nat := V.rl (gv (V.vs rz11) 1);
 let oz18 : Nat := V.ro (gv (V.vs rz11) 1);
 let mz19 : Nat := V.rn (gv (V.vs rz11) 1);
 let cz20 : Nat := V.rc (gv (V.vs rz11) 1);
 ((true = true) ∧ ((true = true) ∧ ((0 + 9 ≤ (List.length c3)) ∧ (let cz21 : List V := (List.take 9 (List.drop 0 c3));
 (AnyW Try.prog 20 [(V.sl 6 e0 g1)] hz12 (fun (rz22 : V) (hz23 : Heap) =>
 ((True ∧ V.isSl 6 rz22 = true) ∧ (((0 + 9 ≤ (List.length c3)) ∧ (V.agg (List.take 9 (List.drop 0 c3))) = (V.agg cz21)) ∧ (AnyW Try.prog 19 [(V.sl 6 (V.els rz22) (V.right rz22)), (V.agg cz21)] hz23 (fun (rz24 : V) (hz25 : Heap) =>
 (V.isTup 2 rz24 = true ∧ ((True ∧ V.isSl 6 (gv (V.vs rz24) 0) = true) ∧ (let ez26 : List (List V) := (V.els (gv (V.vs rz24) 0));
 ((True ∧ V.isSl 6 (gv (V.vs rz24) 1) = true) ∧ (let ez27 : List (List V) := (V.els (gv (V.vs rz24) 1));
 ((true = true) ∧ ((true = true) ∧ (wpA Try.prog f6_cf f6_n1111 ⟨[V.undef, V.undef, V.undef, V.undef, (V.lp 4 0), (V.lp 5 0), V.undef, (V.sref 6 lz13 oz14 mz15 cz16), (V.sref 6 lz17 oz18 mz19 cz20), (V.sl 6 ez26 (V.right (gv (V.vs rz24) 0))), (V.sl 6 ez27 (V.right (gv (V.vs rz24) 1))), V.undef, V.undef, V.undef, V.undef, V.undef, V.undef, V.undef, V.undef, V.undef, V.undef, V.undef, V.undef, V.undef, V.undef, V.undef, V.undef, V.undef, V.undef, V.undef, V.undef, V.undef, V.undef, V.undef, V.undef, V.undef, V.undef, V.undef, V.undef, V.undef, V.undef, V.undef, V.undef, V.undef, V.undef, V.undef, V.undef, V.undef, V.undef, V.undef, V.undef, V.undef, V.undef], [(4, c3), (5, c4)]⟩ hz25 Q))))))))))))))))))))))))))) := wpA_at f6_n11_plug (by kernel_rfl)
theorem f6_n1111_eq : f6_n1111 = Code.seq f6_n11110 f6_n11111 := by
  simp only [f6_n1111, f6_n11110, f6_n11111, hide_eq]
  kernel_rfl
def f6_n1111_F (l0 : Nat) (o1 : Nat) (n2 : Nat) (c3 : Nat) (l4 : Nat) (o5 : Nat) (n6 : Nat) (c7 : Nat) (e8 : List (List V)) (g9 : G) (e10 : List (List V)) (g11 : G) (c12 : List V) (c13 : List V) : Fr := ⟨[V.undef, V.undef, V.undef, V.undef, (V.lp 4 0), (V.lp 5 0), V.undef, (V.sref 6 l0 o1 n2 c3), (V.sref 6 l4 o5 n6 c7), (V.sl 6 e8 g9), (V.sl 6 e10 g11), V.undef, V.undef, V.undef, V.undef, V.undef, V.undef, V.undef, V.undef, V.undef, V.undef, V.undef, V.undef, V.undef, V.undef, V.undef, V.undef, V.undef, V.undef, V.undef, V.undef, V.undef, V.undef, V.undef, V.undef, V.undef, V.undef, V.undef, V.undef, V.undef, V.undef, V.undef, V.undef, V.undef, V.undef, V.undef, V.undef, V.undef, V.undef, V.undef, V.undef, V.undef, V.undef], [(4, c12), (5, c13)]⟩
def f6_n11110_F (l0 : Nat) (o1 : Nat) (n2 : Nat) (c3 : Nat) (l4 : Nat) (o5 : Nat) (n6 : Nat) (c7 : Nat) (e8 : List (List V)) (g9 : G) (e10 : List (List V)) (g11 : G) (c12 : List V) (c13 : List V) : Fr := ⟨[V.undef, V.undef, V.undef, V.undef, (V.lp 4 0), (V.lp 5 0), V.undef, (V.sref 6 l0 o1 n2 c3), (V.sref 6 l4 o5 n6 c7), (V.sl 6 e8 g9), (V.sl 6 e10 g11), V.undef, V.undef, V.undef, V.undef, V.undef, V.undef, V.undef, V.undef, V.undef, V.undef, V.undef, V.undef, V.undef, V.undef, V.undef, V.undef, V.undef, V.undef, V.undef, V.undef, V.undef, V.undef, V.undef, V.undef, V.undef, V.undef, V.undef, V.undef, V.undef, V.undef, V.undef, V.undef, V.undef, V.undef, V.undef, V.undef, V.undef, V.undef, V.undef, V.undef, V.undef, V.undef], [(4, c12), (5, c13)]⟩
theorem f6_n11110_plug : f6_n11110 = (codeAt [1, 1, 1, 1, 0] f6_b) := by
  simp only [f6_n11110, hide_eq]
  try kernel_rfl
theorem f6_n11110_wp (l0 : Nat) (o1 : Nat) (n2 : Nat) (c3 : Nat) (l4 : Nat) (o5 : Nat) (n6 : Nat) (c7 : Nat) (e8 : List (List V)) (g9 : G) (e10 : List (List V)) (g11 : G) (c12 : List V) (c13 : List V) (h : Heap) (Q : Ex → Fr → Heap → Prop) : wpA Try.prog f6_cf f6_n11110 ⟨[V.undef, V.undef, V.undef, V.undef, (V.lp 4 0), (V.lp 5 0), V.undef, (V.sref 6 l0 o1 n2 c3), (V.sref 6 l4 o5 n6 c7), (V.sl 6 e8 g9), (V.sl 6 e10 g11), V.undef, V.undef, V.undef, V.undef, V.undef, V.undef, V.undef, V.undef, V.undef, V.undef, V.undef, V.undef, V.undef, V.undef, V.undef, V.undef, V.undef, V.undef, V.undef, V.undef, V.undef, V.undef, V.undef, V.undef, V.undef, V.undef, V.undef, V.undef, V.undef, V.undef, V.undef, V.undef, V.undef, V.undef, V.undef, V.undef, V.undef, V.undef, V.undef, V.undef, V.undef, V.undef], [(4, c12), (5, c13)]⟩ h Q =
 (AnyW Try.prog 21 [(V.sref 6 l0 o1 n2 c3), (V.sl 6 e8 g9)] h (fun (rz28 : V) (hz29 : Heap) =>
 ((True ∧ V.isBool rz28 = true) ∧ (let kz30 : Bool → Heap → Prop := fun (xz31 : Bool) (hz32 : Heap) =>
 ((((V.flag rz28) = true → (V.flag rz28) = true) ∧ True) ∧ (let bz33 : Bool := (cond (V.flag rz28) xz31 false);
 ((bz33 = true → (0 + 6 ≤ (List.length c13))) ∧ (let cz34 : List V := (List.take 6 (List.drop 0 c13));
 ((bz33 = true → (0 + 9 ≤ (List.length c12))) ∧ (let cz35 : List V := (List.take 9 (List.drop 0 c12));
 ((bz33 = true → (0 + 6 ≤ (List.length c13))) ∧ (let cz36 : List V := (List.take 6 (List.drop 0 c13));
 ((bz33 = true → (0 + 9 ≤ (List.length c12))) ∧ (let cz37 : List V := (List.take 9 (List.drop 0 c12));
 (let kz38 : Int → Heap → Prop := fun (xz39 : Int) (hz40 : Heap) =>
 (((bz33 = true → (0 + 9 ≤ (List.length c12))) ∧ (V.opt bz33 (V.agg (List.take 9 (List.drop 0 c12)))) = (V.opt bz33 (V.agg cz37))) ∧ (((bz33 = true → (0 + 6 ≤ (List.length c13))) ∧ (V.opt bz33 (V.agg (List.take 6 (List.drop 0 c13)))) = (V.opt bz33 (V.agg cz36))) ∧ (let kz41 : Int → Heap → Prop := fun (xz42 : Int) (hz43 : Heap) =>
 ((bz33 = true → bz33 = true) ∧ ((bz33 = true → bz33 = true) ∧ (((bz33 = true → bz33 = true) ∧ True) ∧ (let bz44 : Bool := (cond bz33 (xz39 == xz42) false);
 (let kz45 : Bool → Heap → Prop := fun (xz46 : Bool) (hz47 : Heap) =>
 (((bz44 = true → bz44 = true) ∧ True) ∧ (Q Ex.normal ⟨[V.undef, V.undef, V.undef, V.undef, V.undef, V.undef, (V.bool (cond bz44 xz46 false)), V.undef, V.undef, V.undef, V.undef, V.undef, V.undef, V.undef, V.undef, V.undef, V.undef, V.undef, V.undef, V.undef, V.undef, V.undef, V.undef, V.undef, V.undef, V.undef, V.undef, V.undef, V.undef, V.undef, V.undef, V.undef, V.undef, V.undef, V.undef, V.undef, V.undef, V.undef, V.undef, V.undef, V.undef, V.undef, V.undef, V.undef, V.undef, V.undef, V.undef, V.undef, V.undef, V.undef, V.undef, V.undef, V.undef], []⟩ hz47));
 brW bz44
 (AnyW Try.prog 17 [] hz43 (fun (rz48 : V) (hz49 : Heap) =>
 ((True ∧ V.isBool rz48 = true) ∧ (kz45 (V.flag rz48) hz49))))
 (kz45 false hz43))))));
 brW bz33
 ((bz33 = true) ∧ ((bz33 = true) ∧ (AnyW Try.prog 23 [(V.agg cz36), (V.agg cz37)] hz40 (fun (rz50 : V) (hz51 : Heap) =>
 ((True ∧ V.isInt Go.IntKind.i64 rz50 = true) ∧ (kz41 (V.num rz50) hz51))))))
 (kz41 (0 : Int) hz40))));
 brW bz33
 ((bz33 = true) ∧ ((bz33 = true) ∧ (AnyW Try.prog 22 [(V.agg cz34), (V.agg cz35)] hz32 (fun (rz52 : V) (hz53 : Heap) =>
 ((True ∧ V.isInt Go.IntKind.i64 rz52 = true) ∧ (kz38 (V.num rz52) hz53))))))
 (kz38 (0 : Int) hz32))))))))))));
 brW (V.flag rz28)
 (((V.flag rz28) = true) ∧ (((V.flag rz28) = true) ∧ (AnyW Try.prog 21 [(V.sref 6 l4 o5 n6 c7), (V.sl 6 e10 g11)] hz29 (fun (rz54 : V) (hz55 : Heap) =>
 ((True ∧ V.isBool rz54 = true) ∧ (kz30 (V.flag rz54) hz55))))))
 (kz30 false hz29))))) := wpA_at f6_n11110_plug (by kernel_rfl)
theorem f6_n11111_plug : f6_n11111 = (codeAt [1, 1, 1, 1, 1] f6_b) := by
  simp only [f6_n11111, hide_eq]
  try kernel_rfl
theorem f6_n11111_wp (b0 : Bool) (h : Heap) (Q : Ex → Fr → Heap → Prop) : wpA Try.prog f6_cf f6_n11111 ⟨[V.undef, V.undef, V.undef, V.undef, V.undef, V.undef, (V.bool b0), V.undef, V.undef, V.undef, V.undef, V.undef, V.undef, V.undef, V.undef, V.undef, V.undef, V.undef, V.undef, V.undef, V.undef, V.undef, V.undef, V.undef, V.undef, V.undef, V.undef, V.undef, V.undef, V.undef, V.undef, V.undef, V.undef, V.undef, V.undef, V.undef, V.undef, V.undef, V.undef, V.undef, V.undef, V.undef, V.undef, V.undef, V.undef, V.undef, V.undef, V.undef, V.undef, V.undef, V.undef, V.undef, V.undef], []⟩ h Q =
 (Q Ex.ret ⟨[V.undef, V.undef, V.undef, V.undef, V.undef, V.undef, (V.bool b0), V.undef, V.undef, V.undef, V.undef, V.undef, V.undef, V.undef, V.undef, V.undef, V.undef, V.undef, V.undef, V.undef, V.undef, V.undef, V.undef, V.undef, V.undef, V.undef, V.undef, V.undef, V.undef, V.undef, V.undef, V.undef, V.undef, V.undef, V.undef, V.undef, V.undef, V.undef, V.undef, V.undef, V.undef, V.undef, V.undef, V.undef, V.undef, V.undef, V.undef, V.undef, V.undef, V.undef, V.undef, V.undef, V.undef], []⟩ h) := wpA_at f6_n11111_plug (by kernel_rfl)
theorem f6_end1 (b0 : Bool) (h : Heap) (K : V → Heap → Prop) : bodyK Try.prog Try.f6 K Ex.ret ⟨[V.undef, V.undef, V.undef, V.undef, V.undef, V.undef, (V.bool b0), V.undef, V.undef, V.undef, V.undef, V.undef, V.undef, V.undef, V.undef, V.undef, V.undef, V.undef, V.undef, V.undef, V.undef, V.undef, V.undef, V.undef, V.undef, V.undef, V.undef, V.undef, V.undef, V.undef, V.undef, V.undef, V.undef, V.undef, V.undef, V.undef, V.undef, V.undef, V.undef, V.undef, V.undef, V.undef, V.undef, V.undef, V.undef, V.undef, V.undef, V.undef, V.undef, V.undef, V.undef, V.undef, V.undef], []⟩ h = (K (V.bool b0) h) := by kernel_rfl
end

section
open Go Go.Proofs Jb
set_option linter.unusedSimpArgs false

theorem eql_ocs (o : Odr) : eqlCells (ocs o) (ocs o) = true := by simp [ocs, eqlCells]
theorem fits_ocs (o : Odr) : fits [V.int .u64 0, .int .i64 0, .int .i64 0, .int .i64 0, .int .i64 0, .int .u64 0] (ocs o) = true := by simp [ocs, fits, kindEq]

theorem same_call (rs : List Odr) (l c : Nat) (g : G) (hn : rs.length ≤ 1000000) (h : Heap) (m : MS rs l c h) : CallW Try.prog 21 [.sref 6 l 0 rs.length c, .sl 6 (rows rs) g] h (fun v h' => v = .bool true ∧ h' = h) := by
  refine CallW.body mix f21_cf Try.func21 (by rw [Try.ntmps21]; simp) ?_
  rw [f21_entry, f21_n_wp]
  simp only [rows_len, bne_self_eq_false, brW_false]
  rw [f21_n11_eq, wpA_seq, f21_n110_wp, f21_n11010_eq]
  refine wpA_loop (σ := Nat) (fun i => f21_n110100_F l 0 rs.length c (rows rs) g rs.length i) (fun _ => h) (fun i => rs.length - i) (fun i => i ≤ rs.length) 0 (by simp [f21_n110100_F]) rfl (by simp) ?_
  intro i hi
  simp only [f21_n110100_F]
  rw [f21_n110100_wp]
  by_cases d1 : i < rs.length
  · rcases m with ⟨rfl, _⟩ | ⟨_, rest, m, q⟩
    · simp at d1
    · have e : cellsAt h l = tab rs ++ rest := by simp [cellsAt, m]
      simp only [show decide ((i : Int) < (rs.length : Int)) = true from decide_eq_true (by omega), brW_true, e, Int.toNat_natCast, zero_addN, tab_get rs rest d1, rows_len, rows_get rs d1, take_ocs, ocs_len, fits_ocs, eql_ocs, Bool.not_true, brW_false, wadd1 i (by omega)]
      simp only [List.length_append, tab_len]
      exact ⟨by omega, by omega, by omega, by omega, ⟨trivial, trivial⟩, i + 1, rfl, rfl, by omega, by omega⟩
  · simp only [show decide ((i : Int) < (rs.length : Int)) = false from decide_eq_false (by omega), brW_false, seqK_exit, blockK_exit, if_true, seqK_normal]
    rw [f21_n111_wp, f21_end1]
    exact ⟨rfl, rfl⟩
theorem same_any (rs : List Odr) (l c : Nat) (g : G) (hn : rs.length ≤ 1000000) {h : Heap} (m : MS rs l c h) {K : V → Heap → Prop} (k : K (.bool true) h) : AnyW Try.prog 21 [.sref 6 l 0 rs.length c, .sl 6 (rows rs) g] h K :=
  AnyW.eq (by kernel_rfl) (same_call rs l c g hn h m) k

theorem Sorted.uniq {F X Y : List Odr} (a : Sorted F X) (b : Sorted F Y) : X = Y := srt_uniq a.1 b.1 fun q => (a.2 q).symm.trans (b.2 q)

theorem plan_any (os : List Odr) (g0 : G) (r : Rul) (hl : r.ticks.length < 1000000) (hn : os.length ≤ 1000000) {h : Heap} {K : V → Heap → Prop}
    (k : ∀ gone l c l' c' h', MS (os.filter (fun o => whyO o r == 0)) l c h' → MS gone l' c' h' → Sorted (os.filter (fun o => whyO o r != 0)) gone → h.Sub h' →
      K (.tup [.sref 6 l 0 (os.filter (fun o => whyO o r == 0)).length c, .sref 6 l' 0 gone.length c']) h') :
    AnyW Try.prog 18 [.sl 6 (rows os) g0, .agg (rcs r)] h K :=
  AnyW.of (by kernel_rfl) (plan_call os g0 r hl hn h) (fun v h' e => by obtain ⟨gone, l, c, l', c', rfl, e1, e2, e3, e4⟩ := e; exact k gone l c l' c' h' e1 e2 e3 e4)
theorem plan6_any (os : List Odr) (g0 : G) (r : Rul) (hl : r.ticks.length < 1000000) (hn : os.length ≤ 1000000) {h : Heap} {K : V → Heap → Prop}
    (k : ∀ gone g g' h', Sorted (os.filter (fun o => whyO o r != 0)) gone → h.Sub h' → K (.tup [.sl 6 (rows (os.filter (fun o => whyO o r == 0))) g, .sl 6 (rows gone) g']) h') :
    AnyW Try.prog 19 [.sl 6 (rows os) g0, .agg (rcs r)] h K :=
  AnyW.of (by kernel_rfl) (plan6_call os g0 r hl hn h) (fun v h' e => by obtain ⟨gone, g, g', rfl, e1, e2⟩ := e; exact k gone g g' h' e1 e2)

/-- The chapter's example. -/
def ex1 : Odr := ⟨1, 0, 1, 12, 10, 0⟩
def ex2 : Odr := ⟨2, 0, 1, 15, 10, 0⟩
theorem ex_row (p : Int) (h1 : 1 ≤ p) : rowI basic.ticks p = 0 := by
  refine rowI_eq ⟨by decide, ?_, ?_⟩
  · intro q hq
    obtain rfl : q = 0 := by omega
    show (0 : Int) ≤ p
    omega
  · intro c
    exact absurd c (by decide)
theorem ex_tick : tickOk basic.ticks = true := by decide
theorem why1 : whyO ex1 basic = 40 := by
  unfold whyO onT
  rw [show ex1.price = 12 from rfl, ex_row 12 (by omega)]
  have : decide (Int.tmod (12 - (tk basic.ticks 0).1) (tk basic.ticks 0).2 = 0) = false := by decide
  rw [this, Bool.and_false]; rfl
theorem why2 : whyO ex2 basic = 0 := by
  unfold whyO onT mayT
  rw [show ex2.price = 15 from rfl, ex_row 15 (by omega), ex_tick]
  have : decide (Int.tmod (15 - (tk basic.ticks 0).1) (tk basic.ticks 0).2 = 0) = true := by decide
  rw [this]
  decide

theorem lives_call (h : Heap) : CallW Try.prog 17 [] h (fun v h' => v = .bool true ∧ h.Sub h') := by
  refine CallW.body mix f17_cf Try.func17 (by rw [Try.ntmps17]; simp) ?_
  rw [f17_entry, f17_n_wp]
  refine ⟨⟨trivial, trivial, trivial, trivial, trivial⟩, ⟨trivial, trivial, trivial, trivial, trivial⟩, ⟨rfl, rfl, trivial⟩, ?_⟩
  refine basic_any ⟨⟨trivial, by simp⟩, ?_⟩
  refine plan_any [ex1, ex2] .full basic (by decide) (by decide) fun gone l c l' c' h' m1 m2 so hs => ?_
  have f1 : [ex1, ex2].filter (fun o => whyO o basic == 0) = [ex2] := by simp [List.filter, why1, why2]
  have f2 : [ex1, ex2].filter (fun o => whyO o basic != 0) = [ex1] := by simp [List.filter, why1, why2]
  rw [f1] at m1
  rw [f2] at so
  have hg : gone = [ex1] := so.uniq ⟨List.pairwise_singleton _ _, fun _ => rfl⟩
  subst hg
  rw [f1]
  refine ⟨rfl, rfl, rfl, rfl, rfl, ?_⟩
  show wpA Try.prog f17_cf f17_n11 (f17_n11_F l 0 1 c l' 0 1 c') h' _
  rw [f17_n11_eq, wpA_seq]
  simp only [f17_n11_F]
  rw [f17_n110_wp]
  rcases m1 with ⟨e, _⟩ | ⟨_, rest, m1, q1⟩
  · cases e
  rcases m2 with ⟨e, _⟩ | ⟨_, rest', m2, q2⟩
  · cases e
  have e1 : cellsAt h' l = ocs ex2 ++ rest := by simp [cellsAt, m1]
  have e2 : cellsAt h' l' = ocs ex1 ++ rest' := by simp [cellsAt, m2]
  have e3 : List.take 6 (List.drop 0 (ocs ex1 ++ rest')) = ocs ex1 := rfl
  have e4 : gv (ocs ex2 ++ rest) 0 = .int .u64 2 := rfl
  have l1 : (ocs ex2 ++ rest).length = 6 + rest.length := by simp
  have l2 : (ocs ex1 ++ rest').length = 6 + rest'.length := by simp
  simp only [e1, e2, Nat.zero_add, Nat.add_zero, e3, e4, l1, l2, num_int, isInt_u64, show (((1 : Nat) : Int) == 1) = true from rfl, show ((2 : Int) == 2) = true from rfl, cond_true, brW_true, forall_const, true_and, and_true]
  refine ⟨by omega, by omega, by omega, by omega, ?_⟩
  refine basic_any ?_
  simp only [isAgg_agg, rcs_len, cells_agg, decide_true, true_and, e2, l2, Nat.add_zero, Nat.zero_add, e3, and_true]
  refine ⟨by omega, ?_⟩
  refine why_any ex1 basic (by decide) fun h2 hs2 => ?_
  simp [why1, f17_n111_wp, f17_end1, Heap.Sub.trans hs hs2]
theorem lives_any {h : Heap} {K : V → Heap → Prop} (k : ∀ h', h.Sub h' → K (.bool true) h') : AnyW Try.prog 17 [] h K :=
  AnyW.of (by kernel_rfl) (lives_call h) (fun v h' e => by obtain ⟨rfl, e⟩ := e; exact k h' e)
end

section
open Go Go.Proofs Jb
set_option linter.unusedSimpArgs false

theorem MS.sub {rs : List Odr} {l c : Nat} {h h' : Heap} (m : MS rs l c h) (s : h.Sub h') : MS rs l c h' := m.keep fun _ _ e => s _ _ e

theorem Stb.len {X Y : List Odr} (s : Stb X Y) : X.length = Y.length := by
  refine List.Perm.length_eq (List.perm_iff_count.2 fun a => ?_)
  have h : kf (a.seq, a.id) a = true := (kf_iff _ _).2 ⟨rfl, rfl⟩
  rw [← List.count_filter h, s, List.count_filter h]

theorem requant_call (os : List Odr) (g0 : G) (r : Rul) (o : Odr) (h : Heap) : CallW Try.prog 6 [.sl 6 (rows os) g0, .agg (rcs r), .agg (ocs o)] h (fun v _ => v = .bool true) := by
  refine CallW.body mix f6_cf Try.func6 (by rw [Try.ntmps6]; simp) ?_
  rw [f6_entry, f6_n_wp]
  refine ⟨rfl, rfl, ?_⟩
  rw [f6_n1_eq, wpA_seq, f6_n10_eq, wpA_seq, f6_n100_wp]
  simp only [rows_len, take_rcs, rcs_len]
  by_cases c1 : os.length ≤ 100
  · simp only [show decide ((100 : Int) < (os.length : Int)) = false from decide_eq_false (by omega), Bool.not_false, brW_true, forall_const, true_and, cond_false]
    refine ⟨by omega, ?_⟩
    refine light_any r ⟨rfl, ?_⟩
    simp only [flag_bool, seqK_normal]
    rw [f6_n101_wp]
    cases c2 : lightR r with
    | false =>
      rw [Bool.not_false, brW_true]
      refine lives_any fun h2 _ => ⟨⟨trivial, rfl⟩, ?_⟩
      simp only [seqK_ret]
      rw [f6_end1]
      rfl
    | true =>
      rw [Bool.not_true, brW_false, seqK_normal]
      have hl : r.ticks.length < 1000000 := by
        unfold lightR at c2
        rw [Bool.and_eq_true, decide_eq_true_eq] at c2
        omega
      rw [f6_n11_wp]
      simp only [take_rcs, rcs_len]
      refine ⟨by omega, ?_⟩
      refine plan_any os g0 r hl (by omega) fun gone l c l' c' h2 m1 m2 so hs => ?_
      refine ⟨rfl, rfl, rfl, trivial, trivial, by omega, ?_⟩
      refine plain_any os g0 (by omega) fun g1 h3 hs3 => ⟨⟨trivial, by simp⟩, ⟨by omega, trivial⟩, ?_⟩
      simp only [els_sl, right_sl]
      refine plan6_any os g1 r hl (by omega) fun gone' g2 g3 h4 so' hs4 => ?_
      obtain rfl : gone = gone' := so.uniq so'
      refine ⟨rfl, ⟨trivial, by simp⟩, ⟨trivial, by simp⟩, trivial, trivial, ?_⟩
      have k1 := (m1.sub hs3).sub hs4
      have k2 := (m2.sub hs3).sub hs4
      have n1 : (os.filter (fun o => whyO o r == 0)).length ≤ 1000000 := Nat.le_trans (List.length_filter_le _ _) (by omega)
      have n2 : gone.length ≤ 1000000 := by
        rw [← so.2.len]; exact Nat.le_trans (List.length_filter_le _ _) (by omega)
      generalize os.filter (fun o => whyO o r == 0) = keep at *
      show wpA Try.prog f6_cf f6_n1111 (f6_n1111_F l 0 keep.length c l' 0 gone.length c' (rows keep) g2 (rows gone) g3 (rcs r) (ocs o)) h4 _
      rw [f6_n1111_eq, wpA_seq]
      simp only [f6_n11110_F, f6_n1111_F]
      rw [f6_n11110_wp]
      refine same_any keep l c g2 n1 k1 ⟨⟨trivial, rfl⟩, ?_⟩
      simp only [flag_bool, brW_true, forall_const, true_and, cond_true]
      refine same_any gone l' c' g3 n2 k2 ⟨rfl, ?_⟩
      simp only [flag_bool, brW_true, forall_const, true_and, cond_true, take_ocs, take_rcs, ocs_len, rcs_len]
      refine ⟨by omega, by omega, by omega, by omega, ?_⟩
      refine why_any o r hl fun h5 hs5 => ⟨rfl, ⟨by omega, trivial⟩, ⟨by omega, trivial⟩, ?_⟩
      refine why6_any o r hl fun h6 hs6 => ⟨rfl, ?_⟩
      simp only [num_int, beq_self_eq_true, brW_true, cond_true]
      refine lives_any fun h7 _ => ⟨rfl, ⟨id, trivial⟩, ?_⟩
      simp only [seqK_normal, flag_bool]
      rw [f6_n11111_wp, f6_end1]
  · simp only [show decide ((100 : Int) < (os.length : Int)) = true from decide_eq_true (by omega), Bool.not_true, brW_false, false_implies, Bool.false_eq_true, Bool.true_eq_false, true_and, cond_true, seqK_normal]
    rw [f6_n101_wp, brW_true]
    refine lives_any fun h2 _ => ⟨⟨trivial, rfl⟩, ?_⟩
    simp only [seqK_ret]
    rw [f6_end1]
    rfl
end

section
/- From what is claimed of a Go function to what is asked of a call. -/
namespace Jb
open Go Go.ChangeShapes

/-- Types whose cells are all whole numbers of 64 bits, with a sign. -/
def allInt (P : Program) : Nat → TypeId → Bool
  | 0, _ => false
  | n + 1, t => match P.underlying t with
    | some (.int .i64) => true
    | some (.struct fs) => (List.range (P.cellsOf t)).all fun i => fs.toList.any fun f => decide (f.offset ≤ i) && decide (i < f.offset + P.cellsOf f.type) && allInt P n f.type
    | some (.array k e) => decide (k * P.cellsOf e = P.cellsOf t) && decide (0 < P.cellsOf e) && allInt P n e
    | _ => false

theorem trod_array {H : Type} {enc : TypeId × Value → H} {P : Program} {w : World} {base : Nat} {spare : Nat → Bool} {held : Bool} {fuel : Nat} {t e : TypeId} {k : Nat} {cs : List Value} {x : DataW H × List MemPlace}
    (ht : P.underlying t = some (.array k e)) (h : DataW.trod enc P w base spare held fuel t cs = some x) :
    ∃ (xs : List (DataW H × List MemPlace)) (n : Nat), fuel = n + 1 ∧ cs.length = P.cellsOf t ∧ xs.length = k ∧
      ∀ i, i < k → DataW.trod enc P w base spare held n e ((cs.drop (i * P.cellsOf e)).take (P.cellsOf e)) = xs[i]? := by
  cases fuel with
  | zero => simp [DataW.trod] at h
  | succ n =>
    unfold DataW.trod at h
    rw [ht] at h
    split at h <;> simp_all
    obtain ⟨hl, xs, hp, hd⟩ := h
    exact ⟨xs, by simpa using mapM_some_length hp, fun i hi => mapM_some_get hp i i (by simp [hi])⟩

theorem trod_allInt {H : Type} {enc : TypeId × Value → H} {P : Program} {w : World} {base : Nat} {spare : Nat → Bool} {held : Bool} : ∀ (n : Nat) {fuel : Nat} {t : TypeId} {cs : List Value} {x : DataW H × List MemPlace},
    allInt P n t = true → DataW.trod enc P w base spare held fuel t cs = some x → ∀ c ∈ cs, ∃ z, c = .int .i64 z ∧ I64 z
  | 0, _, _, _, _, a, _ => by cases a
  | n + 1, fuel, t, cs, x, a, h => by
    unfold allInt at a
    split at a
    · rename_i ht
      obtain ⟨z, rfl, _, hw⟩ := DataW.trod_int ht h
      intro c hc
      simp only [List.mem_singleton] at hc
      refine ⟨z, hc, ?_⟩
      simp only [Lit.wf, Bool.and_eq_true, decide_eq_true_eq] at hw
      exact hw
    · rename_i fs ht
      obtain ⟨xs, m, rfl, _, hl, hx, hf⟩ := DataW.trod_struct ht h
      intro c hc
      obtain ⟨i, hi, rfl⟩ := List.mem_iff_getElem.1 hc
      have := List.all_eq_true.1 a i (by simp; omega)
      obtain ⟨f, hfm, hf'⟩ := List.any_eq_true.1 this
      simp only [Bool.and_eq_true, decide_eq_true_eq] at hf'
      obtain ⟨j, hj, hj'⟩ := List.mem_iff_getElem.1 hfm
      have hj2 : j < fs.size := by simpa using hj
      have hfj : fs[j]? = some f := by rw [← Array.getElem?_toList, List.getElem?_eq_getElem hj, hj']
      have := hf j f hfj
      rw [List.getElem?_eq_getElem (by omega)] at this
      refine trod_allInt n hf'.2 this _ ?_
      refine List.mem_iff_getElem.2 ⟨i - f.offset, by simp; omega, ?_⟩
      simp only [List.getElem_take, List.getElem_drop]
      congr 1; omega
    · rename_i k e ht
      simp only [Bool.and_eq_true, decide_eq_true_eq] at a
      obtain ⟨xs, m, rfl, hl, hx, hf⟩ := trod_array ht h
      intro c hc
      obtain ⟨i, hi, rfl⟩ := List.mem_iff_getElem.1 hc
      have hi2 : i / P.cellsOf e < k := by rw [Nat.div_lt_iff_lt_mul a.1.2]; omega
      have := hf _ hi2
      rw [List.getElem?_eq_getElem (by omega)] at this
      have d := Nat.div_add_mod i (P.cellsOf e)
      have l := Nat.mod_lt i a.1.2
      have hmul : i / P.cellsOf e * P.cellsOf e = P.cellsOf e * (i / P.cellsOf e) := Nat.mul_comm _ _
      refine trod_allInt n a.2 this _ ?_
      refine List.mem_iff_getElem.2 ⟨i % P.cellsOf e, by simp; omega, ?_⟩
      simp only [List.getElem_take, List.getElem_drop]
      congr 1; omega
    · cases a

/-- Values that are whole numbers, as a list of them. -/
theorem ints_of {xs : List Value} (h : ∀ c ∈ xs, ∃ z, c = .int .i64 z ∧ I64 z) : ∃ l : List Int, xs = l.map (.int .i64) ∧ (∀ z ∈ l, I64 z) := by
  induction xs with
  | nil => exact ⟨[], rfl, by simp⟩
  | cons a xs ih =>
    obtain ⟨z, rfl, hz⟩ := h a (by simp)
    obtain ⟨l, rfl, hl⟩ := ih (fun c hc => h c (by simp [hc]))
    exact ⟨z :: l, rfl, by simpa using ⟨hz, hl⟩⟩

theorem rel_ints {S : Sim} {w : World} (l : List Int) : RelL S w (ints l) (l.map (.int .i64)) := by
  induction l with
  | nil => exact RelL.nil
  | cons a l ih => exact RelL.cons (Rel.int _ _) ih
theorem rel_agg_ints {S : Sim} {w : World} (l : List Int) : Rel S w (.agg (ints l)) (.agg (l.map (.int .i64)).toArray) :=
  Rel.agg _ _ (rel_ints (S := S) (w := w) l).1 (by simp [Value.oneCell']) (rel_ints l).2

/-- Nothing is known of any block. -/
def S0 : Sim := ⟨fun _ => none, fun _ => none, fun _ => (0, 0, 0)⟩
def h0 : Heap := fun _ => none
theorem hr0 (w : World) : HR S0 w h0 := ⟨fun l o h => (by cases h), fun l _ => ⟨rfl, rfl⟩⟩

/-- A slice of rows of whole numbers. -/
theorem rel_rows {H : Type} {enc : TypeId × Value → H} {P : Program} {w : World} {spare : Nat → Bool} {held : Bool} {r : Reach} {base : Nat} {t e : TypeId} {v : Value} {d : DataW H} {ps : List MemPlace} (ht : P.underlying t = some (.slice e)) (n : Nat) (he : allInt P n e = true) (hpos : 0 < P.cellsOf e)
    (hval : Value.okWide P w r base t v) (h : DataW.Trod enc P w 0 spare held t v d ps) : ∃ L : List (List Int), L.length ≤ maxLen ∧ (∀ l ∈ L, l.length = P.cellsOf e ∧ ∀ z ∈ l, I64 z) ∧ Rel S0 w (.sl (P.cellsOf e) (L.map ints) .no) v := by
  have hv : (v = .slice none 0 0) ∨ ∃ b o len cap, v = .slice (some ⟨b, o, none⟩) len cap := by
    unfold Value.okWide at hval
    rw [ht] at hval
    simp only [Cell.okWide, ht] at hval
    unfold Cell.ok at hval
    rw [ht] at hval
    cases v with
    | slice a len cap =>
      cases a with
      | none => cases len <;> cases cap <;> simp_all
      | some a =>
        obtain ⟨b, o, sp⟩ := a
        have : sp = none := hval.2.2.2.1
        subst this
        exact .inr ⟨b, o, len, cap, rfl⟩
    | _ => simp at hval
  obtain ⟨fuel, h⟩ := h
  rcases hv with rfl | ⟨b, o, len, cap, rfl⟩
  · exact ⟨[], by simp, by simp, Rel.slnil _ _ (by simp)⟩
  · have hc : (Value.slice (some ⟨b, o, none⟩) len cap).cells.toList = [.slice (some ⟨b, o, none⟩) len cap] := rfl
    rw [hc] at h
    rcases DataW.trod_slice ht h with ⟨e1, _⟩ | ⟨a, len', cap', elems, rest, m, rfl, e1, _, _, hle, hcap, hel, hget, _, _⟩
    · simp at e1
    simp only [List.cons.injEq, Value.slice.injEq, Option.some.injEq, and_true] at e1
    obtain ⟨rfl, rfl, rfl⟩ := e1
    have each : ∀ i, i < len → ∃ l : List Int, w.cells? 0 (Addr.add ⟨b, o, none⟩ (i * P.cellsOf e)) (P.cellsOf e) = some (l.map (.int .i64)) ∧ ∀ z ∈ l, I64 z := by
      intro i hi
      have := hget i hi
      rw [List.getElem?_eq_getElem (by omega)] at this
      obtain ⟨cs, h1, h2⟩ := Option.bind_eq_some_iff.1 this
      obtain ⟨l, rfl, hl⟩ := ints_of (trod_allInt n he h2)
      exact ⟨l, h1, hl⟩
    have : ∃ f : Nat → List Int, ∀ i, i < len → w.cells? 0 (Addr.add ⟨b, o, none⟩ (i * P.cellsOf e)) (P.cellsOf e) = some ((f i).map (.int .i64)) ∧ ∀ z ∈ f i, I64 z := by
      refine ⟨fun i => if h : i < len then (each i h).choose else [], fun i hi => ?_⟩
      simp only [hi, dite_true]
      exact (each i hi).choose_spec
    obtain ⟨f, hf⟩ := this
    have flen : ∀ i, i < len → (f i).length = P.cellsOf e := fun i hi => by have := (World.cells?_some (hf i hi).1).2.1; simpa using this
    have geti : ∀ (i : Nat) (x : List V), (List.map ints ((List.range len).map f))[i]? = some x → i < len ∧ x = ints (f i) := by
      intro i x hx
      simp only [List.getElem?_map, Option.map_eq_some_iff, List.getElem?_range] at hx
      obtain ⟨l, ⟨a, ha, rfl⟩, rfl⟩ := hx
      obtain ⟨hi, rfl⟩ := List.getElem?_eq_some_iff.1 ha
      simp only [List.length_range] at hi
      simp [hi]
    refine ⟨(List.range len).map f, by simp; omega, fun l hl => ?_, ?_⟩
    · obtain ⟨i, hi, rfl⟩ := List.mem_map.1 hl
      have hi : i < len := by simpa using hi
      exact ⟨flen i hi, (hf i hi).2⟩
    · have hk : ∀ (i : Nat) (x : List V), (List.map ints ((List.range len).map f))[i]? = some x → ∀ (j : Nat) (c : V), x[j]? = some c → c = .int .i64 (gi (f i) j) ∧ w.cell? ⟨b, o + i * P.cellsOf e + j, none⟩ = some (.int .i64 (gi (f i) j)) := by
        intro i x hx j c hc
        obtain ⟨hi, rfl⟩ := geti i x hx
        have hj : j < (f i).length := by
          have := (List.getElem?_eq_some_iff.1 hc).1
          simpa using this
        have e1 := (World.cells?_some (hf i hi).1).2.2 j (by rw [← flen i hi]; exact hj)
        have e2 : c = .int .i64 (gi (f i) j) := by
          have := ints_get (f i) hj
          unfold gv List.getD at this
          rw [hc] at this
          exact this
        refine ⟨e2, ?_⟩
        rw [show (⟨b, o + i * P.cellsOf e + j, none⟩ : Addr) = (Addr.add ⟨b, o, none⟩ (i * P.cellsOf e)).add j from by simp only [Addr.add]; split <;> split <;> simp_all <;> omega, e1, gi_lt _ hj]
        simp [hj]
      have := Rel.sl (S := S0) (w := w) (P.cellsOf e) (List.map ints ((List.range len).map f)) .no b o cap (fun i j => .int .i64 (gi (f i) j)) hpos (by simp; omega) trivial
        (fun i x hx => by obtain ⟨hi, rfl⟩ := geti i x hx; simp [flen i hi])
        (fun i x hx j c hc => ⟨trivial, (hk i x hx j c hc).2, rfl⟩)
        (fun i x hx j c hc => by rw [(hk i x hx j c hc).1]; exact Rel.int _ _)
      simpa using this

/-- A struct, an array, of whole numbers. -/
theorem rel_flat {H : Type} {enc : TypeId × Value → H} {P : Program} {w : World} {spare : Nat → Bool} {held : Bool} {r : Reach} {base b0 : Nat} {t : TypeId} {v : Value} {d : DataW H} {ps : List MemPlace} (ha : aggT P t = true) (n : Nat) (he : allInt P n t = true)
    (hval : Value.okWide P w r base t v) (h : DataW.Trod enc P w b0 spare held t v d ps) : ∃ l : List Int, l.length = P.cellsOf t ∧ (∀ z ∈ l, I64 z) ∧ v = .agg (l.map (.int .i64)).toArray := by
  obtain ⟨fuel, h⟩ := h
  have : ∃ cs, v = .agg cs ∧ cs.size = P.cellsOf t := by
    unfold Value.okWide at hval
    unfold aggT at ha
    split at hval
    · obtain ⟨cs, h1, h2, _⟩ := hval; exact ⟨cs, h1, h2⟩
    · obtain ⟨cs, h1, h2, _⟩ := hval; exact ⟨cs, h1, h2⟩
    · split at ha <;> simp_all
  obtain ⟨cs, rfl, hl⟩ := this
  obtain ⟨l, e, hz⟩ := ints_of (trod_allInt n he h)
  have e' : cs.toList = l.map (.int .i64) := e
  refine ⟨l, ?_, hz, ?_⟩
  · rw [← hl, ← Array.length_toList, e']; simp
  · rw [← e']

theorem kept_of {h h' : Heap} {S S' : Sim} {w w' : World} (L : Le (fun _ => False) h S w h' S' w') (hn : ∀ rb, S.own rb = none) (may : MemPlace → Prop) : w.keptBut w' may := by
  refine World.keptBut_mono (fun _ f => f.elim) (may := fun _ => False) ⟨L.os, L.output, fun i hi => ?_⟩
  rw [(L.un i hi (hn i)).1]
  exact (World.keptBut_refl w (fun _ => False)).2.2 i hi

theorem same_at {h h' : Heap} {S S' : Sim} {w w' : World} (L : Le (fun _ => False) h S w h' S' w') (hn : ∀ rb, S.own rb = none) (p : MemPlace) (hp : p.block < w.heap.size) : w.sameAt w' p := by
  have e := (L.un p.block hp (hn _)).1
  cases p with
  | cell b off => simp only [MemPlace.block] at e; simp only [World.sameAt, World.cell?, e]
  | map b => exact e

theorem args_again {H : Type} {enc : TypeId × Value → H} {P : Program} (hl : laidOutB P = true) {W W' : World} {sp : Nat → Bool} : ∀ {ts : List TypeId} {vs : List Value} {ds : List (DataW H)} {ps : List MemPlace}, (∀ t ∈ ts, P.readableRec t = true ∧ t < P.types.size) →
    DataW.TrodAll enc P W 0 (fun _ => true) true ts vs ds ps → (∀ p ∈ ps, W.sameAt W' p) → (∀ p ∈ ps, sp p.block = true) → DataW.TrodAll enc P W' 0 sp true ts vs ds ps
  | [], [], [], _, _, h, _, _ => h
  | t :: ts, v :: vs, d :: ds, ps, hts, ⟨p, q, h1, h2, e⟩, hs, hb => by
    subst e
    refine ⟨p, q, ?_, args_again hl (fun t ht => hts t (by simp [ht])) h2 (fun x hx => hs x (by simp [hx])) (fun x hx => hb x (by simp [hx])), rfl⟩
    exact Go.WideElems.Trod_stays hl (hts t (by simp)).1 (hts t (by simp)).2 h1 (fun x hx => hs x (by simp [hx])) (fun x hx => hb x (by simp [hx]))
  | [], _ :: _, _, _, _, h, _, _ => h.elim
  | [], [], _ :: _, _, _, h, _, _ => h.elim
  | _ :: _, [], _, _, _, h, _, _ => h.elim
  | _ :: _, _ :: _, [], _, _, h, _, _ => h.elim

/-- What is claimed of a law that answers true, and leaves all as it was. -/
theorem post_law {H : Type} {enc : TypeId × Value → H} {P : Program} {f : Func} {s : ChangeSpec} {apart fresh handsOn again : Bool} {W W' : World} {args : Array Value} {ds gs : List (DataW H)} {before : List MemPlace} {h h' : Heap} {S S' : Sim}
    (hW : DataW.Whole enc P f.params.toList s.vars apart W args.toList ds gs before) (hv : s.vars = []) (hs : (s.fn H (ds ++ gs)).results = [.lit (.bool true)] ∧ (s.fn H (ds ++ gs)).args = ds ∧ (s.fn H (ds ++ gs)).vars = [])
    {b : TypeId} (hr : f.resultTypes = #[b]) (hb : P.underlying b = some .bool) (hl : laidOutB P = true) (hts : ∀ t ∈ f.params.toList, P.readableRec t = true ∧ t < P.types.size)
    (L : Le (fun _ => False) h S W h' S' W') (hn : ∀ rb, S.own rb = none) : s.post enc P f apart fresh handsOn again W args (.bool true) W' := by
  have hlt := hW.lt
  have hsame : ∀ p ∈ before, W.sameAt W' p := fun p hp => same_at L hn p (hlt p hp)
  obtain ⟨s1, s2, s3⟩ := hs
  have hres : ∀ (b' : Nat) (sp : Nat → Bool) (hd : Bool), DataW.TrodAll enc P W' b' sp hd f.resultTypes.toList ((Value.bool true).resultList f.resultTypes.size) [.lit (.bool true)] [] := by
    intro b' sp hd
    rw [hr]
    exact trodAll_cons_mk (Go.RowKit.shut_bool hb true) trodAll_mk0
  have hok : ∀ (j : Nat) (t : TypeId) (r : Value), f.resultTypes[j]? = some t → ((Value.bool true).resultList f.resultTypes.size)[j]? = some r → Value.okWide P W' .any 0 t r :=
    Go.RowKit.ok_one hr rfl (Go.RowKit.okWide_bool_mk hb true)
  have hW0 := hW
  obtain ⟨p, q, hA, hV, rfl, hz, hnd⟩ := hW
  rw [hv] at hV
  obtain ⟨rfl, rfl⟩ := trodVars_none hV
  simp only [List.append_nil] at hsame hlt hz hnd hW0 s1 s2 s3
  have hargs : ∀ sp : Nat → Bool, (∀ x ∈ p, sp x.block = true) → DataW.TrodAll enc P W' 0 sp true f.params.toList args.toList ds p := fun sp hsp => args_again hl hts hA hsame hsp
  have hvars : ∀ sp : Nat → Bool, DataW.TrodVars enc P W' sp s.vars [] [] := fun sp => by rw [hv]; rfl
  refine ⟨ds, [], p, [], p, [], hW0, ?_, ?_, ?_, kept_of L hn _, fun _ => ⟨hok, .lit (.bool true) :: ds, [], p, ⟨[] ++ p, [], ?_, hvars _, by simp, ?_, ?_⟩, fun x hx _ => hx⟩⟩
  · rw [List.append_nil, s1]; exact hres _ _ _
  · rw [List.append_nil, s2]; exact hargs _ (fun x hx => by simpa using hlt x hx)
  · rw [List.append_nil, s3]; exact hvars _
  · exact trodAll_append (hargs _ (fun _ _ => rfl)) (hres _ _ _)
  · intro b off hp
    have e := (L.un b (hlt (.cell b off) hp) (hn _)).1
    have := hz b off hp
    simpa only [World.frozen?, e] using this
  · intro ha
    simpa using hnd ha
end Jb
end

section
/- From a claim's row to a call, further: cells of any kinds, slices of any rows, slices in structs. -/
namespace Jb
open Go Go.ChangeShapes

/-- What a cell of a type is. -/
inductive Kd where
  | int (k : IntKind)
  | bool
  | str
  | sl (e : TypeId)

/-- The kind of a type's cell at a place. -/
def kindAt (P : Program) : Nat → TypeId → Nat → Option Kd
  | 0, _, _ => none
  | n + 1, t, i => match P.underlying t with
    | some (.int k) => match i with | 0 => some (.int k) | _ => none
    | some .bool => match i with | 0 => some .bool | _ => none
    | some .string => match i with | 0 => some .str | _ => none
    | some (.slice e) => match i with | 0 => some (.sl e) | _ => none
    | some (.struct fs) => match fs.toList.find? (fun f => decide (f.offset ≤ i) && decide (i < f.offset + P.cellsOf f.type)) with
      | some f => kindAt P n f.type (i - f.offset)
      | none => none
    | some (.array k e) => match decide (k * P.cellsOf e = P.cellsOf t) && decide (0 < P.cellsOf e) with
      | true => kindAt P n e (i % P.cellsOf e)
      | false => none
    | _ => none

section
variable {H : Type} {enc : TypeId × Value → H} {P : Program} {w : World} {base : Nat} {spare : Nat → Bool} {held : Bool}

def CellIs (enc : TypeId × Value → H) (P : Program) (w : World) (base : Nat) (spare : Nat → Bool) (held : Bool) : Kd → Value → Prop
  | .int k, c => ∃ z, c = .int k z ∧ (Lit.int k z).wf = true
  | .bool, c => ∃ b, c = .bool b
  | .str, c => ∃ s : ByteArray, c = .string s ∧ s.size ≤ maxLen
  | .sl e, c => ∃ t fuel x, P.underlying t = some (.slice e) ∧ DataW.trod enc P w base spare held fuel t [c] = some x

theorem trod_at : ∀ (n : Nat) {fuel : Nat} {t : TypeId} {cs : List Value} {x : DataW H × List MemPlace} {i : Nat} {k : Kd} {c : Value},
    kindAt P n t i = some k → DataW.trod enc P w base spare held fuel t cs = some x → cs[i]? = some c → CellIs enc P w base spare held k c
  | 0, _, _, _, _, _, _, _, a, _, _ => by cases a
  | n + 1, fuel, t, cs, x, i, k, c, a, h, hc => by
    unfold kindAt at a
    split at a
    · rename_i k' ht
      obtain ⟨z, rfl, _, hw⟩ := DataW.trod_int ht h
      split at a
      · cases a; simp at hc; exact ⟨z, hc.symm, hw⟩
      · cases a
    · rename_i ht
      obtain ⟨z, rfl, _⟩ := DataW.trod_bool ht h
      split at a
      · cases a; simp at hc; exact ⟨z, hc.symm⟩
      · cases a
    · rename_i ht
      obtain ⟨z, rfl, _, hw⟩ := DataW.trod_string ht h
      split at a
      · cases a; simp at hc; exact ⟨z, hc.symm, hw⟩
      · cases a
    · rename_i e ht
      split at a
      · cases a
        have hone : ∃ c', cs = [c'] := by
          rcases DataW.trod_slice ht h with ⟨e1, _⟩ | ⟨_, _, _, _, _, _, _, e1, _⟩
          · exact ⟨_, e1⟩
          · exact ⟨_, e1⟩
        obtain ⟨c', rfl⟩ := hone
        simp at hc
        subst hc
        exact ⟨t, fuel, x, ht, h⟩
      · cases a
    · rename_i fs ht
      split at a
      · rename_i f hf
        obtain ⟨xs, m, rfl, _, hl, hx, hff⟩ := DataW.trod_struct ht h
        have hfm := List.mem_of_find?_eq_some hf
        have hf' := List.find?_some hf
        simp only [Bool.and_eq_true, decide_eq_true_eq] at hf'
        obtain ⟨j, hj, hj'⟩ := List.mem_iff_getElem.1 hfm
        have hj2 : j < fs.size := by simpa using hj
        have hfj : fs[j]? = some f := by rw [← Array.getElem?_toList, List.getElem?_eq_getElem hj, hj']
        have := hff j f hfj
        rw [List.getElem?_eq_getElem (by omega)] at this
        refine trod_at n a this ?_
        rw [List.getElem?_take, if_pos (by omega), List.getElem?_drop, show f.offset + (i - f.offset) = i from by omega]
        exact hc
      · cases a
    · rename_i m e ht
      split at a
      · rename_i hd
        simp only [Bool.and_eq_true, decide_eq_true_eq] at hd
        obtain ⟨xs, q, rfl, hl, hx, hf⟩ := trod_array ht h
        have hi : i < cs.length := (List.getElem?_eq_some_iff.1 hc).1
        have hi2 : i / P.cellsOf e < m := by rw [Nat.div_lt_iff_lt_mul hd.2]; omega
        have := hf _ hi2
        rw [List.getElem?_eq_getElem (by omega)] at this
        have d := Nat.div_add_mod i (P.cellsOf e)
        have l := Nat.mod_lt i hd.2
        have hmul : i / P.cellsOf e * P.cellsOf e = P.cellsOf e * (i / P.cellsOf e) := Nat.mul_comm _ _
        refine trod_at n a this ?_
        rw [List.getElem?_take, if_pos l, List.getElem?_drop, show i / P.cellsOf e * P.cellsOf e + i % P.cellsOf e = i from by omega]
        exact hc
      · cases a
    · cases a

theorem trod_len {fuel : Nat} {t : TypeId} {cs : List Value} {x : DataW H × List MemPlace} (ha : aggT P t = true) (h : DataW.trod enc P w base spare held fuel t cs = some x) : cs.length = P.cellsOf t := by
  unfold aggT at ha
  split at ha
  · rename_i fs ht; exact (DataW.trod_struct ht h).choose_spec.choose_spec.2.2.1
  · rename_i k e ht; exact (trod_array ht h).choose_spec.choose_spec.2.1
  · cases ha

/-- A slice's rows, each one told by 'vals'. -/
theorem rel_slice {α : Type} [Inhabited α] (vals : α → List Value) (cell : α → List V) (hrel : ∀ a, RelL S0 w (cell a) (vals a)) (hone : ∀ a, ∀ c ∈ vals a, c.oneCell' = true) {t e : TypeId} {v : Value} {fuel : Nat} {x : DataW H × List MemPlace}
    (ht : P.underlying t = some (.slice e)) (hpos : 0 < P.cellsOf e) (each : ∀ (n : Nat) (cs : List Value) (y : DataW H × List MemPlace), DataW.trod enc P w 0 spare held n e cs = some y → cs.length = P.cellsOf e → ∃ a, cs = vals a)
    (hv : v = .slice none 0 0 ∨ ∃ b o len cap, v = .slice (some ⟨b, o, none⟩) len cap) (h : DataW.trod enc P w 0 spare held fuel t [v] = some x) :
    ∃ L : List α, L.length ≤ maxLen ∧ Rel S0 w (.sl (P.cellsOf e) (L.map cell) .no) v := by
  rcases hv with rfl | ⟨b, o, len, cap, rfl⟩
  · exact ⟨[], by simp, Rel.slnil _ _ (by simp)⟩
  · rcases DataW.trod_slice ht h with ⟨e1, _⟩ | ⟨a, len', cap', elems, rest, m, rfl, e1, _, _, hle, hcap, hel, hget, _, _⟩
    · simp at e1
    simp only [List.cons.injEq, Value.slice.injEq, Option.some.injEq, and_true] at e1
    obtain ⟨rfl, rfl, rfl⟩ := e1
    have each' : ∀ i, i < len → ∃ a : α, w.cells? 0 (Addr.add ⟨b, o, none⟩ (i * P.cellsOf e)) (P.cellsOf e) = some (vals a) := by
      intro i hi
      have := hget i hi
      rw [List.getElem?_eq_getElem (by omega)] at this
      obtain ⟨cs, h1, h2⟩ := Option.bind_eq_some_iff.1 this
      obtain ⟨a, rfl⟩ := each m cs _ h2 (World.cells?_some h1).2.1
      exact ⟨a, h1⟩
    have : ∃ f : Nat → α, ∀ i, i < len → w.cells? 0 (Addr.add ⟨b, o, none⟩ (i * P.cellsOf e)) (P.cellsOf e) = some (vals (f i)) := by
      refine ⟨fun i => if h : i < len then (each' i h).choose else default, fun i hi => ?_⟩
      simp only [hi, dite_true]
      exact (each' i hi).choose_spec
    obtain ⟨f, hf⟩ := this
    have flen : ∀ i, i < len → (vals (f i)).length = P.cellsOf e := fun i hi => by have := (World.cells?_some (hf i hi)).2.1; simpa using this
    have clen : ∀ i, i < len → (cell (f i)).length = P.cellsOf e := fun i hi => by rw [← (hrel (f i)).1]; exact flen i hi
    have geti : ∀ (i : Nat) (x : List V), (List.map cell ((List.range len).map f))[i]? = some x → i < len ∧ x = cell (f i) := by
      intro i x hx
      simp only [List.getElem?_map, Option.map_eq_some_iff] at hx
      obtain ⟨l, ⟨a, ha, rfl⟩, rfl⟩ := hx
      obtain ⟨hi, rfl⟩ := List.getElem?_eq_some_iff.1 ha
      simp only [List.length_range] at hi
      simp [hi]
    refine ⟨(List.range len).map f, by simp; omega, ?_⟩
    have hk : ∀ (i : Nat) (x : List V), (List.map cell ((List.range len).map f))[i]? = some x → ∀ (j : Nat) (c : V), x[j]? = some c → ∃ y, (vals (f i))[j]? = some y ∧ w.cell? ⟨b, o + i * P.cellsOf e + j, none⟩ = some y ∧ Rel S0 w c y := by
      intro i x hx j c hc
      obtain ⟨hi, rfl⟩ := geti i x hx
      have hj : j < P.cellsOf e := by
        have := (List.getElem?_eq_some_iff.1 hc).1
        rwa [clen i hi] at this
      have e1 := (World.cells?_some (hf i hi)).2.2 j hj
      have hj2 : j < (vals (f i)).length := by rw [flen i hi]; exact hj
      refine ⟨(vals (f i))[j], List.getElem?_eq_getElem hj2, ?_, (hrel (f i)).2 j c _ hc (List.getElem?_eq_getElem hj2)⟩
      rw [show (⟨b, o + i * P.cellsOf e + j, none⟩ : Addr) = (Addr.add ⟨b, o, none⟩ (i * P.cellsOf e)).add j from by simp only [Addr.add]; split <;> split <;> simp_all <;> omega, e1]
      exact List.getElem?_eq_getElem hj2
    have := Rel.sl (S := S0) (w := w) (P.cellsOf e) (List.map cell ((List.range len).map f)) .no b o cap (fun i j => (vals (f i)).getD j Go.undef) hpos (by simp; omega) trivial
      (fun i x hx => by obtain ⟨hi, rfl⟩ := geti i x hx; exact clen i hi)
      (fun i x hx j c hc => by
        obtain ⟨y, y1, y2, y3⟩ := hk i x hx j c hc
        have : (vals (f i)).getD j Go.undef = y := by simp [List.getD, y1]
        rw [this]
        exact ⟨trivial, y2, hone _ _ (List.mem_of_getElem? y1)⟩)
      (fun i x hx j c hc => by
        obtain ⟨y, y1, y2, y3⟩ := hk i x hx j c hc
        have : (vals (f i)).getD j Go.undef = y := by simp [List.getD, y1]
        rw [this]
        exact y3)
    simpa using this

/-- A slice that is an argument, or a cell of one, has a plain address. -/
theorem plain_cell {r : Reach} {t e : TypeId} {v : Value} (ht : P.underlying t = some (.slice e)) (h : Cell.okWide P w r base t v) : v = .slice none 0 0 ∨ ∃ b o len cap, v = .slice (some ⟨b, o, none⟩) len cap := by
  simp only [Cell.okWide, ht] at h
  unfold Cell.ok at h
  rw [ht] at h
  cases v with
  | slice a len cap =>
    cases a with
    | none => cases len <;> cases cap <;> simp_all
    | some a =>
      obtain ⟨b, o, sp⟩ := a
      have : sp = none := h.2.2.2.1
      subst this
      exact .inr ⟨b, o, len, cap, rfl⟩
  | _ => simp at h
theorem plain_slice {r : Reach} {u : TypeId} {a : Option Addr} {len cap : Nat} (h : Cell.okWide P w r base u (.slice a len cap)) (hn : a = none → len = 0 ∧ cap = 0) : Value.slice a len cap = .slice none 0 0 ∨ ∃ b o len' cap', Value.slice a len cap = .slice (some ⟨b, o, none⟩) len' cap' := by
  cases a with
  | none => obtain ⟨rfl, rfl⟩ := hn rfl; exact .inl rfl
  | some a =>
    obtain ⟨b, o, sp⟩ := a
    have hsp : sp = none := by
      unfold Cell.okWide at h
      split at h <;> try (simp_all; done)
      unfold Cell.ok at h
      split at h <;> try (simp_all; done)
      rename_i e1 e2
      simp only [Value.slice.injEq, Option.some.injEq] at e2
      obtain ⟨rfl, rfl, rfl⟩ := e2
      exact h.2.2.2.1
    subst hsp
    exact .inr ⟨b, o, len, cap, rfl⟩

/-- A slice's cell in a struct. -/
theorem sl_plain {b0 : Nat} {r : Reach} {fuel : Nat} {x : DataW H × List MemPlace} {t e u : TypeId} {c : Value} (ht : P.underlying t = some (.slice e)) (h : DataW.trod enc P w base spare held fuel t [c] = some x) (hu : Cell.okWide P w r b0 u c) :
    c = .slice none 0 0 ∨ ∃ b o len cap, c = .slice (some ⟨b, o, none⟩) len cap := by
  rcases DataW.trod_slice ht h with ⟨e1, _⟩ | ⟨a, len, cap, _, _, _, _, e1, _⟩
  · simp only [List.cons.injEq, and_true] at e1; exact .inl e1
  · simp only [List.cons.injEq, and_true] at e1
    subst e1
    exact plain_slice hu (fun h => by cases h)


/-- A struct's cells. -/
theorem struct_cells {r : Reach} {t : TypeId} {v : Value} (ha : aggT P t = true) (hval : Value.okWide P w r base t v) : ∃ cs : List Value, v = .agg cs.toArray ∧ cs.length = P.cellsOf t ∧ v.cells.toList = cs ∧ ∀ c ∈ cs, ∃ u, Cell.okWide P w r base u c := by
  have : ∃ cs, v = .agg cs ∧ cs.size = P.cellsOf t ∧ Row.okWide P w r base t cs := by
    unfold Value.okWide at hval
    unfold aggT at ha
    split at hval
    · exact hval
    · exact hval
    · split at ha <;> simp_all
  obtain ⟨cs, rfl, hl, _, _, _, hr⟩ := this
  refine ⟨cs.toList, rfl, by simpa using hl, rfl, fun c hc => ?_⟩
  obtain ⟨i, hi, rfl⟩ := List.mem_iff_getElem.1 hc
  obtain ⟨u, _, hu⟩ := hr i cs.toList[i] (by simp at hi; simp [hi])
  exact ⟨u, hu⟩
end
end Jb
end
