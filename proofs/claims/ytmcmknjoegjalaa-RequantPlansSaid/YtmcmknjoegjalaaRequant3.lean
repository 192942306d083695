/- Proved here: of Requant3, that what the Go functions of this part compute is as their contracts say (texts S65, S66, S52, S53, S54, Rc, S85, S82, Qb, S62, S49, S48, S47, Qc, Qd, S72, Qe), for every input; no condition beyond those that each theorem states. -/
import Derived.Test.YtmcmknjoegjalaaRequant2
import Derived.KernelRfl
import Derived.Test.YtmcmknjoegjalaaProg
set_option linter.all false
section
set_option linter.all false
set_option maxRecDepth 100000
open Go Go.Proofs Jb
def f65_cf : Cfg := ⟨[], [(0, [4]), (1, [0, 1, 5, 6, 7, 8, 9, 10, 11, 12, 13, 14])]⟩
noncomputable def f65_b : Code := bodyOf Try.f65
noncomputable def f65_n : Code :=  (codeAt [] f65_b)
theorem f65_entry (t : List (List V)) (t_g : G) (x : Int) (h : Heap) (K : V → Heap → Prop) : bodyW Try.prog f65_cf Try.f65 [(V.sl 2 t t_g), (V.int Go.IntKind.i64 x)] h K = wpA Try.prog f65_cf f65_n ⟨[(V.sl 2 t t_g), (V.int Go.IntKind.i64 x), V.undef, V.undef, V.undef, V.undef, V.undef, V.undef, V.undef, V.undef, V.undef, V.undef, V.undef, V.undef, V.undef], []⟩ h (bodyK Try.prog Try.f65 K) := by kernel_rfl
theorem f65_n_plug : f65_n = (codeAt [] f65_b) := by
  simp only [f65_n, hide_eq]
  try kernel_rfl
theorem f65_n_wp (t : List (List V)) (t_g : G) (x : Int) (h : Heap) (Q : Ex → Fr → Heap → Prop) : wpA Try.prog f65_cf f65_n ⟨[(V.sl 2 t t_g), (V.int Go.IntKind.i64 x), V.undef, V.undef, V.undef, V.undef, V.undef, V.undef, V.undef, V.undef, V.undef, V.undef, V.undef, V.undef, V.undef], []⟩ h Q =
 (AnyW Try.prog 76 [(V.sl 2 t t_g)] h (fun (rz1 : V) (hz2 : Heap) =>
 ((True ∧ V.isBool rz1 = true) ∧ (((V.flag rz1) = true → (V.flag rz1) = true) ∧ ((((V.flag rz1) = true → (V.flag rz1) = true) ∧ True) ∧ (let bz3 : Bool := (cond (V.flag rz1) (decide ((1 : Int) ≤ x)) false);
 ((bz3 = true → bz3 = true) ∧ (let bz4 : Bool := (decide (x ≤ (1099511627776 : Int)));
 (((bz3 = true → bz3 = true) ∧ True) ∧ (Q Ex.ret ⟨[V.undef, V.undef, V.undef, V.undef, (V.bool (cond bz3 bz4 false)), V.undef, V.undef, V.undef, V.undef, V.undef, V.undef, V.undef, V.undef, V.undef, V.undef], []⟩ hz2)))))))))) := wpA_at f65_n_plug (by kernel_rfl)
theorem f65_end1 (b0 : Bool) (h : Heap) (K : V → Heap → Prop) : bodyK Try.prog Try.f65 K Ex.ret ⟨[V.undef, V.undef, V.undef, V.undef, (V.bool b0), V.undef, V.undef, V.undef, V.undef, V.undef, V.undef, V.undef, V.undef, V.undef, V.undef], []⟩ h = (K (V.bool b0) h) := by kernel_rfl
end

section
set_option linter.all false
set_option maxRecDepth 100000
open Go Go.Proofs Jb
def f66_cf : Cfg := ⟨[], [(0, [4]), (3, [7, 8, 9]), (4, [11, 12, 19]), (5, [10, 13, 14, 15, 16, 17, 18]), (6, [19, 20]), (7, [0, 1, 5, 6, 10, 21])]⟩
noncomputable def f66_b : Code := bodyOf Try.f66
noncomputable def f66_n : Code :=  (codeAt [] f66_b)
noncomputable def f66_n11 : Code := hide (codeAt [1, 1] f66_b)
noncomputable def f66_n110 : Code := hide (codeAt [1, 1, 0] f66_b)
noncomputable def f66_n11010 : Code := hide (codeAt [1, 1, 0, 1, 0] f66_b)
noncomputable def f66_n110100 : Code := hide (codeAt [1, 1, 0, 1, 0, 0] f66_b)
noncomputable def f66_n1101001 : Code := hide (codeAt [1, 1, 0, 1, 0, 0, 1] f66_b)
noncomputable def f66_n111 : Code := hide (codeAt [1, 1, 1] f66_b)
noncomputable def f66_n11010010 : Code := hide (codeAt [1, 1, 0, 1, 0, 0, 1, 0] f66_b)
noncomputable def f66_n11010011 : Code := hide (codeAt [1, 1, 0, 1, 0, 0, 1, 1] f66_b)
theorem f66_entry (t : List (List V)) (t_g : G) (x : Int) (h : Heap) (K : V → Heap → Prop) : bodyW Try.prog f66_cf Try.f66 [(V.sl 2 t t_g), (V.int Go.IntKind.i64 x)] h K = wpA Try.prog f66_cf f66_n ⟨[(V.sl 2 t t_g), (V.int Go.IntKind.i64 x), V.undef, V.undef, V.undef, V.undef, V.undef, V.undef, V.undef, V.undef, V.undef, V.undef, V.undef, V.undef, V.undef, V.undef, V.undef, V.undef, V.undef, V.undef, V.undef, V.undef], []⟩ h (bodyK Try.prog Try.f66 K) := by kernel_rfl
theorem f66_n_plug : f66_n = (plug [1, 1] (codeAt [] f66_b) f66_n11) := by
  simp only [f66_n, f66_n11, hide_eq]
  try kernel_rfl
theorem f66_n_wp (t : List (List V)) (t_g : G) (x : Int) (h : Heap) (Q : Ex → Fr → Heap → Prop) : wpA Try.prog f66_cf f66_n ⟨[(V.sl 2 t t_g), (V.int Go.IntKind.i64 x), V.undef, V.undef, V.undef, V.undef, V.undef, V.undef, V.undef, V.undef, V.undef, V.undef, V.undef, V.undef, V.undef, V.undef, V.undef, V.undef, V.undef, V.undef, V.undef, V.undef], []⟩ h Q =
 (wpA Try.prog f66_cf f66_n11 ⟨[(V.sl 2 t t_g), (V.int Go.IntKind.i64 x), V.undef, V.undef, V.undef, (V.int Go.IntKind.i64 (0 : Int)), V.undef, V.undef, V.undef, V.undef, V.undef, V.undef, V.undef, V.undef, V.undef, V.undef, V.undef, V.undef, V.undef, V.undef, V.undef, V.undef], []⟩ h Q) := wpA_at f66_n_plug (by kernel_rfl)
theorem f66_n11_eq : f66_n11 = Code.seq f66_n110 f66_n111 := by
  simp only [f66_n11, f66_n110, f66_n111, hide_eq]
  kernel_rfl
theorem f66_n110_plug : f66_n110 = (plug [1, 0] (codeAt [1, 1, 0] f66_b) f66_n11010) := by
  simp only [f66_n110, f66_n11010, hide_eq]
  try kernel_rfl
theorem f66_n110_wp (e0 : List (List V)) (g1 : G) (x2 : Int) (x3 : Int) (h : Heap) (Q : Ex → Fr → Heap → Prop) : wpA Try.prog f66_cf f66_n110 ⟨[(V.sl 2 e0 g1), (V.int Go.IntKind.i64 x2), V.undef, V.undef, V.undef, (V.int Go.IntKind.i64 x3), V.undef, V.undef, V.undef, V.undef, V.undef, V.undef, V.undef, V.undef, V.undef, V.undef, V.undef, V.undef, V.undef, V.undef, V.undef, V.undef], []⟩ h Q =
 (wpA Try.prog f66_cf f66_n11010 ⟨[(V.sl 2 e0 g1), (V.int Go.IntKind.i64 x2), V.undef, V.undef, V.undef, (V.int Go.IntKind.i64 x3), (V.int Go.IntKind.i64 (0 : Int)), V.undef, V.undef, V.undef, V.undef, V.undef, V.undef, V.undef, V.undef, V.undef, V.undef, V.undef, V.undef, V.undef, V.undef, V.undef], []⟩ h (blockK 0 Q)) := wpA_at f66_n110_plug (by kernel_rfl)
theorem f66_n11010_eq : f66_n11010 = Code.loop f66_n110100 := by
  simp only [f66_n11010, f66_n110100, hide_eq]
  kernel_rfl
def f66_n110100_F (e0 : List (List V)) (g1 : G) (x2 : Int) (x3 : Int) (x4 : Int) : Fr := ⟨[(V.sl 2 e0 g1), (V.int Go.IntKind.i64 x2), V.undef, V.undef, V.undef, (V.int Go.IntKind.i64 x3), (V.int Go.IntKind.i64 x4), V.undef, V.undef, V.undef, V.undef, V.undef, V.undef, V.undef, V.undef, V.undef, V.undef, V.undef, V.undef, V.undef, V.undef, V.undef], []⟩
theorem f66_n110100_plug : f66_n110100 = (plug [1] (codeAt [1, 1, 0, 1, 0, 0] f66_b) f66_n1101001) := by
  simp only [f66_n110100, f66_n1101001, hide_eq]
  try kernel_rfl
theorem f66_n110100_wp (e0 : List (List V)) (g1 : G) (x2 : Int) (x3 : Int) (x4 : Int) (h : Heap) (Q : Ex → Fr → Heap → Prop) : wpA Try.prog f66_cf f66_n110100 ⟨[(V.sl 2 e0 g1), (V.int Go.IntKind.i64 x2), V.undef, V.undef, V.undef, (V.int Go.IntKind.i64 x3), (V.int Go.IntKind.i64 x4), V.undef, V.undef, V.undef, V.undef, V.undef, V.undef, V.undef, V.undef, V.undef, V.undef, V.undef, V.undef, V.undef, V.undef, V.undef], []⟩ h Q =
 (let bz1 : Bool := (decide (x4 < ((List.length e0) : Int)));
 (brW bz1
 (wpA Try.prog f66_cf f66_n1101001 ⟨[(V.sl 2 e0 g1), (V.int Go.IntKind.i64 x2), V.undef, V.undef, V.undef, (V.int Go.IntKind.i64 x3), (V.int Go.IntKind.i64 x4), V.undef, V.undef, V.undef, (V.bool bz1), V.undef, V.undef, V.undef, V.undef, V.undef, V.undef, V.undef, V.undef, V.undef, V.undef, V.undef], []⟩ h Q)
 (Q (Ex.exit 0) ⟨[(V.sl 2 e0 g1), (V.int Go.IntKind.i64 x2), V.undef, V.undef, V.undef, (V.int Go.IntKind.i64 x3), (V.int Go.IntKind.i64 x4), V.undef, V.undef, V.undef, (V.bool bz1), V.undef, V.undef, V.undef, V.undef, V.undef, V.undef, V.undef, V.undef, V.undef, V.undef, V.undef], []⟩ h))) := wpA_at f66_n110100_plug (by kernel_rfl)
theorem f66_n1101001_eq : f66_n1101001 = Code.seq f66_n11010010 f66_n11010011 := by
  simp only [f66_n1101001, f66_n11010010, f66_n11010011, hide_eq]
  kernel_rfl
theorem f66_n111_plug : f66_n111 = (codeAt [1, 1, 1] f66_b) := by
  simp only [f66_n111, hide_eq]
  try kernel_rfl
theorem f66_n111_wp (e0 : List (List V)) (g1 : G) (x2 : Int) (x3 : Int) (x4 : Int) (b5 : Bool) (h : Heap) (Q : Ex → Fr → Heap → Prop) : wpA Try.prog f66_cf f66_n111 ⟨[(V.sl 2 e0 g1), (V.int Go.IntKind.i64 x2), V.undef, V.undef, V.undef, (V.int Go.IntKind.i64 x3), (V.int Go.IntKind.i64 x4), V.undef, V.undef, V.undef, (V.bool b5), V.undef, V.undef, V.undef, V.undef, V.undef, V.undef, V.undef, V.undef, V.undef, V.undef, V.undef], []⟩ h Q =
 (Q Ex.ret ⟨[V.undef, V.undef, V.undef, V.undef, (V.int Go.IntKind.i64 x3), V.undef, V.undef, V.undef, V.undef, V.undef, V.undef, V.undef, V.undef, V.undef, V.undef, V.undef, V.undef, V.undef, V.undef, V.undef, V.undef, V.undef], []⟩ h) := wpA_at f66_n111_plug (by kernel_rfl)
theorem f66_n11010010_plug : f66_n11010010 = (codeAt [1, 1, 0, 1, 0, 0, 1, 0] f66_b) := by
  simp only [f66_n11010010, hide_eq]
  try kernel_rfl
theorem f66_n11010010_wp (e0 : List (List V)) (g1 : G) (x2 : Int) (x3 : Int) (x4 : Int) (b5 : Bool) (h : Heap) (Q : Ex → Fr → Heap → Prop) : wpA Try.prog f66_cf f66_n11010010 ⟨[(V.sl 2 e0 g1), (V.int Go.IntKind.i64 x2), V.undef, V.undef, V.undef, (V.int Go.IntKind.i64 x3), (V.int Go.IntKind.i64 x4), V.undef, V.undef, V.undef, (V.bool b5), V.undef, V.undef, V.undef, V.undef, V.undef, V.undef, V.undef, V.undef, V.undef, V.undef, V.undef], []⟩ h Q =
 ((0 ≤ x4 ∧ x4 < (List.length e0)) ∧ ((0 < (List.length (ge e0 (Int.toNat x4))) ∧ V.isInt Go.IntKind.i64 (gv (ge e0 (Int.toNat x4)) 0) = true) ∧ (let iz2 : Int := (V.num (gv (ge e0 (Int.toNat x4)) 0));
 (brW (decide (iz2 ≤ x2))
 (Q Ex.normal ⟨[(V.sl 2 e0 g1), (V.int Go.IntKind.i64 x2), V.undef, V.undef, V.undef, (V.int Go.IntKind.i64 x4), (V.int Go.IntKind.i64 x4), V.undef, V.undef, V.undef, V.undef, V.undef, V.undef, V.undef, V.undef, V.undef, V.undef, V.undef, V.undef, V.undef, V.undef, V.undef], []⟩ h)
 (Q Ex.normal ⟨[(V.sl 2 e0 g1), (V.int Go.IntKind.i64 x2), V.undef, V.undef, V.undef, (V.int Go.IntKind.i64 x3), (V.int Go.IntKind.i64 x4), V.undef, V.undef, V.undef, V.undef, V.undef, V.undef, V.undef, V.undef, V.undef, V.undef, V.undef, V.undef, (V.bool (decide (iz2 ≤ x2))), V.undef, V.undef], []⟩ h))))) := wpA_at f66_n11010010_plug (by kernel_rfl)
theorem f66_n11010011_plug : f66_n11010011 = (codeAt [1, 1, 0, 1, 0, 0, 1, 1] f66_b) := by
  simp only [f66_n11010011, hide_eq]
  try kernel_rfl
theorem f66_n11010011_wp (e0 : List (List V)) (g1 : G) (x2 : Int) (x3 : Int) (x4 : Int) (h : Heap) (Q : Ex → Fr → Heap → Prop) : wpA Try.prog f66_cf f66_n11010011 ⟨[(V.sl 2 e0 g1), (V.int Go.IntKind.i64 x2), V.undef, V.undef, V.undef, (V.int Go.IntKind.i64 x3), (V.int Go.IntKind.i64 x4), V.undef, V.undef, V.undef, V.undef, V.undef, V.undef, V.undef, V.undef, V.undef, V.undef, V.undef, V.undef, V.undef, V.undef, V.undef], []⟩ h Q =
 (let iz3 : Int := (Go.IntKind.wrap Go.IntKind.i64 (x4 + (1 : Int)));
 (Q Ex.normal ⟨[(V.sl 2 e0 g1), (V.int Go.IntKind.i64 x2), V.undef, V.undef, V.undef, (V.int Go.IntKind.i64 x3), (V.int Go.IntKind.i64 iz3), V.undef, V.undef, V.undef, V.undef, V.undef, V.undef, V.undef, V.undef, V.undef, V.undef, V.undef, V.undef, V.undef, V.undef, V.undef], []⟩ h)) := wpA_at f66_n11010011_plug (by kernel_rfl)
theorem f66_n11010011s1_wp (e0 : List (List V)) (g1 : G) (x2 : Int) (x3 : Int) (x4 : Int) (b5 : Bool) (h : Heap) (Q : Ex → Fr → Heap → Prop) : wpA Try.prog f66_cf f66_n11010011 ⟨[(V.sl 2 e0 g1), (V.int Go.IntKind.i64 x2), V.undef, V.undef, V.undef, (V.int Go.IntKind.i64 x3), (V.int Go.IntKind.i64 x4), V.undef, V.undef, V.undef, V.undef, V.undef, V.undef, V.undef, V.undef, V.undef, V.undef, V.undef, V.undef, (V.bool b5), V.undef, V.undef], []⟩ h Q =
 (let iz4 : Int := (Go.IntKind.wrap Go.IntKind.i64 (x4 + (1 : Int)));
 (Q Ex.normal ⟨[(V.sl 2 e0 g1), (V.int Go.IntKind.i64 x2), V.undef, V.undef, V.undef, (V.int Go.IntKind.i64 x3), (V.int Go.IntKind.i64 iz4), V.undef, V.undef, V.undef, V.undef, V.undef, V.undef, V.undef, V.undef, V.undef, V.undef, V.undef, V.undef, V.undef, V.undef, V.undef], []⟩ h)) := wpA_at f66_n11010011_plug (by kernel_rfl)
theorem f66_end1 (x0 : Int) (h : Heap) (K : V → Heap → Prop) : bodyK Try.prog Try.f66 K Ex.ret ⟨[V.undef, V.undef, V.undef, V.undef, (V.int Go.IntKind.i64 x0), V.undef, V.undef, V.undef, V.undef, V.undef, V.undef, V.undef, V.undef, V.undef, V.undef, V.undef, V.undef, V.undef, V.undef, V.undef, V.undef, V.undef], []⟩ h = (K (V.int Go.IntKind.i64 x0) h) := by kernel_rfl
end

section
set_option linter.all false
set_option maxRecDepth 100000
open Go Go.Proofs Jb
def f52_cf : Cfg := ⟨[], [(0, [4]), (1, [6, 7, 8]), (2, [0, 1, 9]), (3, [0, 9, 10, 11, 12, 13, 14, 15]), (4, [1, 5, 16, 17, 18, 19, 20, 21, 22, 23])]⟩
noncomputable def f52_b : Code := bodyOf Try.f52
noncomputable def f52_n : Code :=  (codeAt [] f52_b)
theorem f52_entry (t : List (List V)) (t_g : G) (x : Int) (h : Heap) (K : V → Heap → Prop) : bodyW Try.prog f52_cf Try.f52 [(V.sl 2 t t_g), (V.int Go.IntKind.i64 x)] h K = wpA Try.prog f52_cf f52_n ⟨[(V.sl 2 t t_g), (V.int Go.IntKind.i64 x), V.undef, V.undef, V.undef, V.undef, V.undef, V.undef, V.undef, V.undef, V.undef, V.undef, V.undef, V.undef, V.undef, V.undef, V.undef, V.undef, V.undef, V.undef, V.undef, V.undef, V.undef, V.undef], []⟩ h (bodyK Try.prog Try.f52 K) := by kernel_rfl
theorem f52_n_plug : f52_n = (codeAt [] f52_b) := by
  simp only [f52_n, hide_eq]
  try kernel_rfl
theorem f52_n_wp (t : List (List V)) (t_g : G) (x : Int) (h : Heap) (Q : Ex → Fr → Heap → Prop) : wpA Try.prog f52_cf f52_n ⟨[(V.sl 2 t t_g), (V.int Go.IntKind.i64 x), V.undef, V.undef, V.undef, V.undef, V.undef, V.undef, V.undef, V.undef, V.undef, V.undef, V.undef, V.undef, V.undef, V.undef, V.undef, V.undef, V.undef, V.undef, V.undef, V.undef, V.undef, V.undef], []⟩ h Q =
 (AnyW Try.prog 65 [(V.sl 2 t t_g), (V.int Go.IntKind.i64 x)] h (fun (rz1 : V) (hz2 : Heap) =>
 ((True ∧ V.isBool rz1 = true) ∧ (brW (!(V.flag rz1))
 (Q Ex.ret ⟨[V.undef, V.undef, V.undef, V.undef, (V.bool false), V.undef, V.undef, V.undef, V.undef, V.undef, V.undef, V.undef, V.undef, V.undef, V.undef, V.undef, V.undef, V.undef, V.undef, V.undef, V.undef, V.undef, V.undef, V.undef], []⟩ hz2)
 (AnyW Try.prog 66 [(V.sl 2 t t_g), (V.int Go.IntKind.i64 x)] hz2 (fun (rz3 : V) (hz4 : Heap) =>
 ((True ∧ V.isInt Go.IntKind.i64 rz3 = true) ∧ ((0 ≤ (V.num rz3) ∧ (V.num rz3) < (List.length t)) ∧ (let cz5 : List V := (ge t (Int.toNat (V.num rz3)));
 ((0 + 2 ≤ (List.length cz5)) ∧ (let cz6 : List V := (List.take 2 (List.drop 0 cz5));
 (True ∧ (((List.length cz6) = 2) ∧ 0 + 2 ≤ 2 ∧ (let cz7 : List V := (wrCells [(V.int Go.IntKind.i64 (0 : Int)), (V.int Go.IntKind.i64 (0 : Int))] 0 cz6);
 ((0 < (List.length cz7) ∧ V.isInt Go.IntKind.i64 (gv cz7 0) = true) ∧ (let iz8 : Int := (Go.IntKind.wrap Go.IntKind.i64 (x - (V.num (gv cz7 0))));
 ((1 < (List.length cz7) ∧ V.isInt Go.IntKind.i64 (gv cz7 1) = true) ∧ (((V.num (gv cz7 1)) ≠ 0) ∧ (let iz9 : Int := (Int.tmod iz8 (V.num (gv cz7 1)));
 (Q Ex.ret ⟨[V.undef, V.undef, V.undef, V.undef, (V.bool (iz9 == (0 : Int))), V.undef, V.undef, V.undef, V.undef, V.undef, V.undef, V.undef, V.undef, V.undef, V.undef, V.undef, V.undef, V.undef, V.undef, V.undef, V.undef, V.undef, V.undef, V.undef], []⟩ hz4)))))))))))))))))))) := wpA_at f52_n_plug (by kernel_rfl)
theorem f52_end1 (b0 : Bool) (h : Heap) (K : V → Heap → Prop) : bodyK Try.prog Try.f52 K Ex.ret ⟨[V.undef, V.undef, V.undef, V.undef, (V.bool b0), V.undef, V.undef, V.undef, V.undef, V.undef, V.undef, V.undef, V.undef, V.undef, V.undef, V.undef, V.undef, V.undef, V.undef, V.undef, V.undef, V.undef, V.undef, V.undef], []⟩ h = (K (V.bool b0) h) := by kernel_rfl
end

section
set_option linter.all false
set_option maxRecDepth 100000
open Go Go.Proofs Jb
def f53_cf : Cfg := ⟨[], [(0, [0, 2]), (3, [5, 6, 7, 8, 9, 10, 11, 12]), (4, [14, 15]), (5, [13, 16, 17, 18, 19, 20, 21, 22, 23, 24, 25, 26, 27, 28, 29, 30, 31]), (6, [1, 3, 4, 13, 32])]⟩
noncomputable def f53_b : Code := bodyOf Try.f53
noncomputable def f53_n : Code :=  (codeAt [] f53_b)
noncomputable def f53_n11 : Code := hide (codeAt [1, 1] f53_b)
noncomputable def f53_n110 : Code := hide (codeAt [1, 1, 0] f53_b)
noncomputable def f53_n11010 : Code := hide (codeAt [1, 1, 0, 1, 0] f53_b)
noncomputable def f53_n110100 : Code := hide (codeAt [1, 1, 0, 1, 0, 0] f53_b)
noncomputable def f53_n111 : Code := hide (codeAt [1, 1, 1] f53_b)
theorem f53_entry (r : List V) (h : Heap) (K : V → Heap → Prop) : bodyW Try.prog f53_cf Try.f53 [(V.agg r)] h K = wpA Try.prog f53_cf f53_n ⟨[(V.agg r), V.undef, V.undef, V.undef, V.undef, V.undef, V.undef, V.undef, V.undef, V.undef, V.undef, V.undef, V.undef, V.undef, V.undef, V.undef, V.undef, V.undef, V.undef, V.undef, V.undef, V.undef, V.undef, V.undef, V.undef, V.undef, V.undef, V.undef, V.undef, V.undef, V.undef, V.undef, V.undef], []⟩ h (bodyK Try.prog Try.f53 K) := by kernel_rfl
theorem f53_n_plug : f53_n = (plug [1, 1] (codeAt [] f53_b) f53_n11) := by
  simp only [f53_n, f53_n11, hide_eq]
  try kernel_rfl
theorem f53_n_wp (r : List V) (h : Heap) (Q : Ex → Fr → Heap → Prop) : wpA Try.prog f53_cf f53_n ⟨[(V.agg r), V.undef, V.undef, V.undef, V.undef, V.undef, V.undef, V.undef, V.undef, V.undef, V.undef, V.undef, V.undef, V.undef, V.undef, V.undef, V.undef, V.undef, V.undef, V.undef, V.undef, V.undef, V.undef, V.undef, V.undef, V.undef, V.undef, V.undef, V.undef, V.undef, V.undef, V.undef, V.undef], []⟩ h Q =
 (((List.length r) = 9) ∧ (wpA Try.prog f53_cf f53_n11 ⟨[V.undef, (V.lp 1 0), V.undef, (V.sl 2 [] G.full), V.undef, V.undef, V.undef, V.undef, V.undef, V.undef, V.undef, V.undef, V.undef, V.undef, V.undef, V.undef, V.undef, V.undef, V.undef, V.undef, V.undef, V.undef, V.undef, V.undef, V.undef, V.undef, V.undef, V.undef, V.undef, V.undef, V.undef, V.undef, V.undef], [(1, r)]⟩ h Q)) := wpA_at f53_n_plug (by kernel_rfl)
theorem f53_n11_eq : f53_n11 = Code.seq f53_n110 f53_n111 := by
  simp only [f53_n11, f53_n110, f53_n111, hide_eq]
  kernel_rfl
theorem f53_n110_plug : f53_n110 = (plug [1, 0] (codeAt [1, 1, 0] f53_b) f53_n11010) := by
  simp only [f53_n110, f53_n11010, hide_eq]
  try kernel_rfl
theorem f53_n110_wp (e0 : List (List V)) (g1 : G) (c2 : List V) (h : Heap) (Q : Ex → Fr → Heap → Prop) : wpA Try.prog f53_cf f53_n110 ⟨[V.undef, (V.lp 1 0), V.undef, (V.sl 2 e0 g1), V.undef, V.undef, V.undef, V.undef, V.undef, V.undef, V.undef, V.undef, V.undef, V.undef, V.undef, V.undef, V.undef, V.undef, V.undef, V.undef, V.undef, V.undef, V.undef, V.undef, V.undef, V.undef, V.undef, V.undef, V.undef, V.undef, V.undef, V.undef, V.undef], [(1, c2)]⟩ h Q =
 (wpA Try.prog f53_cf f53_n11010 ⟨[V.undef, (V.lp 1 0), V.undef, (V.sl 2 e0 g1), (V.int Go.IntKind.i64 (0 : Int)), V.undef, V.undef, V.undef, V.undef, V.undef, V.undef, V.undef, V.undef, V.undef, V.undef, V.undef, V.undef, V.undef, V.undef, V.undef, V.undef, V.undef, V.undef, V.undef, V.undef, V.undef, V.undef, V.undef, V.undef, V.undef, V.undef, V.undef, V.undef], [(1, c2)]⟩ h (blockK 0 Q)) := wpA_at f53_n110_plug (by kernel_rfl)
theorem f53_n11010_eq : f53_n11010 = Code.loop f53_n110100 := by
  simp only [f53_n11010, f53_n110100, hide_eq]
  kernel_rfl
def f53_n110100_F (e0 : List (List V)) (g1 : G) (x2 : Int) (c3 : List V) : Fr := ⟨[V.undef, (V.lp 1 0), V.undef, (V.sl 2 e0 g1), (V.int Go.IntKind.i64 x2), V.undef, V.undef, V.undef, V.undef, V.undef, V.undef, V.undef, V.undef, V.undef, V.undef, V.undef, V.undef, V.undef, V.undef, V.undef, V.undef, V.undef, V.undef, V.undef, V.undef, V.undef, V.undef, V.undef, V.undef, V.undef, V.undef, V.undef, V.undef], [(1, c3)]⟩
theorem f53_n110100_plug : f53_n110100 = (codeAt [1, 1, 0, 1, 0, 0] f53_b) := by
  simp only [f53_n110100, hide_eq]
  try kernel_rfl
theorem f53_n110100_wp (e0 : List (List V)) (g1 : G) (x2 : Int) (c3 : List V) (h : Heap) (Q : Ex → Fr → Heap → Prop) : wpA Try.prog f53_cf f53_n110100 ⟨[V.undef, (V.lp 1 0), V.undef, (V.sl 2 e0 g1), (V.int Go.IntKind.i64 x2), V.undef, V.undef, V.undef, V.undef, V.undef, V.undef, V.undef, V.undef, V.undef, V.undef, V.undef, V.undef, V.undef, V.undef, V.undef, V.undef, V.undef, V.undef, V.undef, V.undef, V.undef, V.undef, V.undef, V.undef, V.undef, V.undef, V.undef, V.undef], [(1, c3)]⟩ h Q =
 ((1 < (List.length c3) ∧ V.isSl 2 (gv c3 1) = true) ∧ (let iz1 : Int := ((List.length (V.els (gv c3 1))) : Int);
 (((decide (x2 < iz1)) = true → (decide (x2 < iz1)) = true) ∧ (let bz2 : Bool := (decide (x2 < (9 : Int)));
 ((((decide (x2 < iz1)) = true → (decide (x2 < iz1)) = true) ∧ True) ∧ (let bz3 : Bool := (cond (decide (x2 < iz1)) bz2 false);
 (brW bz3
 ((1 < (List.length c3) ∧ V.isSl 2 (gv c3 1) = true) ∧ ((0 ≤ x2 ∧ x2 < (List.length (V.els (gv c3 1)))) ∧ (let cz4 : List V := (ge (V.els (gv c3 1)) (Int.toNat x2));
 ((0 < (List.length cz4) ∧ V.isInt Go.IntKind.i64 (gv cz4 0) = true) ∧ ((1 < (List.length c3) ∧ V.isSl 2 (gv c3 1) = true) ∧ ((0 ≤ x2 ∧ x2 < (List.length (V.els (gv c3 1)))) ∧ (let cz5 : List V := (ge (V.els (gv c3 1)) (Int.toNat x2));
 ((1 < (List.length cz5) ∧ V.isInt Go.IntKind.i64 (gv cz5 1) = true) ∧ ((True ∧ (True ∧ True)) ∧ (((2 = 2) ∧ True) ∧ ((List.length e0) + 1 ≤ mostLen ∧ appG 2 (List.length e0) 1 g1 h (fun (gz6 : G) (hz7 : Heap) =>
 (let ez8 : List (List V) := (e0 ++ [[(V.int Go.IntKind.i64 (V.num (gv cz4 0))), (V.int Go.IntKind.i64 (V.num (gv cz5 1)))]]);
 (let iz9 : Int := (Go.IntKind.wrap Go.IntKind.i64 (x2 + (1 : Int)));
 (Q Ex.normal ⟨[V.undef, (V.lp 1 0), V.undef, (V.sl 2 ez8 gz6), (V.int Go.IntKind.i64 iz9), V.undef, V.undef, V.undef, V.undef, V.undef, V.undef, V.undef, V.undef, V.undef, V.undef, V.undef, V.undef, V.undef, V.undef, V.undef, V.undef, V.undef, V.undef, V.undef, V.undef, V.undef, V.undef, V.undef, V.undef, V.undef, V.undef, V.undef, V.undef], [(1, c3)]⟩ hz7)))))))))))))))
 (Q (Ex.exit 0) ⟨[V.undef, (V.lp 1 0), V.undef, (V.sl 2 e0 g1), (V.int Go.IntKind.i64 x2), V.undef, V.undef, V.undef, V.undef, V.undef, V.undef, V.undef, V.undef, (V.bool bz3), V.undef, V.undef, V.undef, V.undef, V.undef, V.undef, V.undef, V.undef, V.undef, V.undef, V.undef, V.undef, V.undef, V.undef, V.undef, V.undef, V.undef, V.undef, V.undef], [(1, c3)]⟩ h)))))))) := wpA_at f53_n110100_plug (by kernel_rfl)
theorem f53_n111_plug : f53_n111 = (codeAt [1, 1, 1] f53_b) := by
  simp only [f53_n111, hide_eq]
  try kernel_rfl
theorem f53_n111_wp (e0 : List (List V)) (g1 : G) (x2 : Int) (b3 : Bool) (c4 : List V) (h : Heap) (Q : Ex → Fr → Heap → Prop) : wpA Try.prog f53_cf f53_n111 ⟨[V.undef, (V.lp 1 0), V.undef, (V.sl 2 e0 g1), (V.int Go.IntKind.i64 x2), V.undef, V.undef, V.undef, V.undef, V.undef, V.undef, V.undef, V.undef, (V.bool b3), V.undef, V.undef, V.undef, V.undef, V.undef, V.undef, V.undef, V.undef, V.undef, V.undef, V.undef, V.undef, V.undef, V.undef, V.undef, V.undef, V.undef, V.undef, V.undef], [(1, c4)]⟩ h Q =
 (Q Ex.ret ⟨[V.undef, V.undef, (V.sl 2 e0 g1), V.undef, V.undef, V.undef, V.undef, V.undef, V.undef, V.undef, V.undef, V.undef, V.undef, V.undef, V.undef, V.undef, V.undef, V.undef, V.undef, V.undef, V.undef, V.undef, V.undef, V.undef, V.undef, V.undef, V.undef, V.undef, V.undef, V.undef, V.undef, V.undef, V.undef], []⟩ h) := wpA_at f53_n111_plug (by kernel_rfl)
theorem f53_end1 (e0 : List (List V)) (g1 : G) (h : Heap) (K : V → Heap → Prop) : bodyK Try.prog Try.f53 K Ex.ret ⟨[V.undef, V.undef, (V.sl 2 e0 g1), V.undef, V.undef, V.undef, V.undef, V.undef, V.undef, V.undef, V.undef, V.undef, V.undef, V.undef, V.undef, V.undef, V.undef, V.undef, V.undef, V.undef, V.undef, V.undef, V.undef, V.undef, V.undef, V.undef, V.undef, V.undef, V.undef, V.undef, V.undef, V.undef, V.undef], []⟩ h = (K (V.sl 2 e0 g1) h) := by kernel_rfl
end

section
set_option linter.all false
set_option maxRecDepth 100000
open Go Go.Proofs Jb
def f54_cf : Cfg := ⟨[], [(0, [4]), (1, [5, 6, 7, 8, 9]), (2, [0, 1, 10]), (3, [0, 1, 10, 11, 12, 13, 14, 15, 16, 17, 18, 19, 20, 21]), (4, [22]), (5, [22])]⟩
noncomputable def f54_b : Code := bodyOf Try.f54
noncomputable def f54_n : Code :=  (codeAt [] f54_b)
theorem f54_entry (x : Int) (y : Int) (h : Heap) (K : V → Heap → Prop) : bodyW Try.prog f54_cf Try.f54 [(V.int Go.IntKind.i64 x), (V.int Go.IntKind.i64 y)] h K = wpA Try.prog f54_cf f54_n ⟨[(V.int Go.IntKind.i64 x), (V.int Go.IntKind.i64 y), V.undef, V.undef, V.undef, V.undef, V.undef, V.undef, V.undef, V.undef, V.undef, V.undef, V.undef, V.undef, V.undef, V.undef, V.undef, V.undef, V.undef, V.undef, V.undef, V.undef, V.undef], []⟩ h (bodyK Try.prog Try.f54 K) := by kernel_rfl
theorem f54_n_plug : f54_n = (codeAt [] f54_b) := by
  simp only [f54_n, hide_eq]
  try kernel_rfl
theorem f54_n_wp (x : Int) (y : Int) (h : Heap) (Q : Ex → Fr → Heap → Prop) : wpA Try.prog f54_cf f54_n ⟨[(V.int Go.IntKind.i64 x), (V.int Go.IntKind.i64 y), V.undef, V.undef, V.undef, V.undef, V.undef, V.undef, V.undef, V.undef, V.undef, V.undef, V.undef, V.undef, V.undef, V.undef, V.undef, V.undef, V.undef, V.undef, V.undef, V.undef, V.undef], []⟩ h Q =
 (let bz1 : Bool := (!(decide (x < (1 : Int))));
 (((!(decide (x < (1 : Int)))) = true → bz1 = true) ∧ (let bz2 : Bool := (!(decide (x < (1 : Int))));
 (let bz3 : Bool := (decide ((1099511627776 : Int) < x));
 ((((decide (x < (1 : Int))) = false → bz2 = true) ∧ True) ∧ (let bz4 : Bool := (cond (decide (x < (1 : Int))) true bz3);
 (brW bz4
 (Q Ex.ret ⟨[V.undef, V.undef, V.undef, V.undef, (V.int Go.IntKind.i64 (2 : Int)), V.undef, V.undef, V.undef, V.undef, V.undef, V.undef, V.undef, V.undef, V.undef, V.undef, V.undef, V.undef, V.undef, V.undef, V.undef, V.undef, V.undef, V.undef], []⟩ h)
 (let bz5 : Bool := (!(decide (y < (1 : Int))));
 (((!(decide (y < (1 : Int)))) = true → bz5 = true) ∧ (let bz6 : Bool := (!(decide (y < (1 : Int))));
 (let bz7 : Bool := (decide ((1099511627776 : Int) < y));
 ((((decide (y < (1 : Int))) = false → bz6 = true) ∧ True) ∧ (let bz8 : Bool := (cond (decide (y < (1 : Int))) true bz7);
 (((!bz8) = true → (!bz8) = true) ∧ (((!bz8) = true → (!bz8) = true) ∧ (((!bz8) = true → (x ≠ 0)) ∧ (((!bz8) = true → (!bz8) = true) ∧ (let bz9 : Bool := ((Int.tmod y x) != (0 : Int));
 (((bz8 = false → (!bz8) = true) ∧ True) ∧ (brW (cond bz8 true bz9)
 (Q Ex.ret ⟨[V.undef, V.undef, V.undef, V.undef, (V.int Go.IntKind.i64 (41 : Int)), V.undef, V.undef, V.undef, V.undef, V.undef, V.undef, V.undef, V.undef, V.undef, V.undef, V.undef, V.undef, V.undef, V.undef, V.undef, V.undef, V.undef, V.undef], []⟩ h)
 (Q Ex.ret ⟨[V.undef, V.undef, V.undef, V.undef, (V.int Go.IntKind.i64 (0 : Int)), V.undef, V.undef, V.undef, V.undef, V.undef, V.undef, V.undef, V.undef, V.undef, V.undef, V.undef, V.undef, V.undef, V.undef, V.undef, V.undef, V.undef, V.undef], []⟩ h))))))))))))))))))))) := wpA_at f54_n_plug (by kernel_rfl)
theorem f54_end1 (x0 : Int) (h : Heap) (K : V → Heap → Prop) : bodyK Try.prog Try.f54 K Ex.ret ⟨[V.undef, V.undef, V.undef, V.undef, (V.int Go.IntKind.i64 x0), V.undef, V.undef, V.undef, V.undef, V.undef, V.undef, V.undef, V.undef, V.undef, V.undef, V.undef, V.undef, V.undef, V.undef, V.undef, V.undef, V.undef, V.undef], []⟩ h = (K (V.int Go.IntKind.i64 x0) h) := by kernel_rfl
end

section
open Go Go.Proofs Jb
set_option linter.unusedSimpArgs false

/-- A rule set. -/
structure Rul where
  ver : Int
  ticks : List Tk
  tg : G
  lot : Int
  band : Int
  fees : List (Int × Int × Int)
  fg : G
  round : Int
  prio : Int
  self : Int
  lay : Int
def frs (l : List (Int × Int × Int)) : List (List V) := l.map fun x => [.int .i64 x.1, .int .i64 x.2.1, .int .i64 x.2.2]
@[simp] theorem frs_len (l : List (Int × Int × Int)) : (frs l).length = l.length := by simp [frs]
def rcs (r : Rul) : List V := [.int .i64 r.ver, .sl 2 (tks r.ticks) r.tg, .int .i64 r.lot, .int .i64 r.band, .sl 3 (frs r.fees) r.fg, .int .i64 r.round, .int .i64 r.prio, .int .i64 r.self, .int .i64 r.lay]
@[simp] theorem rcs_len (r : Rul) : (rcs r).length = 9 := rfl
@[simp] theorem rcs0 (r : Rul) : gv (rcs r) 0 = .int .i64 r.ver := rfl
@[simp] theorem rcs1 (r : Rul) : gv (rcs r) 1 = .sl 2 (tks r.ticks) r.tg := rfl
@[simp] theorem rcs2 (r : Rul) : gv (rcs r) 2 = .int .i64 r.lot := rfl
@[simp] theorem rcs3 (r : Rul) : gv (rcs r) 3 = .int .i64 r.band := rfl
@[simp] theorem rcs4 (r : Rul) : gv (rcs r) 4 = .sl 3 (frs r.fees) r.fg := rfl

theorem good6_call (t : List Tk) (g : G) (hl : t.length < 1000000) (h : Heap) : CallW Try.prog 76 [.sl 2 (tks t) g] h (fun r h' => r = .bool (tickOk t) ∧ h' = h) := by
  refine CallW.body mix f76_cf Try.func76 (by rw [Try.ntmps76]; simp) ?_
  rw [f76_entry, f76_n_wp]
  have no : ¬ (0 < t.length ∧ t.length ≤ 8 ∧ (tk t 0).1 = 0) → tickOk t = false := fun c => by unfold tickOk; rw [decide_eq_false c]; rfl
  by_cases c1 : t.length < 1
  · have : t = [] := by cases t with | nil => rfl | cons a t => simp at c1
    subst this
    simp [f76_end1, tickOk]
  · by_cases c2 : 8 < t.length
    · rw [no (by omega)]
      simp only [tks_len, show decide ((t.length : Int) < 1) = false from decide_eq_false (by omega), show decide ((8 : Int) < (t.length : Int)) = true from decide_eq_true (by omega), Bool.not_false, Bool.not_true, cond_false, cond_true, Bool.false_eq_true, false_implies, forall_const, true_and, and_true, brW_true, Bool.true_eq_false]
      simp [f76_end1]
    · have e0 : 0 < t.length := by omega
      simp only [tks_len, show decide ((t.length : Int) < 1) = false from decide_eq_false (by omega), show decide ((8 : Int) < (t.length : Int)) = false from decide_eq_false (by omega), Bool.not_false, cond_false, forall_const, true_and, tks_get t e0]
      by_cases c3 : (tk t 0).1 = 0
      · simp [c3, e0]
        rw [f76_n11_eq, wpA_seq, f76_n110_wp, f76_n11010_eq]
        refine wpA_loop (σ := Nat) (fun i => f76_n110100_F (tks t) g i) (fun _ => h) (fun i => t.length - i) (fun i => i ≤ t.length ∧ ∀ p, p < i → rowOk t p = true) 0 (by simp [f76_n110100_F]) rfl
          ⟨by omega, fun p hp => by omega⟩ ?_
        rintro i ⟨g1, g2⟩
        simp only [f76_n110100_F]
        rw [f76_n110100_wp]
        by_cases d1 : i < t.length
        · have d2 : i - 1 < t.length := by omega
          simp only [tks_len, show decide ((i : Int) < (t.length : Int)) = true from decide_eq_true (by omega), brW_true, Int.toNat_natCast, tks_get t d1, List.length_cons, List.length_nil, gv_zero, gv_succ, num_int, isInt_i64, wadd1 i (by omega)]
          have hrow : rowOk t i = decide (1 ≤ (tk t i).2 ∧ (tk t i).2 ≤ 1099511627776 ∧ (tk t i).1 ≤ 1099511627776 ∧ (0 < i → (tk t (i - 1)).1 < (tk t i).1)) := rfl
          have bad : rowOk t i = false → tickOk t = false := fun e => by
            cases c : tickOk t with
            | false => rfl
            | true => rw [((tickOk_iff t).1 c).2 i d1] at e; cases e
          generalize hq : (fun r h' => r = V.bool (tickOk t) ∧ h' = h) = K
          by_cases q1 : (tk t i).2 < 1
          · simp [q1, f76_end1]
            rw [← hq, bad (by rw [hrow]; exact decide_eq_false (by omega))]
            exact ⟨d1, rfl, rfl⟩
          · by_cases q2 : 1099511627776 < (tk t i).2
            · simp [q1, q2, f76_end1]
              rw [← hq, bad (by rw [hrow]; exact decide_eq_false (by omega))]
              exact ⟨d1, rfl, rfl⟩
            · by_cases q2' : 1099511627776 < (tk t i).1
              · simp [q1, q2, q2', f76_end1]
                rw [← hq, bad (by rw [hrow]; exact decide_eq_false (by omega))]
                exact ⟨d1, rfl, rfl⟩
              · by_cases q3 : 0 < i
                · have wi : IntKind.i64.wrap ((i : Int) - 1) = ((i - 1 : Nat) : Int) := wsub1 i (by omega) (by omega)
                  simp only [wi, Int.toNat_natCast, tks_get t d2, gv_zero, gv_succ, num_int, isInt_i64, List.length_cons, List.length_nil]
                  by_cases q4 : (tk t i).1 ≤ (tk t (i - 1)).1
                  · simp [q1, q2, q2', q3, q4, f76_end1]
                    rw [← hq, bad (by rw [hrow]; exact decide_eq_false (by omega))]
                    exact ⟨by omega, by omega, rfl, rfl⟩
                  · simp [q1, q2, q2', q3, q4, f76_end1]
                    refine ⟨by omega, by omega, i + 1, by simp, ⟨by omega, fun p hp => ?_⟩, by omega⟩
                    by_cases e : p = i
                    · rw [e, hrow]; exact decide_eq_true (by omega)
                    · exact g2 p (by omega)
                · obtain rfl : i = 0 := by omega
                  simp [q1, q2, q2', f76_end1]
                  refine ⟨by omega, 1, by simp, ⟨by omega, fun p hp => ?_⟩, by omega⟩
                  obtain rfl : p = 0 := by omega
                  rw [hrow]; exact decide_eq_true (by omega)
        · have hi : i = t.length := by omega
          subst hi
          have : tickOk t = true := (tickOk_iff t).2 ⟨by omega, g2⟩
          simp [f76_n111_wp, f76_end1, this]
      · rw [no (fun c => c3 c.2.2)]
        simp [e0, show ((tk t 0).1 != 0) = true from by rw [bne_iff_ne]; exact c3, f76_end1]
theorem good6_any (t : List Tk) (g : G) (hl : t.length < 1000000) {h : Heap} {K : V → Heap → Prop} (m : K (.bool (tickOk t)) h) : AnyW Try.prog 76 [.sl 2 (tks t) g] h K := AnyW.eq (by kernel_rfl) (good6_call t g hl h) m

theorem may6_call (t : List Tk) (g : G) (x : Int) (hl : t.length < 1000000) (h : Heap) : CallW Try.prog 65 [.sl 2 (tks t) g, .int .i64 x] h (fun r h' => r = .bool (mayT t x) ∧ h' = h) := by
  refine CallW.body mix f65_cf Try.func65 (by rw [Try.ntmps65]; simp) ?_
  rw [f65_entry, f65_n_wp]
  refine good6_any t g hl ⟨⟨trivial, rfl⟩, ?_⟩
  unfold mayT
  cases tickOk t <;> by_cases c1 : 1 ≤ x <;> by_cases c2 : x ≤ 1099511627776 <;> simp [c1, c2, f65_end1]
theorem may6_any (t : List Tk) (g : G) (x : Int) (hl : t.length < 1000000) {h : Heap} {K : V → Heap → Prop} (m : K (.bool (mayT t x)) h) : AnyW Try.prog 65 [.sl 2 (tks t) g, .int .i64 x] h K := AnyW.eq (by kernel_rfl) (may6_call t g x hl h) m

theorem row6_call (t : List Tk) (g : G) (p : Int) (hl : t.length < 1000000) (ht : mayT t p = true) (h : Heap) : CallW Try.prog 66 [.sl 2 (tks t) g, .int .i64 p] h
    (fun r h' => (IsRow t p (rowI t p) ∧ r = .int .i64 (rowI t p)) ∧ h' = h) := by
  unfold mayT at ht
  rw [Bool.and_eq_true, decide_eq_true_eq] at ht
  obtain ⟨ht, hp⟩ := ht
  obtain ⟨⟨t1, t2, t3⟩, t4⟩ := (tickOk_iff t).1 ht
  have mono : ∀ j, j < t.length → ∀ i, i ≤ j → (tk t i).1 ≤ (tk t j).1 := by
    intro j
    induction j with
    | zero => intro _ i hi; rw [show i = 0 from by omega]; exact Int.le_refl _
    | succ j ih =>
      intro hj i hi
      have := t4 (j + 1) hj
      unfold rowOk at this
      rw [decide_eq_true_eq] at this
      have h4 := this.2.2.2 (by omega)
      rw [Nat.add_sub_cancel] at h4
      by_cases e : i = j + 1
      · rw [e]; exact Int.le_refl _
      · have := ih (by omega) i (by omega); omega
  refine CallW.body mix f66_cf Try.func66 (by rw [Try.ntmps66]; simp) ?_
  rw [f66_entry, f66_n_wp, f66_n11_eq, wpA_seq, f66_n110_wp, f66_n11010_eq]
  refine wpA_loop (σ := Nat × Nat) (fun s => f66_n110100_F (tks t) g p s.1 s.2) (fun _ => h) (fun s => t.length - s.2)
    (fun s => s.2 ≤ t.length ∧ s.1 < t.length ∧ (tk t s.1).1 ≤ p ∧ ∀ q, s.1 < q → q < s.2 → p < (tk t q).1) (0, 0) (by simp [f66_n110100_F]) rfl ⟨by simp, t1, by simp only; omega, fun q h1 h2 => by simp at h2⟩ ?_
  rintro ⟨a, i⟩ ⟨g1, g2, g3, g4⟩
  simp only at g1 g2 g3 g4
  simp only [f66_n110100_F]
  rw [f66_n110100_wp]
  by_cases d1 : i < t.length
  · simp only [tks_len, show decide ((i : Int) < (t.length : Int)) = true from decide_eq_true (by omega), brW_true]
    rw [f66_n1101001_eq, wpA_seq, f66_n11010010_wp]
    simp only [tks_len, Int.toNat_natCast, tks_get t d1, gv_zero, num_int, isInt_i64, List.length_cons, List.length_nil]
    refine ⟨by omega, ⟨by omega, trivial⟩, ?_⟩
    by_cases c : (tk t i).1 ≤ p
    · rw [decide_eq_true c, brW_true, seqK_normal, f66_n11010011_wp]
      simp only [wadd1 i (by omega)]
      exact ⟨(i, i + 1), rfl, rfl, ⟨by simp only; omega, d1, c, fun q h1 h2 => by simp only at h1 h2; omega⟩, by simp only; omega⟩
    · rw [decide_eq_false c, brW_false, seqK_normal, f66_n11010011s1_wp]
      simp only [wadd1 i (by omega)]
      refine ⟨(a, i + 1), rfl, rfl, ⟨by simp only; omega, g2, g3, fun q h1 h2 => ?_⟩, by simp only; omega⟩
      simp only at h1 h2
      by_cases e : q = i
      · rw [e]; omega
      · exact g4 q h1 (by omega)
  · have hi : i = t.length := by omega
    subst hi
    simp only [tks_len, show decide ((t.length : Int) < (t.length : Int)) = false from decide_eq_false (by omega), brW_false, seqK_exit, blockK_exit, if_true, seqK_normal]
    rw [f66_n111_wp, f66_end1]
    have hr : IsRow t p a := ⟨g2, fun q hq => by have := mono a g2 q hq; omega, fun c => g4 _ (by omega) c⟩
    have := rowI_eq hr
    exact ⟨⟨by rw [this]; exact hr, by rw [this]⟩, rfl⟩

theorem on6_call (t : List Tk) (g : G) (p : Int) (hl : t.length < 1000000) (h : Heap) : CallW Try.prog 52 [.sl 2 (tks t) g, .int .i64 p] h (fun r h' => r = .bool (onT t p) ∧ h' = h) := by
  refine CallW.body mix f52_cf Try.func52 (by rw [Try.ntmps52]; simp) ?_
  rw [f52_entry, f52_n_wp]
  refine may6_any t g p hl ⟨⟨trivial, rfl⟩, ?_⟩
  simp only [flag_bool]
  cases c : mayT t p with
  | false =>
    have : onT t p = false := by unfold onT; rw [c]; rfl
    simp [f52_end1, this]
  | true =>
    simp only [Bool.not_true, brW_false]
    refine AnyW.of (by kernel_rfl) (row6_call t g p hl c h) ?_
    rintro r h' ⟨⟨hr, rfl⟩, rfl⟩
    obtain ⟨m1, m2, m3, m4⟩ := mayT_row c hr
    have : onT t p = (Int.tmod (p - (tk t (rowI t p)).1) (tk t (rowI t p)).2 == 0) := by
      unfold onT
      rw [c, Bool.true_and, beq_dec]
    rw [this]
    have hlt := hr.1
    simp only [num_int, Int.toNat_natCast, tks_get t hlt, tks_len]
    generalize (tk t (rowI t p)).1 = a at *
    generalize (tk t (rowI t p)).2 = b at *
    have e1 : IntKind.i64.wrap (p - a) = p - a := by rw [Go.IntWalk.i64_in] <;> omega
    simp [wrCells, e1, f52_end1, show b ≠ 0 from by omega, hlt]
theorem on6_any (t : List Tk) (g : G) (p : Int) (hl : t.length < 1000000) {h : Heap} {K : V → Heap → Prop} (m : K (.bool (onT t p)) h) : AnyW Try.prog 52 [.sl 2 (tks t) g, .int .i64 p] h K := AnyW.eq (by kernel_rfl) (on6_call t g p hl h) m

theorem lot7_call (x y : Int) (h : Heap) : CallW Try.prog 54 [.int .i64 x, .int .i64 y] h (fun r h' => r = .int .i64 (lotW x y) ∧ h' = h) := by
  refine CallW.body mix f54_cf Try.func54 (by rw [Try.ntmps54]; simp) ?_
  rw [f54_entry, f54_n_wp]
  unfold lotW
  by_cases c1 : x < 1
  · simp [c1, f54_end1]
  · by_cases c2 : 1099511627776 < x
    · simp [c1, c2, f54_end1]
    · by_cases c3 : y < 1
      · simp [c1, c2, c3, f54_end1]
      · by_cases c4 : 1099511627776 < y
        · simp [c1, c2, c3, c4, f54_end1]
        · by_cases c5 : Int.tmod y x = 0
          · simp [c1, c2, c3, c4, c5, f54_end1, show ¬ x = 0 from by omega]
          · simp [c1, c2, c3, c4, c5, f54_end1, show ¬ x = 0 from by omega, show (Int.tmod y x != 0) = true from by rw [bne_iff_ne]; exact c5]
theorem lot7_any (x y : Int) {h : Heap} {K : V → Heap → Prop} (m : K (.int .i64 (lotW x y)) h) : AnyW Try.prog 54 [.int .i64 x, .int .i64 y] h K := AnyW.eq (by kernel_rfl) (lot7_call x y h) m

theorem tks_snoc (t : List Tk) (x : Tk) : tks (t ++ [x]) = tks t ++ [[.int .i64 x.1, .int .i64 x.2]] := by simp [tks]
theorem tk_take (t : List Tk) {i : Nat} (h : i < t.length) : t.take (i + 1) = t.take i ++ [tk t i] := by rw [List.take_add_one, tk_lt t h]; simp [h]

theorem ticks_call (r : Rul) (hl : r.ticks.length < 1000000) (h : Heap) : CallW Try.prog 53 [.agg (rcs r)] h (fun v h' => ∃ g, v = .sl 2 (tks (r.ticks.take 9)) g ∧ h.Sub h') := by
  refine CallW.body mix f53_cf Try.func53 (by rw [Try.ntmps53]; simp) ?_
  rw [f53_entry, f53_n_wp]
  refine ⟨rfl, ?_⟩
  rw [f53_n11_eq, wpA_seq, f53_n110_wp, f53_n11010_eq]
  refine wpA_loopH (σ := Nat × G) (fun s => f53_n110100_F (tks (r.ticks.take s.1)) s.2 s.1 (rcs r)) (fun s => 9 - s.1)
    (fun s h' => s.1 ≤ r.ticks.length ∧ s.1 ≤ 9 ∧ Can s.2 2 s.1 h' ∧ ∀ l o, h l = some o → h' l = some o ∧ s.2 ≠ .own l) (0, .full) (by simp [f53_n110100_F, tks]) ⟨by simp, by simp, .full, fun l o e => ⟨e, by simp⟩⟩ ?_
  rintro ⟨i, g⟩ h1 ⟨g1, g2, g3, g4⟩
  simp only at g1 g2 g3 g4
  simp only [f53_n110100_F]
  rw [f53_n110100_wp]
  simp only [rcs_len, rcs1, els_sl, isSl_sl, tks_len]
  refine ⟨⟨by omega, trivial⟩, id, ⟨id, trivial⟩, ?_⟩
  by_cases d1 : i < r.ticks.length
  · by_cases d2 : i < 9
    · simp only [show decide ((i : Int) < (r.ticks.length : Int)) = true from decide_eq_true (by omega), show decide ((i : Int) < 9) = true from decide_eq_true (by omega), cond_true, brW_true, Int.toNat_natCast, tks_get _ d1, gv_zero, gv_succ, num_int, isInt_i64, List.length_cons, List.length_nil, List.length_take, Nat.min_eq_left g1]
      refine ⟨⟨by omega, trivial⟩, ⟨by omega, by omega⟩, ⟨by omega, trivial⟩, ⟨by omega, trivial⟩, ⟨by omega, by omega⟩, ⟨by omega, trivial⟩, ⟨trivial, trivial, trivial⟩, ⟨trivial, trivial⟩, by unfold mostLen; omega, ?_⟩
      refine appG_one (m := 0) g3 fun s h2 q1 q2 => ?_
      simp only [wadd1 i (by omega)]
      refine ⟨(i + 1, .own s), by rw [tk_take _ d1, tks_snoc], ⟨by simp only; omega, by simp only; omega, .inr ⟨s, rfl, q1⟩, fun l o e => ?_⟩, by simp only; omega⟩
      obtain ⟨e1, e2⟩ := g4 l o e
      obtain ⟨e3, e4⟩ := q2 l o e1 e2
      exact ⟨e3, fun c => by injection c with c; exact e4 c.symm⟩
    · have hi : i = 9 := by omega
      simp only [show decide ((i : Int) < (r.ticks.length : Int)) = true from decide_eq_true (by omega), show decide ((i : Int) < 9) = false from decide_eq_false (by omega), cond_true, brW_false, seqK_exit, blockK_exit, if_true, seqK_normal]
      rw [f53_n111_wp, f53_end1, hi]
      exact ⟨g, rfl, fun l o e => (g4 l o e).1⟩
  · simp only [show decide ((i : Int) < (r.ticks.length : Int)) = false from decide_eq_false (by omega), cond_false, brW_false, seqK_exit, blockK_exit, if_true, seqK_normal]
    rw [f53_n111_wp, f53_end1]
    refine ⟨g, ?_, fun l o e => (g4 l o e).1⟩
    rw [List.take_of_length_le (by omega), List.take_of_length_le (by omega)]

theorem onT_take (t : List Tk) (p : Int) : onT (t.take 9) p = onT t p := by
  by_cases c : t.length ≤ 9
  · rw [List.take_of_length_le c]
  · have h1 : tickOk t = false := by unfold tickOk; rw [decide_eq_false (by omega)]; rfl
    have h2 : tickOk (t.take 9) = false := by unfold tickOk; rw [decide_eq_false (by simp; omega)]; rfl
    unfold onT mayT
    rw [h1, h2]; rfl
end

section
set_option linter.all false
set_option maxRecDepth 100000
open Go Go.Proofs Jb
def f85_cf : Cfg := ⟨[], [(1, [11, 12]), (2, [14, 15]), (3, [13, 16, 17, 18, 19, 20, 21, 22, 23, 24, 25, 26, 27, 28, 29, 30, 31, 32, 33, 34, 35, 36, 37])]⟩
noncomputable def f85_b : Code := bodyOf Try.f85
noncomputable def f85_n : Code :=  (codeAt [] f85_b)
noncomputable def f85_n10 : Code := hide (codeAt [1, 0] f85_b)
noncomputable def f85_n100 : Code := hide (codeAt [1, 0, 0] f85_b)
theorem f85_entry (d : Nat) (d_o : Nat) (d_n : Nat) (d_c : Nat) (a : Int) (b : Int) (n : Int) (h : Heap) (K : V → Heap → Prop) : bodyW Try.prog f85_cf Try.f85 [(V.sref 6 d d_o d_n d_c), (V.int Go.IntKind.i64 a), (V.int Go.IntKind.i64 b), (V.int Go.IntKind.i64 n), (V.fn (Fn.func 47) [] [])] h K = wpA Try.prog f85_cf f85_n ⟨[(V.sref 6 d d_o d_n d_c), (V.int Go.IntKind.i64 a), (V.int Go.IntKind.i64 b), (V.int Go.IntKind.i64 n), (V.fn (Fn.func 47) [] []), V.undef, V.undef, V.undef, V.undef, V.undef, V.undef, V.undef, V.undef, V.undef, V.undef, V.undef, V.undef, V.undef, V.undef, V.undef, V.undef, V.undef, V.undef, V.undef, V.undef, V.undef, V.undef, V.undef, V.undef, V.undef, V.undef, V.undef, V.undef, V.undef, V.undef, V.undef, V.undef, V.undef], []⟩ h (bodyK Try.prog Try.f85 K) := by kernel_rfl
theorem f85_n_plug : f85_n = (plug [1, 0] (codeAt [] f85_b) f85_n10) := by
  simp only [f85_n, f85_n10, hide_eq]
  try kernel_rfl
theorem f85_n_wp (d : Nat) (d_o : Nat) (d_n : Nat) (d_c : Nat) (a : Int) (b : Int) (n : Int) (h : Heap) (Q : Ex → Fr → Heap → Prop) : wpA Try.prog f85_cf f85_n ⟨[(V.sref 6 d d_o d_n d_c), (V.int Go.IntKind.i64 a), (V.int Go.IntKind.i64 b), (V.int Go.IntKind.i64 n), (V.fn (Fn.func 47) [] []), V.undef, V.undef, V.undef, V.undef, V.undef, V.undef, V.undef, V.undef, V.undef, V.undef, V.undef, V.undef, V.undef, V.undef, V.undef, V.undef, V.undef, V.undef, V.undef, V.undef, V.undef, V.undef, V.undef, V.undef, V.undef, V.undef, V.undef, V.undef, V.undef, V.undef, V.undef, V.undef, V.undef], []⟩ h Q =
 (wpA Try.prog f85_cf f85_n10 ⟨[(V.sref 6 d d_o d_n d_c), (V.int Go.IntKind.i64 a), (V.int Go.IntKind.i64 b), (V.int Go.IntKind.i64 n), (V.fn (Fn.func 47) [] []), V.undef, V.undef, V.undef, V.undef, V.undef, (V.int Go.IntKind.i64 (0 : Int)), V.undef, V.undef, V.undef, V.undef, V.undef, V.undef, V.undef, V.undef, V.undef, V.undef, V.undef, V.undef, V.undef, V.undef, V.undef, V.undef, V.undef, V.undef, V.undef, V.undef, V.undef, V.undef, V.undef, V.undef, V.undef, V.undef, V.undef], []⟩ h (blockK 0 Q)) := wpA_at f85_n_plug (by kernel_rfl)
theorem f85_n10_eq : f85_n10 = Code.loop f85_n100 := by
  simp only [f85_n10, f85_n100, hide_eq]
  kernel_rfl
def f85_n100_F (l0 : Nat) (o1 : Nat) (n2 : Nat) (c3 : Nat) (x4 : Int) (x5 : Int) (x6 : Int) (x7 : Int) : Fr := ⟨[(V.sref 6 l0 o1 n2 c3), (V.int Go.IntKind.i64 x4), (V.int Go.IntKind.i64 x5), (V.int Go.IntKind.i64 x6), (V.fn (Fn.func 47) [] []), V.undef, V.undef, V.undef, V.undef, V.undef, (V.int Go.IntKind.i64 x7), V.undef, V.undef, V.undef, V.undef, V.undef, V.undef, V.undef, V.undef, V.undef, V.undef, V.undef, V.undef, V.undef, V.undef, V.undef, V.undef, V.undef, V.undef, V.undef, V.undef, V.undef, V.undef, V.undef, V.undef, V.undef, V.undef, V.undef], []⟩
theorem f85_n100_plug : f85_n100 = (codeAt [1, 0, 0] f85_b) := by
  simp only [f85_n100, hide_eq]
  try kernel_rfl
theorem f85_n100_wp (l0 : Nat) (o1 : Nat) (n2 : Nat) (c3 : Nat) (x4 : Int) (x5 : Int) (x6 : Int) (x7 : Int) (h : Heap) (Q : Ex → Fr → Heap → Prop) : wpA Try.prog f85_cf f85_n100 ⟨[(V.sref 6 l0 o1 n2 c3), (V.int Go.IntKind.i64 x4), (V.int Go.IntKind.i64 x5), (V.int Go.IntKind.i64 x6), (V.fn (Fn.func 47) [] []), V.undef, V.undef, V.undef, V.undef, V.undef, (V.int Go.IntKind.i64 x7), V.undef, V.undef, V.undef, V.undef, V.undef, V.undef, V.undef, V.undef, V.undef, V.undef, V.undef, V.undef, V.undef, V.undef, V.undef, V.undef, V.undef, V.undef, V.undef, V.undef, V.undef, V.undef, V.undef, V.undef, V.undef, V.undef, V.undef], []⟩ h Q =
 (brW (decide (x7 < x6))
 (let iz1 : Int := (Go.IntKind.wrap Go.IntKind.i64 (x4 + x7));
 (let iz2 : Int := (Go.IntKind.wrap Go.IntKind.i64 (x5 + x7));
 (let iz3 : Int := (Go.IntKind.wrap Go.IntKind.i64 (x5 + x7));
 ((0 ≤ iz3 ∧ iz3 < n2) ∧ (((o1 + ((Int.toNat iz3) * 6)) + 6 ≤ (List.length (cellsAt h l0))) ∧ (let cz4 : List V := (List.take 6 (List.drop (o1 + ((Int.toNat iz3) * 6)) (cellsAt h l0)));
 (let iz5 : Int := (Go.IntKind.wrap Go.IntKind.i64 (x4 + x7));
 ((0 ≤ iz5 ∧ iz5 < n2) ∧ (((o1 + ((Int.toNat iz5) * 6)) + 6 ≤ (List.length (cellsAt h l0))) ∧ (let cz6 : List V := (List.take 6 (List.drop (o1 + ((Int.toNat iz5) * 6)) (cellsAt h l0)));
 ((0 ≤ iz1 ∧ iz1 < n2) ∧ (((List.length cz4) = 6) ∧ (o1 + ((Int.toNat iz1) * 6)) + 6 ≤ (List.length (cellsAt h l0)) ∧ (let hz7 : Heap := (Heap.upd h l0 (Ob.cells (wrCells (cellsAt h l0) (o1 + ((Int.toNat iz1) * 6)) cz4)));
 ((0 ≤ iz2 ∧ iz2 < n2) ∧ (((List.length cz6) = 6) ∧ (o1 + ((Int.toNat iz2) * 6)) + 6 ≤ (List.length (cellsAt hz7 l0)) ∧ (let hz8 : Heap := (Heap.upd hz7 l0 (Ob.cells (wrCells (cellsAt hz7 l0) (o1 + ((Int.toNat iz2) * 6)) cz6)));
 (let iz9 : Int := (Go.IntKind.wrap Go.IntKind.i64 (x7 + (1 : Int)));
 (Q Ex.normal ⟨[(V.sref 6 l0 o1 n2 c3), (V.int Go.IntKind.i64 x4), (V.int Go.IntKind.i64 x5), (V.int Go.IntKind.i64 x6), (V.fn (Fn.func 47) [] []), V.undef, V.undef, V.undef, V.undef, V.undef, (V.int Go.IntKind.i64 iz9), V.undef, V.undef, V.undef, V.undef, V.undef, V.undef, V.undef, V.undef, V.undef, V.undef, V.undef, V.undef, V.undef, V.undef, V.undef, V.undef, V.undef, V.undef, V.undef, V.undef, V.undef, V.undef, V.undef, V.undef, V.undef, V.undef, V.undef], []⟩ hz8))))))))))))))))))
 (Q (Ex.exit 0) ⟨[(V.sref 6 l0 o1 n2 c3), (V.int Go.IntKind.i64 x4), (V.int Go.IntKind.i64 x5), (V.int Go.IntKind.i64 x6), (V.fn (Fn.func 47) [] []), V.undef, V.undef, V.undef, V.undef, V.undef, (V.int Go.IntKind.i64 x7), V.undef, V.undef, (V.bool (decide (x7 < x6))), V.undef, V.undef, V.undef, V.undef, V.undef, V.undef, V.undef, V.undef, V.undef, V.undef, V.undef, V.undef, V.undef, V.undef, V.undef, V.undef, V.undef, V.undef, V.undef, V.undef, V.undef, V.undef, V.undef, V.undef], []⟩ h)) := wpA_at f85_n100_plug (by kernel_rfl)
theorem f85_end1 (l0 : Nat) (o1 : Nat) (n2 : Nat) (c3 : Nat) (x4 : Int) (x5 : Int) (x6 : Int) (x7 : Int) (b8 : Bool) (h : Heap) (K : V → Heap → Prop) : bodyK Try.prog Try.f85 K Ex.normal ⟨[(V.sref 6 l0 o1 n2 c3), (V.int Go.IntKind.i64 x4), (V.int Go.IntKind.i64 x5), (V.int Go.IntKind.i64 x6), (V.fn (Fn.func 47) [] []), V.undef, V.undef, V.undef, V.undef, V.undef, (V.int Go.IntKind.i64 x7), V.undef, V.undef, (V.bool b8), V.undef, V.undef, V.undef, V.undef, V.undef, V.undef, V.undef, V.undef, V.undef, V.undef, V.undef, V.undef, V.undef, V.undef, V.undef, V.undef, V.undef, V.undef, V.undef, V.undef, V.undef, V.undef, V.undef, V.undef], []⟩ h = (K (V.tup []) h) := by kernel_rfl
end

section
set_option linter.all false
set_option maxRecDepth 100000
open Go Go.Proofs Jb
def f82_cf : Cfg := ⟨[], [(0, [1, 12, 13, 14]), (1, [3, 15, 16, 17]), (2, [18, 19]), (3, [20, 21, 22]), (4, [23, 24, 25, 26, 27, 28, 29, 30, 31]), (5, [32, 33, 34]), (6, [23, 35, 36, 37, 38, 39, 40, 41, 42, 43, 44, 45, 46]), (7, [47, 48, 49]), (8, [0, 2, 4, 10, 11, 20, 50, 51, 52, 53, 54, 55, 56, 57])]⟩
noncomputable def f82_b : Code := bodyOf Try.f82
noncomputable def f82_n : Code :=  (codeAt [] f82_b)
noncomputable def f82_n11 : Code := hide (codeAt [1, 1] f82_b)
noncomputable def f82_n110 : Code := hide (codeAt [1, 1, 0] f82_b)
noncomputable def f82_n1100 : Code := hide (codeAt [1, 1, 0, 0] f82_b)
noncomputable def f82_n11000 : Code := hide (codeAt [1, 1, 0, 0, 0] f82_b)
noncomputable def f82_n111 : Code := hide (codeAt [1, 1, 1] f82_b)
theorem f82_entry (d : Nat) (d_o : Nat) (d_n : Nat) (d_c : Nat) (a : Int) (m : Int) (b : Int) (h : Heap) (K : V → Heap → Prop) : bodyW Try.prog f82_cf Try.f82 [(V.sref 6 d d_o d_n d_c), (V.int Go.IntKind.i64 a), (V.int Go.IntKind.i64 m), (V.int Go.IntKind.i64 b), (V.fn (Fn.func 47) [] [])] h K = wpA Try.prog f82_cf f82_n ⟨[(V.sref 6 d d_o d_n d_c), (V.int Go.IntKind.i64 a), (V.int Go.IntKind.i64 m), (V.int Go.IntKind.i64 b), (V.fn (Fn.func 47) [] []), V.undef, V.undef, V.undef, V.undef, V.undef, V.undef, V.undef, V.undef, V.undef, V.undef, V.undef, V.undef, V.undef, V.undef, V.undef, V.undef, V.undef, V.undef, V.undef, V.undef, V.undef, V.undef, V.undef, V.undef, V.undef, V.undef, V.undef, V.undef, V.undef, V.undef, V.undef, V.undef, V.undef, V.undef, V.undef, V.undef, V.undef, V.undef, V.undef, V.undef, V.undef, V.undef, V.undef, V.undef, V.undef, V.undef, V.undef, V.undef, V.undef, V.undef, V.undef, V.undef, V.undef], []⟩ h (bodyK Try.prog Try.f82 K) := by kernel_rfl
theorem f82_n_plug : f82_n = (plug [1, 1] (codeAt [] f82_b) f82_n11) := by
  simp only [f82_n, f82_n11, hide_eq]
  try kernel_rfl
theorem f82_n_wp (d : Nat) (d_o : Nat) (d_n : Nat) (d_c : Nat) (a : Int) (m : Int) (b : Int) (h : Heap) (Q : Ex → Fr → Heap → Prop) : wpA Try.prog f82_cf f82_n ⟨[(V.sref 6 d d_o d_n d_c), (V.int Go.IntKind.i64 a), (V.int Go.IntKind.i64 m), (V.int Go.IntKind.i64 b), (V.fn (Fn.func 47) [] []), V.undef, V.undef, V.undef, V.undef, V.undef, V.undef, V.undef, V.undef, V.undef, V.undef, V.undef, V.undef, V.undef, V.undef, V.undef, V.undef, V.undef, V.undef, V.undef, V.undef, V.undef, V.undef, V.undef, V.undef, V.undef, V.undef, V.undef, V.undef, V.undef, V.undef, V.undef, V.undef, V.undef, V.undef, V.undef, V.undef, V.undef, V.undef, V.undef, V.undef, V.undef, V.undef, V.undef, V.undef, V.undef, V.undef, V.undef, V.undef, V.undef, V.undef, V.undef, V.undef, V.undef], []⟩ h Q =
 (let iz1 : Int := (Go.IntKind.wrap Go.IntKind.i64 (m - a));
 (let iz2 : Int := (Go.IntKind.wrap Go.IntKind.i64 (b - m));
 (wpA Try.prog f82_cf f82_n11 ⟨[(V.sref 6 d d_o d_n d_c), V.undef, (V.int Go.IntKind.i64 m), V.undef, (V.fn (Fn.func 47) [] []), V.undef, V.undef, V.undef, V.undef, V.undef, (V.int Go.IntKind.i64 iz1), (V.int Go.IntKind.i64 iz2), V.undef, V.undef, V.undef, V.undef, V.undef, V.undef, V.undef, V.undef, V.undef, V.undef, V.undef, V.undef, V.undef, V.undef, V.undef, V.undef, V.undef, V.undef, V.undef, V.undef, V.undef, V.undef, V.undef, V.undef, V.undef, V.undef, V.undef, V.undef, V.undef, V.undef, V.undef, V.undef, V.undef, V.undef, V.undef, V.undef, V.undef, V.undef, V.undef, V.undef, V.undef, V.undef, V.undef, V.undef, V.undef, V.undef], []⟩ h Q))) := wpA_at f82_n_plug (by kernel_rfl)
theorem f82_n11_eq : f82_n11 = Code.seq f82_n110 f82_n111 := by
  simp only [f82_n11, f82_n110, f82_n111, hide_eq]
  kernel_rfl
theorem f82_n110_plug : f82_n110 = (plug [0] (codeAt [1, 1, 0] f82_b) f82_n1100) := by
  simp only [f82_n110, f82_n1100, hide_eq]
  try kernel_rfl
theorem f82_n110_wp (l0 : Nat) (o1 : Nat) (n2 : Nat) (c3 : Nat) (x4 : Int) (x5 : Int) (x6 : Int) (h : Heap) (Q : Ex → Fr → Heap → Prop) : wpA Try.prog f82_cf f82_n110 ⟨[(V.sref 6 l0 o1 n2 c3), V.undef, (V.int Go.IntKind.i64 x4), V.undef, (V.fn (Fn.func 47) [] []), V.undef, V.undef, V.undef, V.undef, V.undef, (V.int Go.IntKind.i64 x5), (V.int Go.IntKind.i64 x6), V.undef, V.undef, V.undef, V.undef, V.undef, V.undef, V.undef, V.undef, V.undef, V.undef, V.undef, V.undef, V.undef, V.undef, V.undef, V.undef, V.undef, V.undef, V.undef, V.undef, V.undef, V.undef, V.undef, V.undef, V.undef, V.undef, V.undef, V.undef, V.undef, V.undef, V.undef, V.undef, V.undef, V.undef, V.undef, V.undef, V.undef, V.undef, V.undef, V.undef, V.undef, V.undef, V.undef, V.undef, V.undef, V.undef], []⟩ h Q =
 (wpA Try.prog f82_cf f82_n1100 ⟨[(V.sref 6 l0 o1 n2 c3), V.undef, (V.int Go.IntKind.i64 x4), V.undef, (V.fn (Fn.func 47) [] []), V.undef, V.undef, V.undef, V.undef, V.undef, (V.int Go.IntKind.i64 x5), (V.int Go.IntKind.i64 x6), V.undef, V.undef, V.undef, V.undef, V.undef, V.undef, V.undef, V.undef, V.undef, V.undef, V.undef, V.undef, V.undef, V.undef, V.undef, V.undef, V.undef, V.undef, V.undef, V.undef, V.undef, V.undef, V.undef, V.undef, V.undef, V.undef, V.undef, V.undef, V.undef, V.undef, V.undef, V.undef, V.undef, V.undef, V.undef, V.undef, V.undef, V.undef, V.undef, V.undef, V.undef, V.undef, V.undef, V.undef, V.undef, V.undef], []⟩ h (blockK 0 Q)) := wpA_at f82_n110_plug (by kernel_rfl)
theorem f82_n1100_eq : f82_n1100 = Code.loop f82_n11000 := by
  simp only [f82_n1100, f82_n11000, hide_eq]
  kernel_rfl
def f82_n11000_F (l0 : Nat) (o1 : Nat) (n2 : Nat) (c3 : Nat) (x4 : Int) (x5 : Int) (x6 : Int) : Fr := ⟨[(V.sref 6 l0 o1 n2 c3), V.undef, (V.int Go.IntKind.i64 x4), V.undef, (V.fn (Fn.func 47) [] []), V.undef, V.undef, V.undef, V.undef, V.undef, (V.int Go.IntKind.i64 x5), (V.int Go.IntKind.i64 x6), V.undef, V.undef, V.undef, V.undef, V.undef, V.undef, V.undef, V.undef, V.undef, V.undef, V.undef, V.undef, V.undef, V.undef, V.undef, V.undef, V.undef, V.undef, V.undef, V.undef, V.undef, V.undef, V.undef, V.undef, V.undef, V.undef, V.undef, V.undef, V.undef, V.undef, V.undef, V.undef, V.undef, V.undef, V.undef, V.undef, V.undef, V.undef, V.undef, V.undef, V.undef, V.undef, V.undef, V.undef, V.undef, V.undef], []⟩
theorem f82_n11000_plug : f82_n11000 = (codeAt [1, 1, 0, 0, 0] f82_b) := by
  simp only [f82_n11000, hide_eq]
  try kernel_rfl
theorem f82_n11000_wp (l0 : Nat) (o1 : Nat) (n2 : Nat) (c3 : Nat) (x4 : Int) (x5 : Int) (x6 : Int) (h : Heap) (Q : Ex → Fr → Heap → Prop) : wpA Try.prog f82_cf f82_n11000 ⟨[(V.sref 6 l0 o1 n2 c3), V.undef, (V.int Go.IntKind.i64 x4), V.undef, (V.fn (Fn.func 47) [] []), V.undef, V.undef, V.undef, V.undef, V.undef, (V.int Go.IntKind.i64 x5), (V.int Go.IntKind.i64 x6), V.undef, V.undef, V.undef, V.undef, V.undef, V.undef, V.undef, V.undef, V.undef, V.undef, V.undef, V.undef, V.undef, V.undef, V.undef, V.undef, V.undef, V.undef, V.undef, V.undef, V.undef, V.undef, V.undef, V.undef, V.undef, V.undef, V.undef, V.undef, V.undef, V.undef, V.undef, V.undef, V.undef, V.undef, V.undef, V.undef, V.undef, V.undef, V.undef, V.undef, V.undef, V.undef, V.undef, V.undef, V.undef, V.undef], []⟩ h Q =
 (brW (x5 != x6)
 (brW (decide (x6 < x5))
 (let iz3 : Int := (Go.IntKind.wrap Go.IntKind.i64 (x4 - x5));
 (AnyW Try.prog 85 [(V.sref 6 l0 o1 n2 c3), (V.int Go.IntKind.i64 iz3), (V.int Go.IntKind.i64 x4), (V.int Go.IntKind.i64 x6), (V.fn (Fn.func 47) [] [])] h (fun (rz4 : V) (hz5 : Heap) =>
 (V.isTup 0 rz4 = true ∧ (let iz6 : Int := (Go.IntKind.wrap Go.IntKind.i64 (x5 - x6));
 (Q Ex.normal ⟨[(V.sref 6 l0 o1 n2 c3), V.undef, (V.int Go.IntKind.i64 x4), V.undef, (V.fn (Fn.func 47) [] []), V.undef, V.undef, V.undef, V.undef, V.undef, (V.int Go.IntKind.i64 iz6), (V.int Go.IntKind.i64 x6), V.undef, V.undef, V.undef, V.undef, V.undef, V.undef, V.undef, V.undef, V.undef, V.undef, V.undef, V.undef, V.undef, V.undef, V.undef, V.undef, V.undef, V.undef, V.undef, V.undef, V.undef, V.undef, V.undef, V.undef, V.undef, V.undef, V.undef, V.undef, V.undef, V.undef, V.undef, V.undef, V.undef, V.undef, V.undef, V.undef, V.undef, V.undef, V.undef, V.undef, V.undef, V.undef, V.undef, V.undef, V.undef, V.undef], []⟩ hz5))))))
 (let iz7 : Int := (Go.IntKind.wrap Go.IntKind.i64 (x4 - x5));
 (let iz8 : Int := (Go.IntKind.wrap Go.IntKind.i64 (x4 + x6));
 (let iz9 : Int := (Go.IntKind.wrap Go.IntKind.i64 (iz8 - x5));
 (AnyW Try.prog 85 [(V.sref 6 l0 o1 n2 c3), (V.int Go.IntKind.i64 iz7), (V.int Go.IntKind.i64 iz9), (V.int Go.IntKind.i64 x5), (V.fn (Fn.func 47) [] [])] h (fun (rz10 : V) (hz11 : Heap) =>
 (V.isTup 0 rz10 = true ∧ (let iz12 : Int := (Go.IntKind.wrap Go.IntKind.i64 (x6 - x5));
 (Q Ex.normal ⟨[(V.sref 6 l0 o1 n2 c3), V.undef, (V.int Go.IntKind.i64 x4), V.undef, (V.fn (Fn.func 47) [] []), V.undef, V.undef, V.undef, V.undef, V.undef, (V.int Go.IntKind.i64 x5), (V.int Go.IntKind.i64 iz12), V.undef, V.undef, V.undef, V.undef, V.undef, V.undef, V.undef, V.undef, V.undef, V.undef, V.undef, V.undef, V.undef, V.undef, V.undef, V.undef, V.undef, V.undef, V.undef, V.undef, V.undef, V.undef, V.undef, V.undef, V.undef, V.undef, V.undef, V.undef, V.undef, V.undef, V.undef, V.undef, V.undef, V.undef, V.undef, V.undef, V.undef, V.undef, V.undef, V.undef, V.undef, V.undef, V.undef, V.undef, V.undef, V.undef], []⟩ hz11)))))))))
 (Q (Ex.exit 0) ⟨[(V.sref 6 l0 o1 n2 c3), V.undef, (V.int Go.IntKind.i64 x4), V.undef, (V.fn (Fn.func 47) [] []), V.undef, V.undef, V.undef, V.undef, V.undef, (V.int Go.IntKind.i64 x5), (V.int Go.IntKind.i64 x6), V.undef, V.undef, V.undef, V.undef, V.undef, V.undef, V.undef, V.undef, (V.bool (x5 != x6)), V.undef, V.undef, V.undef, V.undef, V.undef, V.undef, V.undef, V.undef, V.undef, V.undef, V.undef, V.undef, V.undef, V.undef, V.undef, V.undef, V.undef, V.undef, V.undef, V.undef, V.undef, V.undef, V.undef, V.undef, V.undef, V.undef, V.undef, V.undef, V.undef, V.undef, V.undef, V.undef, V.undef, V.undef, V.undef, V.undef, V.undef], []⟩ h)) := wpA_at f82_n11000_plug (by kernel_rfl)
theorem f82_n111_plug : f82_n111 = (codeAt [1, 1, 1] f82_b) := by
  simp only [f82_n111, hide_eq]
  try kernel_rfl
theorem f82_n111_wp (l0 : Nat) (o1 : Nat) (n2 : Nat) (c3 : Nat) (x4 : Int) (x5 : Int) (x6 : Int) (b7 : Bool) (h : Heap) (Q : Ex → Fr → Heap → Prop) : wpA Try.prog f82_cf f82_n111 ⟨[(V.sref 6 l0 o1 n2 c3), V.undef, (V.int Go.IntKind.i64 x4), V.undef, (V.fn (Fn.func 47) [] []), V.undef, V.undef, V.undef, V.undef, V.undef, (V.int Go.IntKind.i64 x5), (V.int Go.IntKind.i64 x6), V.undef, V.undef, V.undef, V.undef, V.undef, V.undef, V.undef, V.undef, (V.bool b7), V.undef, V.undef, V.undef, V.undef, V.undef, V.undef, V.undef, V.undef, V.undef, V.undef, V.undef, V.undef, V.undef, V.undef, V.undef, V.undef, V.undef, V.undef, V.undef, V.undef, V.undef, V.undef, V.undef, V.undef, V.undef, V.undef, V.undef, V.undef, V.undef, V.undef, V.undef, V.undef, V.undef, V.undef, V.undef, V.undef, V.undef], []⟩ h Q =
 (let iz13 : Int := (Go.IntKind.wrap Go.IntKind.i64 (x4 - x5));
 (AnyW Try.prog 85 [(V.sref 6 l0 o1 n2 c3), (V.int Go.IntKind.i64 iz13), (V.int Go.IntKind.i64 x4), (V.int Go.IntKind.i64 x5), (V.fn (Fn.func 47) [] [])] h (fun (rz14 : V) (hz15 : Heap) =>
 (V.isTup 0 rz14 = true ∧ (Q Ex.normal ⟨[V.undef, V.undef, V.undef, V.undef, V.undef, V.undef, V.undef, V.undef, V.undef, V.undef, V.undef, V.undef, V.undef, V.undef, V.undef, V.undef, V.undef, V.undef, V.undef, V.undef, V.undef, V.undef, V.undef, V.undef, V.undef, V.undef, V.undef, V.undef, V.undef, V.undef, V.undef, V.undef, V.undef, V.undef, V.undef, V.undef, V.undef, V.undef, V.undef, V.undef, V.undef, V.undef, V.undef, V.undef, V.undef, V.undef, V.undef, V.undef, V.undef, V.undef, V.undef, V.undef, V.undef, V.undef, V.undef, V.undef, V.undef, V.undef], []⟩ hz15))))) := wpA_at f82_n111_plug (by kernel_rfl)
theorem f82_end1 (h : Heap) (K : V → Heap → Prop) : bodyK Try.prog Try.f82 K Ex.normal ⟨[V.undef, V.undef, V.undef, V.undef, V.undef, V.undef, V.undef, V.undef, V.undef, V.undef, V.undef, V.undef, V.undef, V.undef, V.undef, V.undef, V.undef, V.undef, V.undef, V.undef, V.undef, V.undef, V.undef, V.undef, V.undef, V.undef, V.undef, V.undef, V.undef, V.undef, V.undef, V.undef, V.undef, V.undef, V.undef, V.undef, V.undef, V.undef, V.undef, V.undef, V.undef, V.undef, V.undef, V.undef, V.undef, V.undef, V.undef, V.undef, V.undef, V.undef, V.undef, V.undef, V.undef, V.undef, V.undef, V.undef, V.undef, V.undef], []⟩ h = (K (V.tup []) h) := by kernel_rfl
end

section
open Go Go.Proofs Jb
set_option linter.unusedSimpArgs false

theorem swap_call (l c a b k : Nat) (rs : List Odr) (rest : List V) (h : Heap) (ha : a + k ≤ rs.length) (hb : b + k ≤ rs.length) (hn : rs.length ≤ 1000000) :
    CallW Try.prog 85 [.sref 6 l 0 rs.length c, .int .i64 a, .int .i64 b, .int .i64 k, .fn (Fn.func 47) [] []] (T l rs rest h) (fun r h' => r = .tup [] ∧ h' = T l (swapR rs a b k) rest h) := by
  refine CallW.body mix f85_cf Try.func85 (by rw [Try.ntmps85]; simp) ?_
  rw [f85_entry, f85_n_wp, f85_n10_eq]
  refine wpA_loop (σ := Nat) (fun i => f85_n100_F l 0 rs.length c a b k i) (fun i => T l (swapR rs a b i) rest h) (fun i => k - i) (fun i => i ≤ k) 0 (by simp [f85_n100_F]) rfl (by simp) ?_
  intro i hi
  simp only [f85_n100_F]
  rw [f85_n100_wp]
  by_cases h1 : i < k
  · have e1 : a + i < (swapR rs a b i).length := by simp; omega
    have e2 : b + i < (swapR rs a b i).length := by simp; omega
    simp only [show ((i : Int) < k) from by omega, decide_true, brW_true, wadd a i (by omega), wadd b i (by omega), wadd1 i (by omega), Int.toNat_natCast, zero_addN, T_at, tab_get _ _ e1, tab_get _ _ e2, tab_wr _ _ _ e2, tab_wr _ _ _ e1,
      cellsAt_same, T_upd, upd_upd]
    rw [tab_wr _ _ _ (by simpa using e2)]
    simp only [tab_len, List.length_append, ocs_len, List.length_set, swapR_len] at e1 e2 ⊢
    refine ⟨by omega, by omega, by omega, by omega, by omega, trivial, by omega, by omega, trivial, by omega, ?_⟩
    exact ⟨i + 1, rfl, rfl, by omega, by omega⟩
  · have : i = k := by omega
    subst this
    simp [f85_end1]

theorem swap_any (l c a b k : Nat) (rs : List Odr) (rest : List V) (h : Heap) (ha : a + k ≤ rs.length) (hb : b + k ≤ rs.length) (hn : rs.length ≤ 1000000) {K : V → Heap → Prop}
    (m : K (.tup []) (T l (swapR rs a b k) rest h)) :
    AnyW Try.prog 85 [.sref 6 l 0 rs.length c, .int .i64 a, .int .i64 b, .int .i64 k, .fn (Fn.func 47) [] []] (T l rs rest h) K :=
  AnyW.of (by kernel_rfl) (swap_call l c a b k rs rest h ha hb hn) (fun r h' e => by obtain ⟨rfl, rfl⟩ := e; exact m)

theorem rot_call (l c a m b : Nat) (rs : List Odr) (rest : List V) (h : Heap) (ha : a < m) (hm : m < b) (hb : b ≤ rs.length) (hn : rs.length ≤ 1000000) :
    CallW Try.prog 82 [.sref 6 l 0 rs.length c, .int .i64 a, .int .i64 m, .int .i64 b, .fn (Fn.func 47) [] []] (T l rs rest h) (fun r h' => r = .tup [] ∧ h' = T l (rot rs a m b) rest h) := by
  refine CallW.body mix f82_cf Try.func82 (by rw [Try.ntmps82]; simp) ?_
  rw [f82_entry, f82_n_wp, wsub m a (by omega) (by omega), wsub b m (by omega) (by omega), f82_n11_eq, wpA_seq, f82_n110_wp, f82_n1100_eq]
  refine wpA_loop (σ := Nat × Nat × List Odr) (fun s => f82_n11000_F l 0 rs.length c m s.1 s.2.1) (fun s => T l s.2.2 rest h) (fun s => s.1 + s.2.1)
    (fun s => 0 < s.1 ∧ 0 < s.2.1 ∧ s.1 ≤ m ∧ m + s.2.1 ≤ rs.length ∧ s.2.2.length = rs.length ∧ rot s.2.2 (m - s.1) m (m + s.2.1) = rot rs a m b) (m - a, b - m, rs) (by simp [f82_n11000_F]) rfl
    ⟨by simp; omega, by simp; omega, by simp, by simp; omega, rfl, by simp only; congr 1 <;> omega⟩ ?_
  rintro ⟨i, j, qs⟩ ⟨h1, h2, h3, h4, h5, h6⟩
  simp only at h1 h2 h3 h4 h5 h6
  simp only [f82_n11000_F]
  rw [f82_n11000_wp]
  rw [← h5]
  by_cases c1 : i = j
  · subst c1
    simp only [bne_self_eq_false, brW_false]
    simp only [blockK_exit, seqK_exit, if_true, seqK_normal]
    rw [f82_n111_wp, wsub m i (by omega) (by omega)]
    refine swap_any l c (m - i) m i qs rest h (by omega) (by omega) (by omega) ?_
    refine ⟨rfl, ?_⟩
    rw [f82_end1, rot_eq _ _ _ (by omega) (by omega), h6]
    exact ⟨rfl, rfl⟩
  · have hne : ((i : Int) != (j : Int)) = true := by rw [bne_iff_ne]; omega
    rw [hne, brW_true]
    by_cases c2 : j < i
    · rw [show decide ((j : Int) < (i : Int)) = true from decide_eq_true (by omega), brW_true, wsub m i (by omega) (by omega)]
      refine swap_any l c (m - i) m j qs rest h (by omega) (by omega) (by omega) ?_
      refine ⟨rfl, ?_⟩
      rw [wsub i j (by omega) (by omega)]
      refine ⟨(i - j, j, swapR qs (m - i) m j), by rw [h5], rfl, ⟨by simp; omega, h2, by simp; omega, by simp; omega, by simp [h5], ?_⟩, by simp; omega⟩
      simp only
      rw [rot_left _ _ _ _ c2 (by omega) (by omega), h6]
    · rw [show decide ((j : Int) < (i : Int)) = false from decide_eq_false (by omega), brW_false, wsub m i (by omega) (by omega), wadd m j (by omega)]
      simp only [wsub (m + j) i (by omega) (by omega)]
      refine swap_any l c (m - i) (m + j - i) i qs rest h (by omega) (by omega) (by omega) ?_
      refine ⟨rfl, ?_⟩
      rw [wsub j i (by omega) (by omega)]
      refine ⟨(i, j - i, swapR qs (m - i) (m + j - i) i), by rw [h5], rfl, ⟨h1, by simp; omega, h3, by simp; omega, by simp [h5], ?_⟩, by simp; omega⟩
      simp only
      rw [rot_right _ _ _ _ (by omega) (by omega) (by omega), h6]
end

section
set_option linter.all false
set_option maxRecDepth 100000
open Go Go.Proofs Jb
def f62_cf : Cfg := ⟨[], [(0, [2]), (1, [0, 3, 4, 5])]⟩
noncomputable def f62_b : Code := bodyOf Try.f62
noncomputable def f62_n : Code :=  (codeAt [] f62_b)
theorem f62_entry (x : Int) (h : Heap) (K : V → Heap → Prop) : bodyW Try.prog f62_cf Try.f62 [(V.int Go.IntKind.u64 x)] h K = wpA Try.prog f62_cf f62_n ⟨[(V.int Go.IntKind.u64 x), V.undef, V.undef, V.undef, V.undef, V.undef], []⟩ h (bodyK Try.prog Try.f62 K) := by kernel_rfl
theorem f62_n_plug : f62_n = (codeAt [] f62_b) := by
  simp only [f62_n, hide_eq]
  try kernel_rfl
theorem f62_n_wp (x : Int) (h : Heap) (Q : Ex → Fr → Heap → Prop) : wpA Try.prog f62_cf f62_n ⟨[(V.int Go.IntKind.u64 x), V.undef, V.undef, V.undef, V.undef, V.undef], []⟩ h Q =
 (Q Ex.ret ⟨[V.undef, V.undef, (V.bool (x != x)), V.undef, V.undef, V.undef], []⟩ h) := wpA_at f62_n_plug (by kernel_rfl)
theorem f62_end1 (b0 : Bool) (h : Heap) (K : V → Heap → Prop) : bodyK Try.prog Try.f62 K Ex.ret ⟨[V.undef, V.undef, (V.bool b0), V.undef, V.undef, V.undef], []⟩ h = (K (V.bool b0) h) := by kernel_rfl
end

section
set_option linter.all false
set_option maxRecDepth 100000
open Go Go.Proofs Jb
def f49_cf : Cfg := ⟨[], [(0, [4]), (1, [7, 8]), (2, [9, 10]), (3, [5]), (4, [0, 1, 6, 11]), (5, [12]), (6, [12]), (7, [6, 11]), (8, [0, 1, 13]), (9, [13, 14, 15]), (10, [0, 1, 16]), (11, [0, 1, 16, 17, 18]), (12, [19]), (13, [19])]⟩
noncomputable def f49_b : Code := bodyOf Try.f49
noncomputable def f49_n : Code :=  (codeAt [] f49_b)
theorem f49_entry (x : Int) (y : Int) (h : Heap) (K : V → Heap → Prop) : bodyW Try.prog f49_cf Try.f49 [(V.int Go.IntKind.u64 x), (V.int Go.IntKind.u64 y)] h K = wpA Try.prog f49_cf f49_n ⟨[(V.int Go.IntKind.u64 x), (V.int Go.IntKind.u64 y), V.undef, V.undef, V.undef, V.undef, V.undef, V.undef, V.undef, V.undef, V.undef, V.undef, V.undef, V.undef, V.undef, V.undef, V.undef, V.undef, V.undef, V.undef], []⟩ h (bodyK Try.prog Try.f49 K) := by kernel_rfl
theorem f49_n_plug : f49_n = (codeAt [] f49_b) := by
  simp only [f49_n, hide_eq]
  try kernel_rfl
theorem f49_n_wp (x : Int) (y : Int) (h : Heap) (Q : Ex → Fr → Heap → Prop) : wpA Try.prog f49_cf f49_n ⟨[(V.int Go.IntKind.u64 x), (V.int Go.IntKind.u64 y), V.undef, V.undef, V.undef, V.undef, V.undef, V.undef, V.undef, V.undef, V.undef, V.undef, V.undef, V.undef, V.undef, V.undef, V.undef, V.undef, V.undef, V.undef], []⟩ h Q =
 (AnyW Try.prog 62 [(V.int Go.IntKind.u64 x)] h (fun (rz1 : V) (hz2 : Heap) =>
 ((True ∧ V.isBool rz1 = true) ∧ (AnyW Try.prog 62 [(V.int Go.IntKind.u64 y)] hz2 (fun (rz3 : V) (hz4 : Heap) =>
 ((True ∧ V.isBool rz3 = true) ∧ (brW (V.flag rz1)
 (brW (V.flag rz3)
 (Q Ex.ret ⟨[V.undef, V.undef, V.undef, V.undef, (V.int Go.IntKind.i64 (0 : Int)), V.undef, V.undef, V.undef, V.undef, V.undef, V.undef, V.undef, V.undef, V.undef, V.undef, V.undef, V.undef, V.undef, V.undef, V.undef], []⟩ hz4)
 (Q Ex.ret ⟨[V.undef, V.undef, V.undef, V.undef, (V.int Go.IntKind.i64 (-1 : Int)), V.undef, V.undef, V.undef, V.undef, V.undef, V.undef, V.undef, V.undef, V.undef, V.undef, V.undef, V.undef, V.undef, V.undef, V.undef], []⟩ hz4))
 (brW (V.flag rz3)
 (Q Ex.ret ⟨[V.undef, V.undef, V.undef, V.undef, (V.int Go.IntKind.i64 (1 : Int)), V.undef, V.undef, V.undef, V.undef, V.undef, V.undef, V.undef, V.undef, V.undef, V.undef, V.undef, V.undef, V.undef, V.undef, V.undef], []⟩ hz4)
 (brW (decide (x < y))
 (Q Ex.ret ⟨[V.undef, V.undef, V.undef, V.undef, (V.int Go.IntKind.i64 (-1 : Int)), V.undef, V.undef, V.undef, V.undef, V.undef, V.undef, V.undef, V.undef, V.undef, V.undef, V.undef, V.undef, V.undef, V.undef, V.undef], []⟩ hz4)
 (brW (decide (y < x))
 (Q Ex.ret ⟨[V.undef, V.undef, V.undef, V.undef, (V.int Go.IntKind.i64 (1 : Int)), V.undef, V.undef, V.undef, V.undef, V.undef, V.undef, V.undef, V.undef, V.undef, V.undef, V.undef, V.undef, V.undef, V.undef, V.undef], []⟩ hz4)
 (Q Ex.ret ⟨[V.undef, V.undef, V.undef, V.undef, (V.int Go.IntKind.i64 (0 : Int)), V.undef, V.undef, V.undef, V.undef, V.undef, V.undef, V.undef, V.undef, V.undef, V.undef, V.undef, V.undef, V.undef, V.undef, V.undef], []⟩ hz4))))))))))) := wpA_at f49_n_plug (by kernel_rfl)
theorem f49_end1 (x0 : Int) (h : Heap) (K : V → Heap → Prop) : bodyK Try.prog Try.f49 K Ex.ret ⟨[V.undef, V.undef, V.undef, V.undef, (V.int Go.IntKind.i64 x0), V.undef, V.undef, V.undef, V.undef, V.undef, V.undef, V.undef, V.undef, V.undef, V.undef, V.undef, V.undef, V.undef, V.undef, V.undef], []⟩ h = (K (V.int Go.IntKind.i64 x0) h) := by kernel_rfl
end

section
set_option linter.all false
set_option maxRecDepth 100000
open Go Go.Proofs Jb
def f48_cf : Cfg := ⟨[], [(0, [2]), (2, [0]), (4, [9, 10, 11]), (5, [12, 13]), (6, [3, 5, 6, 7, 8, 14, 15]), (7, [5, 14, 16]), (8, [3, 6, 7, 8, 9, 17])]⟩
noncomputable def f48_b : Code := bodyOf Try.f48
noncomputable def f48_n : Code :=  (codeAt [] f48_b)
noncomputable def f48_n11 : Code := hide (codeAt [1, 1] f48_b)
noncomputable def f48_n110 : Code := hide (codeAt [1, 1, 0] f48_b)
noncomputable def f48_n11010 : Code := hide (codeAt [1, 1, 0, 1, 0] f48_b)
noncomputable def f48_n110100 : Code := hide (codeAt [1, 1, 0, 1, 0, 0] f48_b)
noncomputable def f48_n111 : Code := hide (codeAt [1, 1, 1] f48_b)
theorem f48_entry (l : List Int) (l_g : G) (h : Heap) (K : V → Heap → Prop) : bodyW Try.prog f48_cf Try.f48 [(V.sl 1 (col l) l_g)] h K = wpA Try.prog f48_cf f48_n ⟨[(V.sl 1 (col l) l_g), V.undef, V.undef, V.undef, V.undef, V.undef, V.undef, V.undef, V.undef, V.undef, V.undef, V.undef, V.undef, V.undef, V.undef, V.undef, V.undef, V.undef], []⟩ h (bodyK Try.prog Try.f48 K) := by kernel_rfl
theorem f48_n_plug : f48_n = (plug [1, 1] (codeAt [] f48_b) f48_n11) := by
  simp only [f48_n, f48_n11, hide_eq]
  try kernel_rfl
theorem f48_n_wp (l : List Int) (l_g : G) (h : Heap) (Q : Ex → Fr → Heap → Prop) : wpA Try.prog f48_cf f48_n ⟨[(V.sl 1 (col l) l_g), V.undef, V.undef, V.undef, V.undef, V.undef, V.undef, V.undef, V.undef, V.undef, V.undef, V.undef, V.undef, V.undef, V.undef, V.undef, V.undef, V.undef], []⟩ h Q =
 (wpA Try.prog f48_cf f48_n11 ⟨[(V.sl 1 (col l) l_g), V.undef, V.undef, (V.int Go.IntKind.i64 (0 : Int)), V.undef, V.undef, V.undef, V.undef, V.undef, V.undef, V.undef, V.undef, V.undef, V.undef, V.undef, V.undef, V.undef, V.undef], []⟩ h Q) := wpA_at f48_n_plug (by kernel_rfl)
theorem f48_n11_eq : f48_n11 = Code.seq f48_n110 f48_n111 := by
  simp only [f48_n11, f48_n110, f48_n111, hide_eq]
  kernel_rfl
theorem f48_n110_plug : f48_n110 = (plug [1, 0] (codeAt [1, 1, 0] f48_b) f48_n11010) := by
  simp only [f48_n110, f48_n11010, hide_eq]
  try kernel_rfl
theorem f48_n110_wp (e0 : List (List V)) (g1 : G) (x2 : Int) (h : Heap) (Q : Ex → Fr → Heap → Prop) : wpA Try.prog f48_cf f48_n110 ⟨[(V.sl 1 e0 g1), V.undef, V.undef, (V.int Go.IntKind.i64 x2), V.undef, V.undef, V.undef, V.undef, V.undef, V.undef, V.undef, V.undef, V.undef, V.undef, V.undef, V.undef, V.undef, V.undef], []⟩ h Q =
 (wpA Try.prog f48_cf f48_n11010 ⟨[V.undef, V.undef, V.undef, (V.int Go.IntKind.i64 x2), V.undef, V.undef, (V.sl 1 e0 g1), (V.int Go.IntKind.i64 ((List.length e0) : Int)), (V.int Go.IntKind.i64 (0 : Int)), V.undef, V.undef, V.undef, V.undef, V.undef, V.undef, V.undef, V.undef, V.undef], []⟩ h (blockK 0 Q)) := wpA_at f48_n110_plug (by kernel_rfl)
theorem f48_n11010_eq : f48_n11010 = Code.loop f48_n110100 := by
  simp only [f48_n11010, f48_n110100, hide_eq]
  kernel_rfl
def f48_n110100_F (x0 : Int) (e1 : List (List V)) (g2 : G) (x3 : Int) (x4 : Int) : Fr := ⟨[V.undef, V.undef, V.undef, (V.int Go.IntKind.i64 x0), V.undef, V.undef, (V.sl 1 e1 g2), (V.int Go.IntKind.i64 x3), (V.int Go.IntKind.i64 x4), V.undef, V.undef, V.undef, V.undef, V.undef, V.undef, V.undef, V.undef, V.undef], []⟩
theorem f48_n110100_plug : f48_n110100 = (codeAt [1, 1, 0, 1, 0, 0] f48_b) := by
  simp only [f48_n110100, hide_eq]
  try kernel_rfl
theorem f48_n110100_wp (x0 : Int) (e1 : List (List V)) (g2 : G) (x3 : Int) (x4 : Int) (h : Heap) (Q : Ex → Fr → Heap → Prop) : wpA Try.prog f48_cf f48_n110100 ⟨[V.undef, V.undef, V.undef, (V.int Go.IntKind.i64 x0), V.undef, V.undef, (V.sl 1 e1 g2), (V.int Go.IntKind.i64 x3), (V.int Go.IntKind.i64 x4), V.undef, V.undef, V.undef, V.undef, V.undef, V.undef, V.undef, V.undef, V.undef], []⟩ h Q =
 (brW (decide (x4 < x3))
 ((0 ≤ x4 ∧ x4 < (List.length e1)) ∧ ((0 < (List.length (ge e1 (Int.toNat x4))) ∧ V.isInt Go.IntKind.i64 (gv (ge e1 (Int.toNat x4)) 0) = true) ∧ (let iz1 : Int := (V.num (gv (ge e1 (Int.toNat x4)) 0));
 (brW (iz1 != x0)
 (Q Ex.ret ⟨[V.undef, V.undef, (V.int Go.IntKind.i64 iz1), V.undef, V.undef, V.undef, V.undef, V.undef, V.undef, V.undef, V.undef, V.undef, V.undef, V.undef, V.undef, V.undef, V.undef, V.undef], []⟩ h)
 (let iz2 : Int := (Go.IntKind.wrap Go.IntKind.i64 (x4 + (1 : Int)));
 (Q Ex.normal ⟨[V.undef, V.undef, V.undef, (V.int Go.IntKind.i64 x0), V.undef, V.undef, (V.sl 1 e1 g2), (V.int Go.IntKind.i64 x3), (V.int Go.IntKind.i64 iz2), V.undef, V.undef, V.undef, V.undef, V.undef, V.undef, V.undef, V.undef, V.undef], []⟩ h))))))
 (Q (Ex.exit 0) ⟨[V.undef, V.undef, V.undef, (V.int Go.IntKind.i64 x0), V.undef, V.undef, (V.sl 1 e1 g2), (V.int Go.IntKind.i64 x3), (V.int Go.IntKind.i64 x4), (V.bool (decide (x4 < x3))), V.undef, V.undef, V.undef, V.undef, V.undef, V.undef, V.undef, V.undef], []⟩ h)) := wpA_at f48_n110100_plug (by kernel_rfl)
theorem f48_n111_plug : f48_n111 = (codeAt [1, 1, 1] f48_b) := by
  simp only [f48_n111, hide_eq]
  try kernel_rfl
theorem f48_n111_wp (x0 : Int) (e1 : List (List V)) (g2 : G) (x3 : Int) (x4 : Int) (b5 : Bool) (h : Heap) (Q : Ex → Fr → Heap → Prop) : wpA Try.prog f48_cf f48_n111 ⟨[V.undef, V.undef, V.undef, (V.int Go.IntKind.i64 x0), V.undef, V.undef, (V.sl 1 e1 g2), (V.int Go.IntKind.i64 x3), (V.int Go.IntKind.i64 x4), (V.bool b5), V.undef, V.undef, V.undef, V.undef, V.undef, V.undef, V.undef, V.undef], []⟩ h Q =
 (Q Ex.ret ⟨[V.undef, V.undef, (V.int Go.IntKind.i64 x0), V.undef, V.undef, V.undef, V.undef, V.undef, V.undef, V.undef, V.undef, V.undef, V.undef, V.undef, V.undef, V.undef, V.undef, V.undef], []⟩ h) := wpA_at f48_n111_plug (by kernel_rfl)
theorem f48_end1 (x0 : Int) (h : Heap) (K : V → Heap → Prop) : bodyK Try.prog Try.f48 K Ex.ret ⟨[V.undef, V.undef, (V.int Go.IntKind.i64 x0), V.undef, V.undef, V.undef, V.undef, V.undef, V.undef, V.undef, V.undef, V.undef, V.undef, V.undef, V.undef, V.undef, V.undef, V.undef], []⟩ h = (K (V.int Go.IntKind.i64 x0) h) := by kernel_rfl
end

section
set_option linter.all false
set_option maxRecDepth 100000
open Go Go.Proofs Jb
def f47_cf : Cfg := ⟨[], [(0, [0, 1, 4]), (1, [2, 3, 5, 6, 7, 8, 9, 10, 11, 12, 13, 14, 15, 16])]⟩
noncomputable def f47_b : Code := bodyOf Try.f47
noncomputable def f47_n : Code :=  (codeAt [] f47_b)
theorem f47_entry (x : List V) (y : List V) (h : Heap) (K : V → Heap → Prop) : bodyW Try.prog f47_cf Try.f47 [(V.agg x), (V.agg y)] h K = wpA Try.prog f47_cf f47_n ⟨[(V.agg x), (V.agg y), V.undef, V.undef, V.undef, V.undef, V.undef, V.undef, V.undef, V.undef, V.undef, V.undef, V.undef, V.undef, V.undef, V.undef, V.undef], []⟩ h (bodyK Try.prog Try.f47 K) := by kernel_rfl
theorem f47_n_plug : f47_n = (codeAt [] f47_b) := by
  simp only [f47_n, hide_eq]
  try kernel_rfl
theorem f47_n_wp (x : List V) (y : List V) (h : Heap) (Q : Ex → Fr → Heap → Prop) : wpA Try.prog f47_cf f47_n ⟨[(V.agg x), (V.agg y), V.undef, V.undef, V.undef, V.undef, V.undef, V.undef, V.undef, V.undef, V.undef, V.undef, V.undef, V.undef, V.undef, V.undef, V.undef], []⟩ h Q =
 (((List.length x) = 6) ∧ (((List.length y) = 6) ∧ ((5 < (List.length x) ∧ V.isInt Go.IntKind.u64 (gv x 5) = true) ∧ ((5 < (List.length y) ∧ V.isInt Go.IntKind.u64 (gv y 5) = true) ∧ ((0 < (List.length x) ∧ V.isInt Go.IntKind.u64 (gv x 0) = true) ∧ ((0 < (List.length y) ∧ V.isInt Go.IntKind.u64 (gv y 0) = true) ∧ (AnyW Try.prog 49 [(V.int Go.IntKind.u64 (V.num (gv x 5))), (V.int Go.IntKind.u64 (V.num (gv y 5)))] h (fun (rz1 : V) (hz2 : Heap) =>
 ((True ∧ V.isInt Go.IntKind.i64 rz1 = true) ∧ (((0 < (List.length y) ∧ V.isInt Go.IntKind.u64 (gv y 0) = true) ∧ (V.int Go.IntKind.u64 (V.num (gv y 0))) = (V.int Go.IntKind.u64 (V.num (gv y 0)))) ∧ (((0 < (List.length x) ∧ V.isInt Go.IntKind.u64 (gv x 0) = true) ∧ (V.int Go.IntKind.u64 (V.num (gv x 0))) = (V.int Go.IntKind.u64 (V.num (gv x 0)))) ∧ (AnyW Try.prog 49 [(V.int Go.IntKind.u64 (V.num (gv x 0))), (V.int Go.IntKind.u64 (V.num (gv y 0)))] hz2 (fun (rz3 : V) (hz4 : Heap) =>
 ((True ∧ V.isInt Go.IntKind.i64 rz3 = true) ∧ ((True ∧ (True ∧ True)) ∧ (AnyW Try.prog 48 [(V.sl 1 [[(V.int Go.IntKind.i64 (V.num rz1))], [(V.int Go.IntKind.i64 (V.num rz3))]] G.full)] hz4 (fun (rz5 : V) (hz6 : Heap) =>
 ((True ∧ V.isInt Go.IntKind.i64 rz5 = true) ∧ (Q Ex.ret ⟨[V.undef, V.undef, V.undef, V.undef, (V.int Go.IntKind.i64 (V.num rz5)), V.undef, V.undef, V.undef, V.undef, V.undef, V.undef, V.undef, V.undef, V.undef, V.undef, V.undef, V.undef], []⟩ hz6))))))))))))))))))) := wpA_at f47_n_plug (by kernel_rfl)
theorem f47_end1 (x0 : Int) (h : Heap) (K : V → Heap → Prop) : bodyK Try.prog Try.f47 K Ex.ret ⟨[V.undef, V.undef, V.undef, V.undef, (V.int Go.IntKind.i64 x0), V.undef, V.undef, V.undef, V.undef, V.undef, V.undef, V.undef, V.undef, V.undef, V.undef, V.undef, V.undef], []⟩ h = (K (V.int Go.IntKind.i64 x0) h) := by kernel_rfl
end

section
open Go Go.Proofs Jb
set_option linter.unusedSimpArgs false

def cmpI (a b : Int) : Int := if a < b then -1 else if b < a then 1 else 0
/-- The first one that is not 0. -/
def orL : List Int → Int
  | [] => 0
  | a :: l => if a = 0 then orL l else a

theorem nan_call (x : Int) (h : Heap) : CallW Try.prog 62 [.int .u64 x] h (fun r h' => r = .bool false ∧ h' = h) := by
  refine CallW.body mix f62_cf Try.func62 (by rw [Try.ntmps62]; simp) ?_
  rw [f62_entry, f62_n_wp]
  simp [f62_end1]
theorem nan_any (x : Int) {h : Heap} {K : V → Heap → Prop} (m : K (.bool false) h) : AnyW Try.prog 62 [.int .u64 x] h K := AnyW.eq (by kernel_rfl) (nan_call x h) m

theorem cmp_call (x y : Int) (h : Heap) : CallW Try.prog 49 [.int .u64 x, .int .u64 y] h (fun r h' => r = .int .i64 (cmpI x y) ∧ h' = h) := by
  refine CallW.body mix f49_cf Try.func49 (by rw [Try.ntmps49]; simp) ?_
  rw [f49_entry, f49_n_wp]
  refine nan_any _ ⟨⟨trivial, rfl⟩, ?_⟩
  refine nan_any _ ⟨⟨trivial, rfl⟩, ?_⟩
  unfold cmpI
  simp only [flag_bool, brW_false]
  by_cases c1 : x < y
  · simp [c1, f49_end1]
  · by_cases c2 : y < x <;> simp [c1, c2, f49_end1]
theorem cmp_any (x y : Int) {h : Heap} {K : V → Heap → Prop} (m : K (.int .i64 (cmpI x y)) h) : AnyW Try.prog 49 [.int .u64 x, .int .u64 y] h K := AnyW.eq (by kernel_rfl) (cmp_call x y h) m

theorem orL_skip (l : List Int) (i : Nat) (hi : i < l.length) (h : orL l = orL (l.drop i)) : orL l = if gi l i = 0 then orL (l.drop (i + 1)) else gi l i := by
  rw [h, List.drop_eq_getElem_cons hi, gi_lt l hi, orL]

theorem or_call (l : List Int) (g : G) (hl : l.length < 1000000) (h : Heap) : CallW Try.prog 48 [.sl 1 (col l) g] h (fun r h' => r = .int .i64 (orL l) ∧ h' = h) := by
  refine CallW.body mix f48_cf Try.func48 (by rw [Try.ntmps48]; simp) ?_
  rw [f48_entry, f48_n_wp, f48_n11_eq, wpA_seq, f48_n110_wp, f48_n11010_eq]
  refine wpA_loop (σ := Nat) (fun i => f48_n110100_F 0 (col l) g l.length i) (fun _ => h) (fun i => l.length - i) (fun i => i ≤ l.length ∧ orL l = orL (l.drop i)) 0 (by simp [f48_n110100_F]) rfl (by simp) ?_
  rintro i ⟨hi, ha⟩
  simp only [f48_n110100_F]
  rw [f48_n110100_wp]
  by_cases h1 : i < l.length
  · have hs := orL_skip l i h1 ha
    simp only [show ((i : Int) < l.length) from by omega, decide_true, brW_true, col_len, Int.toNat_natCast, col_get l h1, wadd1 i (by omega)]
    refine ⟨⟨by omega, trivial⟩, ⟨by simp, by simp⟩, ?_⟩
    simp only [gv_zero, num_int]
    by_cases c : gi l i = 0
    · rw [c] at hs ⊢
      simp only [bne_self_eq_false, brW_false]
      rw [if_pos rfl] at hs
      exact ⟨i + 1, rfl, rfl, ⟨by omega, hs⟩, by omega⟩
    · rw [if_neg c] at hs
      rw [show (gi l i != 0) = true from by rw [bne_iff_ne]; exact c, brW_true]
      simp [f48_end1, hs]
  · have : l.drop i = [] := List.drop_eq_nil_of_le (by omega)
    rw [this] at ha
    simp [h1, f48_n111_wp, f48_end1, ha, orL]
theorem or_any (l : List Int) (g : G) (hl : l.length < 1000000) {h : Heap} {K : V → Heap → Prop} (m : K (.int .i64 (orL l)) h) : AnyW Try.prog 48 [.sl 1 (col l) g] h K := AnyW.eq (by kernel_rfl) (or_call l g hl h) m

/-- Which order comes first. -/
def cmpO (x y : Odr) : Int := orL [cmpI x.seq y.seq, cmpI x.id y.id]
def ltO (x y : Odr) : Bool := decide (cmpO x y < 0)
theorem ltO_iff (x y : Odr) : ltO x y = true ↔ x.seq < y.seq ∨ (x.seq = y.seq ∧ x.id < y.id) := by
  unfold ltO cmpO cmpI
  simp only [decide_eq_true_eq, orL]
  by_cases c1 : x.seq < y.seq <;> by_cases c2 : y.seq < x.seq <;> by_cases c3 : x.id < y.id <;> by_cases c4 : y.id < x.id <;> simp [c1, c2, c3, c4] <;> omega

theorem cmpo_call (x y : Odr) (h : Heap) : CallW Try.prog 47 [.agg (ocs x), .agg (ocs y)] h (fun r h' => r = .int .i64 (cmpO x y) ∧ h' = h) := by
  refine CallW.body mix f47_cf Try.func47 (by rw [Try.ntmps47]; simp) ?_
  rw [f47_entry, f47_n_wp]
  simp only [ocs_len, ocs0, ocs5, num_int, isInt_u64, show 5 < 6 from by omega, show 0 < 6 from by omega, true_and, and_self]
  refine cmp_any _ _ ⟨rfl, ?_⟩
  refine cmp_any _ _ ⟨rfl, ?_⟩
  refine or_any [cmpI x.seq y.seq, cmpI x.id y.id] .full (by simp) ⟨rfl, ?_⟩
  simp [f47_end1, cmpO]
theorem cmpo_any (x y : Odr) {h : Heap} {K : V → Heap → Prop} (m : K (.int .i64 (cmpO x y)) h) : AnyW Try.prog 47 [.agg (ocs x), .agg (ocs y)] h K := AnyW.eq (by kernel_rfl) (cmpo_call x y h) m
end

section
open Go Go.Proofs Jb
set_option linter.unusedSimpArgs false

/-- The order of orders. -/
def Le2 (x y : Odr) : Prop := x.seq < y.seq ∨ (x.seq = y.seq ∧ x.id ≤ y.id)
def Lt2 (x y : Odr) : Prop := x.seq < y.seq ∨ (x.seq = y.seq ∧ x.id < y.id)
theorem Le2.refl (x : Odr) : Le2 x x := .inr ⟨rfl, Int.le_refl _⟩
theorem Le2.trans {x y z : Odr} (a : Le2 x y) (b : Le2 y z) : Le2 x z := by unfold Le2 at *; omega
theorem Lt2.le {x y : Odr} (a : Lt2 x y) : Le2 x y := by unfold Le2 Lt2 at *; omega
theorem Lt2.le_lt {x y z : Odr} (a : Lt2 x y) (b : Le2 y z) : Lt2 x z := by unfold Le2 Lt2 at *; omega
theorem Le2.lt_le {x y z : Odr} (a : Le2 x y) (b : Lt2 y z) : Lt2 x z := by unfold Le2 Lt2 at *; omega
theorem le_or_lt (x y : Odr) : Le2 x y ∨ Lt2 y x := by unfold Le2 Lt2; omega
theorem Lt2.not_le {x y : Odr} (a : Lt2 x y) : ¬ Le2 y x := by unfold Le2 Lt2 at *; omega
theorem cmpO_lt (x y : Odr) : cmpO x y < 0 ↔ Lt2 x y := by
  have := ltO_iff x y
  unfold ltO at this
  rw [decide_eq_true_eq] at this
  exact this

def Srt (rs : List Odr) (a b : Nat) : Prop := ∀ i j, a ≤ i → i < j → j < b → Le2 (go rs i) (go rs j)
theorem Srt.le {rs : List Odr} {a b : Nat} (s : Srt rs a b) {i j : Nat} (h1 : a ≤ i) (h2 : i ≤ j) (h3 : j < b) : Le2 (go rs i) (go rs j) := by
  rcases Nat.lt_or_ge i j with h | h
  · exact s i j h1 h h3
  · rw [show i = j from by omega]; exact .refl _

/-- Has an order these two numbers? -/
def kf (q : Int × Int) (o : Odr) : Bool := decide (o.seq = q.1) && decide (o.id = q.2)
theorem kf_iff (q : Int × Int) (o : Odr) : kf q o = true ↔ o.seq = q.1 ∧ o.id = q.2 := by simp [kf]
def Stb (X Y : List Odr) : Prop := ∀ q, X.filter (kf q) = Y.filter (kf q)

/-- What is in the places a to b is there in another order; who are alike stay in theirs. -/
structure Mv (rs rs' : List Odr) (a b : Nat) : Prop where
  len : rs'.length = rs.length
  out : ∀ p, p < a ∨ b ≤ p → go rs' p = go rs p
  frm : ∀ p, a ≤ p → p < b → ∃ q, a ≤ q ∧ q < b ∧ go rs' p = go rs q
  stb : Stb rs rs'

theorem Mv.refl (rs : List Odr) (a b : Nat) : Mv rs rs a b := ⟨rfl, fun _ _ => rfl, fun p h1 h2 => ⟨p, h1, h2, rfl⟩, fun _ => rfl⟩
theorem Mv.trans {rs rs1 rs2 : List Odr} {a b : Nat} (x : Mv rs rs1 a b) (y : Mv rs1 rs2 a b) : Mv rs rs2 a b :=
  ⟨y.len.trans x.len, fun p h => (y.out p h).trans (x.out p h), fun p h1 h2 => by
    obtain ⟨q, q1, q2, q3⟩ := y.frm p h1 h2
    obtain ⟨r, r1, r2, r3⟩ := x.frm q q1 q2
    exact ⟨r, r1, r2, q3.trans r3⟩, fun q => (x.stb q).trans (y.stb q)⟩
theorem Mv.widen {rs rs' : List Odr} {a b a' b' : Nat} (x : Mv rs rs' a b) (h1 : a' ≤ a) (h2 : b ≤ b') : Mv rs rs' a' b' :=
  ⟨x.len, fun p h => x.out p (by omega), fun p g1 g2 => by
    by_cases c : a ≤ p ∧ p < b
    · obtain ⟨q, q1, q2, q3⟩ := x.frm p c.1 c.2
      exact ⟨q, by omega, by omega, q3⟩
    · exact ⟨p, g1, g2, x.out p (by omega)⟩, x.stb⟩
theorem Mv.srt {rs rs' : List Odr} {a b c d : Nat} (x : Mv rs rs' a b) (h : d ≤ a ∨ b ≤ c) (s : Srt rs c d) : Srt rs' c d := by
  intro i j h1 h2 h3
  rw [x.out i (by omega), x.out j (by omega)]
  exact s i j h1 h2 h3

theorem split4 (rs : List Odr) (x y z : Nat) (h1 : x ≤ y) (h2 : y ≤ z) : rs = rs.take x ++ ((rs.drop x).take (y - x) ++ ((rs.drop y).take (z - y) ++ rs.drop z)) := by
  conv => lhs; rw [← List.take_append_drop x rs]
  congr 1
  conv => lhs; rw [← List.take_append_drop (y - x) (rs.drop x)]
  rw [List.drop_drop, show x + (y - x) = y from by omega]
  congr 1
  conv => lhs; rw [← List.take_append_drop (z - y) (rs.drop y)]
  rw [List.drop_drop, show y + (z - y) = z from by omega]

theorem mem_part {rs : List Odr} {x n : Nat} {o : Odr} (h : o ∈ (rs.drop x).take n) : ∃ i, x ≤ i ∧ i < x + n ∧ go rs i = o := by
  obtain ⟨k, hk, rfl⟩ := List.mem_iff_getElem.1 h
  simp at hk
  refine ⟨x + k, by omega, by omega, ?_⟩
  rw [go_lt _ (by omega)]
  simp

theorem rot_mv (rs : List Odr) (x y z : Nat) (h1 : x ≤ y) (h2 : y ≤ z) (h3 : z ≤ rs.length) (hs : ∀ i j, x ≤ i → i < y → y ≤ j → j < z → Lt2 (go rs j) (go rs i)) : Mv rs (rot rs x y z) x z := by
  refine ⟨rot_len _ _ _ _ h1 h2 h3, fun p hp => ?_, fun p g1 g2 => ?_, fun q => ?_⟩
  · rw [go_rot _ _ _ _ _ h1 h2 h3]
    rcases hp with hp | hp
    · rw [if_pos hp]
    · rw [if_neg (by omega), if_neg (by omega), if_neg (by omega)]
  · rw [go_rot _ _ _ _ _ h1 h2 h3, if_neg (by omega)]
    by_cases c : p < x + (z - y)
    · rw [if_pos c]; exact ⟨p - x + y, by omega, by omega, rfl⟩
    · rw [if_neg c, if_pos g2]; exact ⟨p - (z - y), by omega, by omega, rfl⟩
  · conv => lhs; rw [split4 rs x y z h1 h2]
    unfold rot
    simp only [List.filter_append]
    congr 1
    rw [← List.append_assoc, ← List.append_assoc]
    congr 1
    by_cases c : ((rs.drop x).take (y - x)).filter (kf q) = []
    · rw [c]; simp
    · have : ((rs.drop y).take (z - y)).filter (kf q) = [] := by
        rw [List.filter_eq_nil_iff]
        intro v hv hk
        obtain ⟨u, hu⟩ := List.exists_mem_of_ne_nil _ c
        rw [List.mem_filter] at hu
        obtain ⟨i, i1, i2, i3⟩ := mem_part hu.1
        obtain ⟨j, j1, j2, j3⟩ := mem_part hv
        have := hs i j i1 (by omega) j1 (by omega)
        rw [i3, j3] at this
        have k1 := (kf_iff _ _).1 hu.2
        have k2 := (kf_iff _ _).1 hk
        unfold Lt2 at this
        omega
      rw [this]; simp

theorem swp_rot (rs : List Odr) (j : Nat) (h : j + 1 < rs.length) : swp rs j (j + 1) = rot rs j (j + 1) (j + 2) := by
  apply go_ext
  · rw [rot_len _ _ _ _ (by omega) (by omega) (by omega)]; simp
  · intro p _
    rw [go_swp _ _ _ _ (by omega) h, go_rot _ _ _ _ _ (by omega) (by omega) (by omega)]
    by_cases c1 : p = j
    · subst c1
      rw [if_pos rfl, if_neg (by omega), if_pos (by omega)]
      congr 1; omega
    · by_cases c2 : p = j + 1
      · subst c2
        rw [if_neg (by omega), if_pos rfl, if_neg (by omega), if_neg (by omega), if_pos (by omega)]
        congr 1; omega
      · rw [if_neg c1, if_neg c2]
        by_cases c3 : p < j
        · rw [if_pos c3]
        · rw [if_neg c3, if_neg (by omega), if_neg (by omega)]
theorem swp_comm (rs : List Odr) (i j : Nat) (hi : i < rs.length) (hj : j < rs.length) : swp rs i j = swp rs j i := by
  apply go_ext
  · simp
  · intro p _
    rw [go_swp _ _ _ _ hi hj, go_swp _ _ _ _ hj hi]
    by_cases c1 : p = i
    · by_cases c2 : p = j
      · subst c1; subst c2; rfl
      · subst c1; rw [if_pos rfl, if_neg c2, if_pos rfl]
    · by_cases c2 : p = j
      · subst c2; rw [if_neg c1, if_pos rfl, if_pos rfl]
      · rw [if_neg c1, if_neg c2, if_neg c2, if_neg c1]

/-- One is put to its place: it stands at j now. -/
def Put (rs : List Odr) (a j b : Nat) : Prop := ∀ p q, a ≤ p → p < q → q < b → q ≠ j → Le2 (go rs p) (go rs q)
theorem Put.start {rs : List Odr} {a i : Nat} (s : Srt rs a i) : Put rs a i (i + 1) := fun p q h1 h2 h3 h4 => s p q h1 h2 (by omega)
theorem Put.step {rs : List Odr} {a j b : Nat} (s : Put rs a (j + 1) b) (h1 : a ≤ j) (h2 : j + 1 < b) (h3 : b ≤ rs.length) (hl : Lt2 (go rs (j + 1)) (go rs j)) : Put (swp rs (j + 1) j) a j b ∧ Mv rs (swp rs (j + 1) j) a b := by
  have e : swp rs (j + 1) j = swp rs j (j + 1) := swp_comm _ _ _ (by omega) (by omega)
  constructor
  · intro p q g1 g2 g3 g4
    rw [go_swp _ _ _ _ (by omega) (by omega), go_swp _ _ _ _ (by omega) (by omega)]
    by_cases c1 : q = j + 1
    · subst c1
      rw [if_neg (show ¬ p = j + 1 from by omega), if_pos rfl]
      by_cases c2 : p = j
      · rw [if_pos c2]; exact hl.le
      · rw [if_neg c2]; exact s p j g1 (by omega) (by omega) (by omega)
    · rw [if_neg c1, if_neg g4]
      by_cases c2 : p = j + 1
      · rw [if_pos c2]; exact s j q h1 (by omega) g3 c1
      · rw [if_neg c2]
        by_cases c3 : p = j
        · rw [if_pos c3]; exact s (j + 1) q (by omega) (by omega) g3 c1
        · rw [if_neg c3]; exact s p q g1 g2 g3 c1
  · rw [e, swp_rot _ _ (by omega)]
    refine (rot_mv rs j (j + 1) (j + 2) (by omega) (by omega) (by omega) fun i k i1 i2 k1 k2 => ?_).widen h1 (by omega)
    rw [show i = j from by omega, show k = j + 1 from by omega]
    exact hl
theorem Put.stop {rs : List Odr} {a j b : Nat} (s : Put rs a j b) (h : j = a ∨ Le2 (go rs (j - 1)) (go rs j)) : Srt rs a b := by
  intro p q g1 g2 g3
  by_cases c : q = j
  · subst c
    rcases h with h | h
    · omega
    · by_cases e : p = q - 1
      · rw [e]; exact h
      · exact (s p (q - 1) g1 (by omega) (by omega) (by omega)).trans h
  · exact s p q g1 g2 g3 c

/-- Two pieces that are sorted are one: from where the two parts are apart. -/
theorem merge_law {rs : List Odr} {a m b mid s e : Nat} (ha : a ≤ s) (hsm : s ≤ m) (hme : m ≤ e) (heb : e ≤ b) (hb : b ≤ rs.length) (hmid : mid + m = s + e) (h1 : Srt rs a m) (h2 : Srt rs m b)
    (huv : s < m → m < e → Lt2 (go rs (e - 1)) (go rs s)) (hab : a < s → e < b → Le2 (go rs (s - 1)) (go rs e)) :
    Mv rs (rot rs s m e) a b ∧ Srt (rot rs s m e) a s ∧ Srt (rot rs s m e) s mid ∧ Srt (rot rs s m e) mid e ∧ Srt (rot rs s m e) e b ∧
      ∀ i j, a ≤ i → i < mid → mid ≤ j → j < b → Le2 (go (rot rs s m e) i) (go (rot rs s m e) j) := by
  have R := go_rot rs s m e
  have strict : ∀ i j, s ≤ i → i < m → m ≤ j → j < e → Lt2 (go rs j) (go rs i) := fun i j i1 i2 j1 j2 =>
    (h2.le j1 (show j ≤ e - 1 from by omega) (by omega)).lt_le ((huv (by omega) (by omega)).le_lt (h1.le ha i1 i2))
  have L : ∀ p, p < s → go (rot rs s m e) p = go rs p := fun p h => by rw [R p hsm hme (by omega), if_pos h]
  have M : ∀ p, s ≤ p → p < mid → go (rot rs s m e) p = go rs (p - s + m) := fun p g1 g2 => by rw [R p hsm hme (by omega), if_neg (by omega), if_pos (by omega)]
  have N : ∀ p, mid ≤ p → p < e → go (rot rs s m e) p = go rs (p - (e - m)) := fun p g1 g2 => by rw [R p hsm hme (by omega), if_neg (by omega), if_neg (by omega), if_pos g2]
  have O : ∀ p, e ≤ p → go (rot rs s m e) p = go rs p := fun p g => by rw [R p hsm hme (by omega), if_neg (by omega), if_neg (by omega), if_neg (by omega)]
  refine ⟨(rot_mv rs s m e hsm hme (by omega) strict).widen ha heb, ?_, ?_, ?_, ?_, ?_⟩
  · intro i j g1 g2 g3
    rw [L i (by omega), L j g3]; exact h1 i j g1 g2 (by omega)
  · intro i j g1 g2 g3
    rw [M i g1 (by omega), M j (by omega) g3]; exact h2 _ _ (by omega) (by omega) (by omega)
  · intro i j g1 g2 g3
    rw [N i g1 (by omega), N j (by omega) g3]; exact h1 _ _ (by omega) (by omega) (by omega)
  · intro i j g1 g2 g3
    rw [O i g1, O j (by omega)]; exact h2 _ _ (by omega) (by omega) (by omega)
  · intro i j g1 g2 g3 g4
    by_cases c1 : i < s
    · rw [L i c1]
      by_cases c2 : j < e
      · rw [N j g3 c2]; exact h1.le g1 (by omega) (by omega)
      · rw [O j (by omega)]
        exact (h1.le g1 (show i ≤ s - 1 from by omega) (by omega)).trans ((hab (by omega) (by omega)).trans (h2.le (by omega) (by omega) g4))
    · rw [M i (by omega) g2]
      by_cases c2 : j < e
      · rw [N j g3 c2]; exact (strict _ _ (by omega) (by omega) (by omega) (by omega)).le
      · rw [O j (by omega)]; exact h2.le (by omega) (by omega) g4

/-- Two halves are sorted, each by itself. -/
theorem halves {rs x y : List Odr} {a mid b : Nat} (hm : a ≤ mid) (hb : mid ≤ b) (p : Mv rs x a mid) (sx : Srt x a mid) (q : Mv x y mid b) (sy : Srt y mid b) (ac : ∀ i j, a ≤ i → i < mid → mid ≤ j → j < b → Le2 (go rs i) (go rs j)) :
    Mv rs y a b ∧ Srt y a b := by
  refine ⟨(p.widen (Nat.le_refl _) hb).trans (q.widen hm (Nat.le_refl _)), fun i j g1 g2 g3 => ?_⟩
  by_cases c1 : j < mid
  · rw [q.out i (by omega), q.out j (by omega)]; exact sx i j g1 g2 c1
  · by_cases c2 : mid ≤ i
    · exact sy i j c2 g2 g3
    · rw [q.out i (by omega)]
      obtain ⟨k, k1, k2, k3⟩ := p.frm i g1 (by omega)
      obtain ⟨l, l1, l2, l3⟩ := q.frm j (by omega) g3
      rw [k3, l3, p.out l (by omega)]
      exact ac k l k1 k2 l1 l2

/-- Sorted lists, alike, are the same. -/
theorem srt_uniq : ∀ {X Y : List Odr}, X.Pairwise Le2 → Y.Pairwise Le2 → Stb X Y → X = Y
  | [], [], _, _, _ => rfl
  | [], y :: Y, _, _, s => by
    have := s (y.seq, y.id)
    rw [List.filter_cons_of_pos ((kf_iff _ _).2 ⟨rfl, rfl⟩)] at this
    cases this
  | x :: X, [], _, _, s => by
    have := s (x.seq, x.id)
    rw [List.filter_cons_of_pos ((kf_iff _ _).2 ⟨rfl, rfl⟩)] at this
    cases this
  | x :: X, y :: Y, hx, hy, s => by
    have le1 : Le2 y x := by
      have h1 : x ∈ (x :: X).filter (kf (x.seq, x.id)) := List.mem_filter.2 ⟨by simp, (kf_iff _ _).2 ⟨rfl, rfl⟩⟩
      rw [s] at h1
      have h1 := (List.mem_filter.1 h1).1
      rcases List.mem_cons.1 h1 with h | h
      · rw [h]; exact .refl _
      · exact (List.pairwise_cons.1 hy).1 _ h
    have le2 : Le2 x y := by
      have h1 : y ∈ (y :: Y).filter (kf (y.seq, y.id)) := List.mem_filter.2 ⟨by simp, (kf_iff _ _).2 ⟨rfl, rfl⟩⟩
      rw [← s] at h1
      have h1 := (List.mem_filter.1 h1).1
      rcases List.mem_cons.1 h1 with h | h
      · rw [h]; exact .refl _
      · exact (List.pairwise_cons.1 hx).1 _ h
    have hk : x.seq = y.seq ∧ x.id = y.id := by unfold Le2 at le1 le2; omega
    have e : x = y := by
      have h := s (x.seq, x.id)
      rw [List.filter_cons_of_pos ((kf_iff _ _).2 ⟨rfl, rfl⟩), List.filter_cons_of_pos ((kf_iff _ _).2 ⟨hk.1.symm, hk.2.symm⟩)] at h
      injection h
    subst e
    have := srt_uniq (List.pairwise_cons.1 hx).2 (List.pairwise_cons.1 hy).2 (fun q => by
      have h := s q
      by_cases c : kf q x = true
      · rw [List.filter_cons_of_pos c, List.filter_cons_of_pos c] at h
        injection h
      · rw [List.filter_cons_of_neg c, List.filter_cons_of_neg c] at h
        exact h)
    rw [this]

theorem Srt.pairwise {rs : List Odr} (s : Srt rs 0 rs.length) : rs.Pairwise Le2 := by
  rw [List.pairwise_iff_getElem]
  intro i j hi hj hij
  have := s i j (Nat.zero_le _) hij hj
  rwa [go_lt _ hi, go_lt _ hj] at this

theorem rot_id (rs : List Odr) (x y : Nat) (h : x ≤ y) : rot rs x y y = rs := by
  conv => rhs; rw [split4 rs x y y h (Nat.le_refl _)]
  simp [rot]
theorem rot_id' (rs : List Odr) (x z : Nat) (h : x ≤ z) : rot rs x x z = rs := by
  conv => rhs; rw [split4 rs x x z (Nat.le_refl _) h]
  simp [rot]
/-- Where all is when one goes up, or down. -/
theorem up0 (rs : List Odr) {a i p : Nat} (h1 : a + 1 ≤ i) (hi : i ≤ rs.length) (h : p < a) : go (rot rs a (a + 1) i) p = go rs p := by
  rw [go_rot _ _ _ _ _ (by omega) h1 hi, if_pos h]
theorem up1 (rs : List Odr) {a i p : Nat} (h1 : a + 1 ≤ i) (hi : i ≤ rs.length) (h : a ≤ p) (h2 : p + 1 < i) : go (rot rs a (a + 1) i) p = go rs (p + 1) := by
  rw [go_rot _ _ _ _ _ (by omega) h1 hi, if_neg (by omega), if_pos (by omega)]; congr 1; omega
theorem up2 (rs : List Odr) {a i p : Nat} (h1 : a + 1 ≤ i) (hi : i ≤ rs.length) (h2 : p + 1 = i) : go (rot rs a (a + 1) i) p = go rs a := by
  rw [go_rot _ _ _ _ _ (by omega) h1 hi, if_neg (by omega), if_neg (by omega), if_pos (by omega)]; congr 1; omega
theorem up3 (rs : List Odr) {a i p : Nat} (h1 : a + 1 ≤ i) (hi : i ≤ rs.length) (h2 : i ≤ p) : go (rot rs a (a + 1) i) p = go rs p := by
  rw [go_rot _ _ _ _ _ (by omega) h1 hi, if_neg (by omega), if_neg (by omega), if_neg (by omega)]
theorem dn0 (rs : List Odr) {i m p : Nat} (h1 : i ≤ m) (hm : m < rs.length) (h : p < i) : go (rot rs i m (m + 1)) p = go rs p := by
  rw [go_rot _ _ _ _ _ h1 (by omega) (by omega), if_pos h]
theorem dn1 (rs : List Odr) {i m p : Nat} (h1 : i ≤ m) (hm : m < rs.length) (h : p = i) : go (rot rs i m (m + 1)) p = go rs m := by
  rw [go_rot _ _ _ _ _ h1 (by omega) (by omega), if_neg (by omega), if_pos (by omega)]; congr 1; omega
theorem dn2 (rs : List Odr) {i m p : Nat} (h1 : i ≤ m) (hm : m < rs.length) (h : i < p) (h2 : p ≤ m) : go (rot rs i m (m + 1)) p = go rs (p - 1) := by
  rw [go_rot _ _ _ _ _ h1 (by omega) (by omega), if_neg (by omega), if_neg (by omega), if_pos (by omega)]; congr 1; omega
theorem dn3 (rs : List Odr) {i m p : Nat} (h1 : i ≤ m) (hm : m < rs.length) (h : m < p) : go (rot rs i m (m + 1)) p = go rs p := by
  rw [go_rot _ _ _ _ _ h1 (by omega) (by omega), if_neg (by omega), if_neg (by omega), if_neg (by omega)]

theorem rot_up (rs : List Odr) (a k : Nat) (h : a ≤ k) (hk : k + 1 < rs.length) : swp (rot rs a (a + 1) (k + 1)) k (k + 1) = rot rs a (a + 1) (k + 2) := by
  have hl : (rot rs a (a + 1) (k + 1)).length = rs.length := rot_len _ _ _ _ (by omega) (by omega) (by omega)
  apply go_ext
  · rw [swp_len, hl, rot_len _ _ _ _ (by omega) (by omega) (by omega)]
  · intro p _
    rw [go_swp _ _ _ _ (by omega) (by omega)]
    by_cases c1 : p = k
    · rw [if_pos c1, up3 rs (by omega) (by omega) (by omega), up1 rs (by omega) (by omega) (by omega) (by omega), c1]
    · by_cases c2 : p = k + 1
      · rw [if_neg c1, if_pos c2, up2 rs (by omega) (by omega) (by omega), up2 rs (by omega) (by omega) (by omega)]
      · rw [if_neg c1, if_neg c2]
        by_cases c3 : p < a
        · rw [up0 rs (by omega) (by omega) c3, up0 rs (by omega) (by omega) c3]
        · by_cases c4 : p < k
          · rw [up1 rs (by omega) (by omega) (by omega) (by omega), up1 rs (by omega) (by omega) (by omega) (by omega)]
          · rw [up3 rs (by omega) (by omega) (by omega), up3 rs (by omega) (by omega) (by omega)]
theorem rot_down (rs : List Odr) (m k : Nat) (h : k < m) (hk : m < rs.length) : swp (rot rs (k + 1) m (m + 1)) (k + 1) k = rot rs k m (m + 1) := by
  have hl : (rot rs (k + 1) m (m + 1)).length = rs.length := rot_len _ _ _ _ (by omega) (by omega) (by omega)
  apply go_ext
  · rw [swp_len, hl, rot_len _ _ _ _ (by omega) (by omega) (by omega)]
  · intro p _
    rw [go_swp _ _ _ _ (by omega) (by omega)]
    by_cases c1 : p = k + 1
    · rw [if_pos c1, dn0 rs (by omega) hk (by omega), dn2 rs (by omega) hk (by omega) (by omega), c1]; rfl
    · by_cases c2 : p = k
      · rw [if_neg c1, if_pos c2, dn1 rs (by omega) hk rfl, dn1 rs (by omega) hk c2]
      · rw [if_neg c1, if_neg c2]
        by_cases c3 : p < k
        · rw [dn0 rs (by omega) hk (by omega), dn0 rs (by omega) hk c3]
        · by_cases c4 : p ≤ m
          · rw [dn2 rs (by omega) hk (by omega) c4, dn2 rs (by omega) hk (by omega) c4]
          · rw [dn3 rs (by omega) hk (by omega), dn3 rs (by omega) hk (by omega)]
theorem ins_up {rs : List Odr} {a i b : Nat} (h1 : a + 1 ≤ i) (h2 : i ≤ b) (hb : b ≤ rs.length) (s : Srt rs (a + 1) b) (lo : ∀ p, a + 1 ≤ p → p < i → Lt2 (go rs p) (go rs a)) (hi : ∀ p, i ≤ p → p < b → Le2 (go rs a) (go rs p)) :
    Mv rs (rot rs a (a + 1) i) a b ∧ Srt (rot rs a (a + 1) i) a b := by
  refine ⟨(rot_mv rs a (a + 1) i (by omega) h1 (by omega) fun x y x1 x2 y1 y2 => by rw [show x = a from by omega]; exact lo y y1 y2).widen (Nat.le_refl _) h2, ?_⟩
  intro p q g1 g2 g3
  have hi' : i ≤ rs.length := by omega
  by_cases c1 : q + 1 < i
  · rw [up1 rs h1 hi' g1 (by omega), up1 rs h1 hi' (by omega) c1]; exact s _ _ (by omega) (by omega) (by omega)
  · by_cases c2 : q + 1 = i
    · rw [up1 rs h1 hi' g1 (by omega), up2 rs h1 hi' c2]; exact (lo _ (by omega) (by omega)).le
    · rw [up3 rs h1 hi' (show i ≤ q from by omega)]
      by_cases c3 : p + 1 < i
      · rw [up1 rs h1 hi' g1 c3]; exact s.le (by omega) (by omega) g3
      · by_cases c4 : p + 1 = i
        · rw [up2 rs h1 hi' c4]; exact hi q (by omega) g3
        · rw [up3 rs h1 hi' (show i ≤ p from by omega)]; exact s _ _ (by omega) g2 g3
theorem ins_down {rs : List Odr} {a i m : Nat} (h1 : a ≤ i) (h2 : i ≤ m) (hb : m < rs.length) (s : Srt rs a m) (lo : ∀ p, a ≤ p → p < i → Le2 (go rs p) (go rs m)) (hi : ∀ p, i ≤ p → p < m → Lt2 (go rs m) (go rs p)) :
    Mv rs (rot rs i m (m + 1)) a (m + 1) ∧ Srt (rot rs i m (m + 1)) a (m + 1) := by
  refine ⟨(rot_mv rs i m (m + 1) h2 (by omega) (by omega) fun x y x1 x2 y1 y2 => by rw [show y = m from by omega]; exact hi x x1 x2).widen h1 (Nat.le_refl _), ?_⟩
  intro p q g1 g2 g3
  by_cases c1 : q < i
  · rw [dn0 rs h2 hb c1, dn0 rs h2 hb (show p < i from by omega)]; exact s _ _ g1 g2 (by omega)
  · by_cases c2 : q = i
    · rw [dn1 rs h2 hb c2, dn0 rs h2 hb (show p < i from by omega)]; exact lo p g1 (by omega)
    · rw [dn2 rs h2 hb (show i < q from by omega) (by omega)]
      by_cases c3 : p < i
      · rw [dn0 rs h2 hb c3]; exact s.le g1 (by omega) (by omega)
      · by_cases c4 : p = i
        · rw [dn1 rs h2 hb c4]; exact (hi _ (by omega) (by omega)).le
        · rw [dn2 rs h2 hb (show i < p from by omega) (by omega)]; exact s.le (by omega) (by omega) (by omega)
end

section
set_option linter.all false
set_option maxRecDepth 100000
open Go Go.Proofs Jb
def f72_cf : Cfg := ⟨[], [(0, [10, 11]), (1, [12, 13]), (2, [9, 15, 16, 34]), (3, [14, 17]), (4, [18, 19, 20, 21, 22, 23, 24, 25, 26, 27, 28, 29, 30, 31, 32, 33]), (5, [35, 36]), (6, [34, 37, 38, 39, 40, 41, 42, 43, 44, 45, 46, 47, 48, 49, 50, 51, 52])]⟩
noncomputable def f72_b : Code := bodyOf Try.f72
noncomputable def f72_n : Code :=  (codeAt [] f72_b)
noncomputable def f72_n10 : Code := hide (codeAt [1, 0] f72_b)
noncomputable def f72_n100 : Code := hide (codeAt [1, 0, 0] f72_b)
noncomputable def f72_n1001 : Code := hide (codeAt [1, 0, 0, 1] f72_b)
noncomputable def f72_n10010 : Code := hide (codeAt [1, 0, 0, 1, 0] f72_b)
noncomputable def f72_n10010010 : Code := hide (codeAt [1, 0, 0, 1, 0, 0, 1, 0] f72_b)
noncomputable def f72_n100100100 : Code := hide (codeAt [1, 0, 0, 1, 0, 0, 1, 0, 0] f72_b)
noncomputable def f72_n1001001000 : Code := hide (codeAt [1, 0, 0, 1, 0, 0, 1, 0, 0, 0] f72_b)
noncomputable def f72_n10010010000 : Code := hide (codeAt [1, 0, 0, 1, 0, 0, 1, 0, 0, 0, 0] f72_b)
noncomputable def f72_n10010010001 : Code := hide (codeAt [1, 0, 0, 1, 0, 0, 1, 0, 0, 0, 1] f72_b)
noncomputable def f72_n1001001001 : Code := hide (codeAt [1, 0, 0, 1, 0, 0, 1, 0, 0, 1] f72_b)
noncomputable def f72_n10011 : Code := hide (codeAt [1, 0, 0, 1, 1] f72_b)
theorem f72_entry (d : Nat) (d_o : Nat) (d_n : Nat) (d_c : Nat) (a : Int) (b : Int) (h : Heap) (K : V → Heap → Prop) : bodyW Try.prog f72_cf Try.f72 [(V.sref 6 d d_o d_n d_c), (V.int Go.IntKind.i64 a), (V.int Go.IntKind.i64 b), (V.fn (Fn.func 47) [] [])] h K = wpA Try.prog f72_cf f72_n ⟨[(V.sref 6 d d_o d_n d_c), (V.int Go.IntKind.i64 a), (V.int Go.IntKind.i64 b), (V.fn (Fn.func 47) [] []), V.undef, V.undef, V.undef, V.undef, V.undef, V.undef, V.undef, V.undef, V.undef, V.undef, V.undef, V.undef, V.undef, V.undef, V.undef, V.undef, V.undef, V.undef, V.undef, V.undef, V.undef, V.undef, V.undef, V.undef, V.undef, V.undef, V.undef, V.undef, V.undef, V.undef, V.undef, V.undef, V.undef, V.undef, V.undef, V.undef, V.undef, V.undef, V.undef, V.undef, V.undef, V.undef, V.undef, V.undef, V.undef, V.undef, V.undef, V.undef, V.undef], []⟩ h (bodyK Try.prog Try.f72 K) := by kernel_rfl
theorem f72_n_plug : f72_n = (plug [1, 0] (codeAt [] f72_b) f72_n10) := by
  simp only [f72_n, f72_n10, hide_eq]
  try kernel_rfl
theorem f72_n_wp (d : Nat) (d_o : Nat) (d_n : Nat) (d_c : Nat) (a : Int) (b : Int) (h : Heap) (Q : Ex → Fr → Heap → Prop) : wpA Try.prog f72_cf f72_n ⟨[(V.sref 6 d d_o d_n d_c), (V.int Go.IntKind.i64 a), (V.int Go.IntKind.i64 b), (V.fn (Fn.func 47) [] []), V.undef, V.undef, V.undef, V.undef, V.undef, V.undef, V.undef, V.undef, V.undef, V.undef, V.undef, V.undef, V.undef, V.undef, V.undef, V.undef, V.undef, V.undef, V.undef, V.undef, V.undef, V.undef, V.undef, V.undef, V.undef, V.undef, V.undef, V.undef, V.undef, V.undef, V.undef, V.undef, V.undef, V.undef, V.undef, V.undef, V.undef, V.undef, V.undef, V.undef, V.undef, V.undef, V.undef, V.undef, V.undef, V.undef, V.undef, V.undef, V.undef], []⟩ h Q =
 (let iz1 : Int := (Go.IntKind.wrap Go.IntKind.i64 (a + (1 : Int)));
 (wpA Try.prog f72_cf f72_n10 ⟨[(V.sref 6 d d_o d_n d_c), (V.int Go.IntKind.i64 a), (V.int Go.IntKind.i64 b), (V.fn (Fn.func 47) [] []), V.undef, V.undef, V.undef, V.undef, (V.int Go.IntKind.i64 iz1), V.undef, V.undef, V.undef, V.undef, V.undef, V.undef, V.undef, V.undef, V.undef, V.undef, V.undef, V.undef, V.undef, V.undef, V.undef, V.undef, V.undef, V.undef, V.undef, V.undef, V.undef, V.undef, V.undef, V.undef, V.undef, V.undef, V.undef, V.undef, V.undef, V.undef, V.undef, V.undef, V.undef, V.undef, V.undef, V.undef, V.undef, V.undef, V.undef, V.undef, V.undef, V.undef, V.undef, V.undef], []⟩ h (blockK 0 Q))) := wpA_at f72_n_plug (by kernel_rfl)
theorem f72_n10_eq : f72_n10 = Code.loop f72_n100 := by
  simp only [f72_n10, f72_n100, hide_eq]
  kernel_rfl
def f72_n100_F (l0 : Nat) (o1 : Nat) (n2 : Nat) (c3 : Nat) (x4 : Int) (x5 : Int) (x6 : Int) : Fr := ⟨[(V.sref 6 l0 o1 n2 c3), (V.int Go.IntKind.i64 x4), (V.int Go.IntKind.i64 x5), (V.fn (Fn.func 47) [] []), V.undef, V.undef, V.undef, V.undef, (V.int Go.IntKind.i64 x6), V.undef, V.undef, V.undef, V.undef, V.undef, V.undef, V.undef, V.undef, V.undef, V.undef, V.undef, V.undef, V.undef, V.undef, V.undef, V.undef, V.undef, V.undef, V.undef, V.undef, V.undef, V.undef, V.undef, V.undef, V.undef, V.undef, V.undef, V.undef, V.undef, V.undef, V.undef, V.undef, V.undef, V.undef, V.undef, V.undef, V.undef, V.undef, V.undef, V.undef, V.undef, V.undef, V.undef, V.undef], []⟩
theorem f72_n100_plug : f72_n100 = (plug [1] (codeAt [1, 0, 0] f72_b) f72_n1001) := by
  simp only [f72_n100, f72_n1001, hide_eq]
  try kernel_rfl
theorem f72_n100_wp (l0 : Nat) (o1 : Nat) (n2 : Nat) (c3 : Nat) (x4 : Int) (x5 : Int) (x6 : Int) (h : Heap) (Q : Ex → Fr → Heap → Prop) : wpA Try.prog f72_cf f72_n100 ⟨[(V.sref 6 l0 o1 n2 c3), (V.int Go.IntKind.i64 x4), (V.int Go.IntKind.i64 x5), (V.fn (Fn.func 47) [] []), V.undef, V.undef, V.undef, V.undef, (V.int Go.IntKind.i64 x6), V.undef, V.undef, V.undef, V.undef, V.undef, V.undef, V.undef, V.undef, V.undef, V.undef, V.undef, V.undef, V.undef, V.undef, V.undef, V.undef, V.undef, V.undef, V.undef, V.undef, V.undef, V.undef, V.undef, V.undef, V.undef, V.undef, V.undef, V.undef, V.undef, V.undef, V.undef, V.undef, V.undef, V.undef, V.undef, V.undef, V.undef, V.undef, V.undef, V.undef, V.undef, V.undef, V.undef, V.undef], []⟩ h Q =
 (brW (decide (x6 < x5))
 (wpA Try.prog f72_cf f72_n1001 ⟨[(V.sref 6 l0 o1 n2 c3), (V.int Go.IntKind.i64 x4), (V.int Go.IntKind.i64 x5), (V.fn (Fn.func 47) [] []), V.undef, V.undef, V.undef, V.undef, (V.int Go.IntKind.i64 x6), V.undef, V.undef, V.undef, V.undef, V.undef, (V.bool (decide (x6 < x5))), V.undef, V.undef, V.undef, V.undef, V.undef, V.undef, V.undef, V.undef, V.undef, V.undef, V.undef, V.undef, V.undef, V.undef, V.undef, V.undef, V.undef, V.undef, V.undef, V.undef, V.undef, V.undef, V.undef, V.undef, V.undef, V.undef, V.undef, V.undef, V.undef, V.undef, V.undef, V.undef, V.undef, V.undef, V.undef, V.undef, V.undef, V.undef], []⟩ h Q)
 (Q (Ex.exit 0) ⟨[(V.sref 6 l0 o1 n2 c3), (V.int Go.IntKind.i64 x4), (V.int Go.IntKind.i64 x5), (V.fn (Fn.func 47) [] []), V.undef, V.undef, V.undef, V.undef, (V.int Go.IntKind.i64 x6), V.undef, V.undef, V.undef, V.undef, V.undef, (V.bool (decide (x6 < x5))), V.undef, V.undef, V.undef, V.undef, V.undef, V.undef, V.undef, V.undef, V.undef, V.undef, V.undef, V.undef, V.undef, V.undef, V.undef, V.undef, V.undef, V.undef, V.undef, V.undef, V.undef, V.undef, V.undef, V.undef, V.undef, V.undef, V.undef, V.undef, V.undef, V.undef, V.undef, V.undef, V.undef, V.undef, V.undef, V.undef, V.undef, V.undef], []⟩ h)) := wpA_at f72_n100_plug (by kernel_rfl)
theorem f72_n1001_eq : f72_n1001 = Code.seq f72_n10010 f72_n10011 := by
  simp only [f72_n1001, f72_n10010, f72_n10011, hide_eq]
  kernel_rfl
theorem f72_n10010_plug : f72_n10010 = (plug [0, 1, 0] (codeAt [1, 0, 0, 1, 0] f72_b) f72_n10010010) := by
  simp only [f72_n10010, f72_n10010010, hide_eq]
  try kernel_rfl
theorem f72_n10010_wp (l0 : Nat) (o1 : Nat) (n2 : Nat) (c3 : Nat) (x4 : Int) (x5 : Int) (x6 : Int) (b7 : Bool) (h : Heap) (Q : Ex → Fr → Heap → Prop) : wpA Try.prog f72_cf f72_n10010 ⟨[(V.sref 6 l0 o1 n2 c3), (V.int Go.IntKind.i64 x4), (V.int Go.IntKind.i64 x5), (V.fn (Fn.func 47) [] []), V.undef, V.undef, V.undef, V.undef, (V.int Go.IntKind.i64 x6), V.undef, V.undef, V.undef, V.undef, V.undef, (V.bool b7), V.undef, V.undef, V.undef, V.undef, V.undef, V.undef, V.undef, V.undef, V.undef, V.undef, V.undef, V.undef, V.undef, V.undef, V.undef, V.undef, V.undef, V.undef, V.undef, V.undef, V.undef, V.undef, V.undef, V.undef, V.undef, V.undef, V.undef, V.undef, V.undef, V.undef, V.undef, V.undef, V.undef, V.undef, V.undef, V.undef, V.undef, V.undef], []⟩ h Q =
 (wpA Try.prog f72_cf f72_n10010010 ⟨[(V.sref 6 l0 o1 n2 c3), (V.int Go.IntKind.i64 x4), (V.int Go.IntKind.i64 x5), (V.fn (Fn.func 47) [] []), V.undef, V.undef, V.undef, V.undef, (V.int Go.IntKind.i64 x6), (V.int Go.IntKind.i64 x6), V.undef, V.undef, V.undef, V.undef, V.undef, V.undef, V.undef, V.undef, V.undef, V.undef, V.undef, V.undef, V.undef, V.undef, V.undef, V.undef, V.undef, V.undef, V.undef, V.undef, V.undef, V.undef, V.undef, V.undef, V.undef, V.undef, V.undef, V.undef, V.undef, V.undef, V.undef, V.undef, V.undef, V.undef, V.undef, V.undef, V.undef, V.undef, V.undef, V.undef, V.undef, V.undef, V.undef], []⟩ h (blockK 2 (blockK 1 Q))) := wpA_at f72_n10010_plug (by kernel_rfl)
theorem f72_n10010010_eq : f72_n10010010 = Code.loop f72_n100100100 := by
  simp only [f72_n10010010, f72_n100100100, hide_eq]
  kernel_rfl
theorem f72_n100100100_eq : f72_n100100100 = Code.seq f72_n1001001000 f72_n1001001001 := by
  simp only [f72_n100100100, f72_n1001001000, f72_n1001001001, hide_eq]
  kernel_rfl
def f72_n100100100_F (l0 : Nat) (o1 : Nat) (n2 : Nat) (c3 : Nat) (x4 : Int) (x5 : Int) (x6 : Int) (x7 : Int) : Fr := ⟨[(V.sref 6 l0 o1 n2 c3), (V.int Go.IntKind.i64 x4), (V.int Go.IntKind.i64 x5), (V.fn (Fn.func 47) [] []), V.undef, V.undef, V.undef, V.undef, (V.int Go.IntKind.i64 x6), (V.int Go.IntKind.i64 x7), V.undef, V.undef, V.undef, V.undef, V.undef, V.undef, V.undef, V.undef, V.undef, V.undef, V.undef, V.undef, V.undef, V.undef, V.undef, V.undef, V.undef, V.undef, V.undef, V.undef, V.undef, V.undef, V.undef, V.undef, V.undef, V.undef, V.undef, V.undef, V.undef, V.undef, V.undef, V.undef, V.undef, V.undef, V.undef, V.undef, V.undef, V.undef, V.undef, V.undef, V.undef, V.undef, V.undef], []⟩
theorem f72_n1001001000_eq : f72_n1001001000 = Code.seq f72_n10010010000 f72_n10010010001 := by
  simp only [f72_n1001001000, f72_n10010010000, f72_n10010010001, hide_eq]
  kernel_rfl
theorem f72_n10010010000_plug : f72_n10010010000 = (codeAt [1, 0, 0, 1, 0, 0, 1, 0, 0, 0, 0] f72_b) := by
  simp only [f72_n10010010000, hide_eq]
  try kernel_rfl
theorem f72_n10010010000_wp (l0 : Nat) (o1 : Nat) (n2 : Nat) (c3 : Nat) (x4 : Int) (x5 : Int) (x6 : Int) (x7 : Int) (h : Heap) (Q : Ex → Fr → Heap → Prop) : wpA Try.prog f72_cf f72_n10010010000 ⟨[(V.sref 6 l0 o1 n2 c3), (V.int Go.IntKind.i64 x4), (V.int Go.IntKind.i64 x5), (V.fn (Fn.func 47) [] []), V.undef, V.undef, V.undef, V.undef, (V.int Go.IntKind.i64 x6), (V.int Go.IntKind.i64 x7), V.undef, V.undef, V.undef, V.undef, V.undef, V.undef, V.undef, V.undef, V.undef, V.undef, V.undef, V.undef, V.undef, V.undef, V.undef, V.undef, V.undef, V.undef, V.undef, V.undef, V.undef, V.undef, V.undef, V.undef, V.undef, V.undef, V.undef, V.undef, V.undef, V.undef, V.undef, V.undef, V.undef, V.undef, V.undef, V.undef, V.undef, V.undef, V.undef, V.undef, V.undef, V.undef, V.undef], []⟩ h Q =
 (((decide (x4 < x7)) = true → (decide (x4 < x7)) = true) ∧ (((decide (x4 < x7)) = true → (decide (x4 < x7)) = true) ∧ (((decide (x4 < x7)) = true → (0 ≤ x7 ∧ x7 < n2)) ∧ (((decide (x4 < x7)) = true → (decide (x4 < x7)) = true) ∧ (((decide (x4 < x7)) = true → ((o1 + ((Int.toNat x7) * 6)) + 6 ≤ (List.length (cellsAt h l0)))) ∧ (let cz2 : List V := (List.take 6 (List.drop (o1 + ((Int.toNat x7) * 6)) (cellsAt h l0)));
 (((decide (x4 < x7)) = true → (decide (x4 < x7)) = true) ∧ (let iz3 : Int := (Go.IntKind.wrap Go.IntKind.i64 (x7 - (1 : Int)));
 (((decide (x4 < x7)) = true → (decide (x4 < x7)) = true) ∧ (((decide (x4 < x7)) = true → (decide (x4 < x7)) = true) ∧ (((decide (x4 < x7)) = true → (0 ≤ iz3 ∧ iz3 < n2)) ∧ (((decide (x4 < x7)) = true → (decide (x4 < x7)) = true) ∧ (((decide (x4 < x7)) = true → ((o1 + ((Int.toNat iz3) * 6)) + 6 ≤ (List.length (cellsAt h l0)))) ∧ (let cz4 : List V := (List.take 6 (List.drop (o1 + ((Int.toNat iz3) * 6)) (cellsAt h l0)));
 (let kz5 : Int → Heap → Prop := fun (xz6 : Int) (hz7 : Heap) =>
 (((decide (x4 < x7)) = true → (decide (x4 < x7)) = true) ∧ (let bz8 : Bool := (decide (xz6 < (0 : Int)));
 ((((decide (x4 < x7)) = true → (decide (x4 < x7)) = true) ∧ True) ∧ (let bz9 : Bool := (cond (decide (x4 < x7)) bz8 false);
 (Q Ex.normal ⟨[(V.sref 6 l0 o1 n2 c3), (V.int Go.IntKind.i64 x4), (V.int Go.IntKind.i64 x5), (V.fn (Fn.func 47) [] []), V.undef, V.undef, V.undef, V.undef, (V.int Go.IntKind.i64 x6), (V.int Go.IntKind.i64 x7), V.undef, V.undef, V.undef, V.undef, V.undef, V.undef, V.undef, V.undef, V.undef, V.undef, V.undef, V.undef, V.undef, V.undef, V.undef, V.undef, V.undef, V.undef, V.undef, V.undef, V.undef, V.undef, V.undef, V.undef, (V.bool bz9), V.undef, V.undef, V.undef, V.undef, V.undef, V.undef, V.undef, V.undef, V.undef, V.undef, V.undef, V.undef, V.undef, V.undef, V.undef, V.undef, V.undef, V.undef], []⟩ hz7)))));
 brW (decide (x4 < x7))
 (((decide (x4 < x7)) = true) ∧ (((decide (x4 < x7)) = true) ∧ (((decide (x4 < x7)) = true) ∧ (AnyW Try.prog 47 [(V.agg cz2), (V.agg cz4)] h (fun (rz10 : V) (hz11 : Heap) =>
 ((True ∧ V.isInt Go.IntKind.i64 rz10 = true) ∧ (kz5 (V.num rz10) hz11)))))))
 (kz5 (0 : Int) h)))))))))))))))) := wpA_at f72_n10010010000_plug (by kernel_rfl)
theorem f72_n10010010001_plug : f72_n10010010001 = (codeAt [1, 0, 0, 1, 0, 0, 1, 0, 0, 0, 1] f72_b) := by
  simp only [f72_n10010010001, hide_eq]
  try kernel_rfl
theorem f72_n10010010001_wp (l0 : Nat) (o1 : Nat) (n2 : Nat) (c3 : Nat) (x4 : Int) (x5 : Int) (x6 : Int) (x7 : Int) (b8 : Bool) (h : Heap) (Q : Ex → Fr → Heap → Prop) : wpA Try.prog f72_cf f72_n10010010001 ⟨[(V.sref 6 l0 o1 n2 c3), (V.int Go.IntKind.i64 x4), (V.int Go.IntKind.i64 x5), (V.fn (Fn.func 47) [] []), V.undef, V.undef, V.undef, V.undef, (V.int Go.IntKind.i64 x6), (V.int Go.IntKind.i64 x7), V.undef, V.undef, V.undef, V.undef, V.undef, V.undef, V.undef, V.undef, V.undef, V.undef, V.undef, V.undef, V.undef, V.undef, V.undef, V.undef, V.undef, V.undef, V.undef, V.undef, V.undef, V.undef, V.undef, V.undef, (V.bool b8), V.undef, V.undef, V.undef, V.undef, V.undef, V.undef, V.undef, V.undef, V.undef, V.undef, V.undef, V.undef, V.undef, V.undef, V.undef, V.undef, V.undef, V.undef], []⟩ h Q =
 (brW b8
 (Q Ex.normal ⟨[(V.sref 6 l0 o1 n2 c3), (V.int Go.IntKind.i64 x4), (V.int Go.IntKind.i64 x5), (V.fn (Fn.func 47) [] []), V.undef, V.undef, V.undef, V.undef, (V.int Go.IntKind.i64 x6), (V.int Go.IntKind.i64 x7), V.undef, V.undef, V.undef, V.undef, V.undef, V.undef, V.undef, V.undef, V.undef, V.undef, V.undef, V.undef, V.undef, V.undef, V.undef, V.undef, V.undef, V.undef, V.undef, V.undef, V.undef, V.undef, V.undef, V.undef, (V.bool b8), V.undef, V.undef, V.undef, V.undef, V.undef, V.undef, V.undef, V.undef, V.undef, V.undef, V.undef, V.undef, V.undef, V.undef, V.undef, V.undef, V.undef, V.undef], []⟩ h)
 (Q (Ex.exit 2) ⟨[(V.sref 6 l0 o1 n2 c3), (V.int Go.IntKind.i64 x4), (V.int Go.IntKind.i64 x5), (V.fn (Fn.func 47) [] []), V.undef, V.undef, V.undef, V.undef, (V.int Go.IntKind.i64 x6), (V.int Go.IntKind.i64 x7), V.undef, V.undef, V.undef, V.undef, V.undef, V.undef, V.undef, V.undef, V.undef, V.undef, V.undef, V.undef, V.undef, V.undef, V.undef, V.undef, V.undef, V.undef, V.undef, V.undef, V.undef, V.undef, V.undef, V.undef, (V.bool b8), V.undef, V.undef, V.undef, V.undef, V.undef, V.undef, V.undef, V.undef, V.undef, V.undef, V.undef, V.undef, V.undef, V.undef, V.undef, V.undef, V.undef, V.undef], []⟩ h)) := wpA_at f72_n10010010001_plug (by kernel_rfl)
theorem f72_n1001001001_plug : f72_n1001001001 = (codeAt [1, 0, 0, 1, 0, 0, 1, 0, 0, 1] f72_b) := by
  simp only [f72_n1001001001, hide_eq]
  try kernel_rfl
theorem f72_n1001001001_wp (l0 : Nat) (o1 : Nat) (n2 : Nat) (c3 : Nat) (x4 : Int) (x5 : Int) (x6 : Int) (x7 : Int) (b8 : Bool) (h : Heap) (Q : Ex → Fr → Heap → Prop) : wpA Try.prog f72_cf f72_n1001001001 ⟨[(V.sref 6 l0 o1 n2 c3), (V.int Go.IntKind.i64 x4), (V.int Go.IntKind.i64 x5), (V.fn (Fn.func 47) [] []), V.undef, V.undef, V.undef, V.undef, (V.int Go.IntKind.i64 x6), (V.int Go.IntKind.i64 x7), V.undef, V.undef, V.undef, V.undef, V.undef, V.undef, V.undef, V.undef, V.undef, V.undef, V.undef, V.undef, V.undef, V.undef, V.undef, V.undef, V.undef, V.undef, V.undef, V.undef, V.undef, V.undef, V.undef, V.undef, (V.bool b8), V.undef, V.undef, V.undef, V.undef, V.undef, V.undef, V.undef, V.undef, V.undef, V.undef, V.undef, V.undef, V.undef, V.undef, V.undef, V.undef, V.undef, V.undef], []⟩ h Q =
 (let iz12 : Int := (Go.IntKind.wrap Go.IntKind.i64 (x7 - (1 : Int)));
 (let iz13 : Int := (Go.IntKind.wrap Go.IntKind.i64 (x7 - (1 : Int)));
 ((0 ≤ iz13 ∧ iz13 < n2) ∧ (((o1 + ((Int.toNat iz13) * 6)) + 6 ≤ (List.length (cellsAt h l0))) ∧ (let cz14 : List V := (List.take 6 (List.drop (o1 + ((Int.toNat iz13) * 6)) (cellsAt h l0)));
 ((0 ≤ x7 ∧ x7 < n2) ∧ (((o1 + ((Int.toNat x7) * 6)) + 6 ≤ (List.length (cellsAt h l0))) ∧ (let cz15 : List V := (List.take 6 (List.drop (o1 + ((Int.toNat x7) * 6)) (cellsAt h l0)));
 ((0 ≤ x7 ∧ x7 < n2) ∧ (((List.length cz14) = 6) ∧ (o1 + ((Int.toNat x7) * 6)) + 6 ≤ (List.length (cellsAt h l0)) ∧ (let hz16 : Heap := (Heap.upd h l0 (Ob.cells (wrCells (cellsAt h l0) (o1 + ((Int.toNat x7) * 6)) cz14)));
 ((0 ≤ iz12 ∧ iz12 < n2) ∧ (((List.length cz15) = 6) ∧ (o1 + ((Int.toNat iz12) * 6)) + 6 ≤ (List.length (cellsAt hz16 l0)) ∧ (let hz17 : Heap := (Heap.upd hz16 l0 (Ob.cells (wrCells (cellsAt hz16 l0) (o1 + ((Int.toNat iz12) * 6)) cz15)));
 (let iz18 : Int := (Go.IntKind.wrap Go.IntKind.i64 (x7 - (1 : Int)));
 (Q Ex.normal ⟨[(V.sref 6 l0 o1 n2 c3), (V.int Go.IntKind.i64 x4), (V.int Go.IntKind.i64 x5), (V.fn (Fn.func 47) [] []), V.undef, V.undef, V.undef, V.undef, (V.int Go.IntKind.i64 x6), (V.int Go.IntKind.i64 iz18), V.undef, V.undef, V.undef, V.undef, V.undef, V.undef, V.undef, V.undef, V.undef, V.undef, V.undef, V.undef, V.undef, V.undef, V.undef, V.undef, V.undef, V.undef, V.undef, V.undef, V.undef, V.undef, V.undef, V.undef, V.undef, V.undef, V.undef, V.undef, V.undef, V.undef, V.undef, V.undef, V.undef, V.undef, V.undef, V.undef, V.undef, V.undef, V.undef, V.undef, V.undef, V.undef, V.undef], []⟩ hz17)))))))))))))))) := wpA_at f72_n1001001001_plug (by kernel_rfl)
theorem f72_n10011_plug : f72_n10011 = (codeAt [1, 0, 0, 1, 1] f72_b) := by
  simp only [f72_n10011, hide_eq]
  try kernel_rfl
theorem f72_n10011_wp (l0 : Nat) (o1 : Nat) (n2 : Nat) (c3 : Nat) (x4 : Int) (x5 : Int) (x6 : Int) (x7 : Int) (b8 : Bool) (h : Heap) (Q : Ex → Fr → Heap → Prop) : wpA Try.prog f72_cf f72_n10011 ⟨[(V.sref 6 l0 o1 n2 c3), (V.int Go.IntKind.i64 x4), (V.int Go.IntKind.i64 x5), (V.fn (Fn.func 47) [] []), V.undef, V.undef, V.undef, V.undef, (V.int Go.IntKind.i64 x6), (V.int Go.IntKind.i64 x7), V.undef, V.undef, V.undef, V.undef, V.undef, V.undef, V.undef, V.undef, V.undef, V.undef, V.undef, V.undef, V.undef, V.undef, V.undef, V.undef, V.undef, V.undef, V.undef, V.undef, V.undef, V.undef, V.undef, V.undef, (V.bool b8), V.undef, V.undef, V.undef, V.undef, V.undef, V.undef, V.undef, V.undef, V.undef, V.undef, V.undef, V.undef, V.undef, V.undef, V.undef, V.undef, V.undef, V.undef], []⟩ h Q =
 (let iz19 : Int := (Go.IntKind.wrap Go.IntKind.i64 (x6 + (1 : Int)));
 (Q Ex.normal ⟨[(V.sref 6 l0 o1 n2 c3), (V.int Go.IntKind.i64 x4), (V.int Go.IntKind.i64 x5), (V.fn (Fn.func 47) [] []), V.undef, V.undef, V.undef, V.undef, (V.int Go.IntKind.i64 iz19), V.undef, V.undef, V.undef, V.undef, V.undef, V.undef, V.undef, V.undef, V.undef, V.undef, V.undef, V.undef, V.undef, V.undef, V.undef, V.undef, V.undef, V.undef, V.undef, V.undef, V.undef, V.undef, V.undef, V.undef, V.undef, V.undef, V.undef, V.undef, V.undef, V.undef, V.undef, V.undef, V.undef, V.undef, V.undef, V.undef, V.undef, V.undef, V.undef, V.undef, V.undef, V.undef, V.undef, V.undef], []⟩ h)) := wpA_at f72_n10011_plug (by kernel_rfl)
theorem f72_end1 (l0 : Nat) (o1 : Nat) (n2 : Nat) (c3 : Nat) (x4 : Int) (x5 : Int) (x6 : Int) (b7 : Bool) (h : Heap) (K : V → Heap → Prop) : bodyK Try.prog Try.f72 K Ex.normal ⟨[(V.sref 6 l0 o1 n2 c3), (V.int Go.IntKind.i64 x4), (V.int Go.IntKind.i64 x5), (V.fn (Fn.func 47) [] []), V.undef, V.undef, V.undef, V.undef, (V.int Go.IntKind.i64 x6), V.undef, V.undef, V.undef, V.undef, V.undef, (V.bool b7), V.undef, V.undef, V.undef, V.undef, V.undef, V.undef, V.undef, V.undef, V.undef, V.undef, V.undef, V.undef, V.undef, V.undef, V.undef, V.undef, V.undef, V.undef, V.undef, V.undef, V.undef, V.undef, V.undef, V.undef, V.undef, V.undef, V.undef, V.undef, V.undef, V.undef, V.undef, V.undef, V.undef, V.undef, V.undef, V.undef, V.undef, V.undef], []⟩ h = (K (V.tup []) h) := by kernel_rfl
end

section
open Go Go.Proofs Jb
set_option linter.unusedSimpArgs false

/-- Two orders change places in a block. -/
theorem swp_heap (l i j : Nat) (rs : List Odr) (rest : List V) (h : Heap) (hi : i < rs.length) (hj : j < rs.length) :
    (h.upd l (.cells (wrCells (wrCells (tab rs ++ rest) (i * 6) (ocs (go rs j))) (j * 6) (ocs (go rs i))))) = T l (swp rs i j) rest h := by
  rw [tab_wr _ _ _ hi, tab_wr _ _ _ (by simpa using hj)]
  rfl

theorem dlt (x : Int) : decide (V.num (.int .i64 x) < 0) = decide (x < 0) := rfl

theorem ins_call (l c a b : Nat) (rs : List Odr) (rest : List V) (h : Heap) (hb : b ≤ rs.length) (hn : rs.length ≤ 1000000) (ha : a ≤ rs.length) :
    CallW Try.prog 72 [.sref 6 l 0 rs.length c, .int .i64 a, .int .i64 b, .fn (Fn.func 47) [] []] (T l rs rest h)
      (fun r h' => r = .tup [] ∧ ∃ rs', h' = T l rs' rest h ∧ Mv rs rs' a b ∧ Srt rs' a b) := by
  refine CallW.body mix f72_cf Try.func72 (by rw [Try.ntmps72]; simp) ?_
  rw [f72_entry, f72_n_wp, wadd1 a (by omega), f72_n10_eq]
  refine wpA_loop (σ := Nat × List Odr) (fun s => f72_n100_F l 0 rs.length c a b s.1) (fun s => T l s.2 rest h) (fun s => b - s.1)
    (fun s => a < s.1 ∧ (s.1 ≤ b ∨ s.1 = a + 1) ∧ Mv rs s.2 a b ∧ Srt s.2 a s.1) (a + 1, rs) (by simp [f72_n100_F]) rfl
    ⟨by simp, .inr rfl, .refl _ _ _, fun i j h1 h2 h3 => by omega⟩ ?_
  rintro ⟨i, qs⟩ ⟨h1, h2, h3, h4⟩
  simp only at h1 h2 h3 h4
  have hlen := h3.len
  simp only [f72_n100_F]
  rw [f72_n100_wp]
  by_cases c1 : i < b
  · rw [show decide ((i : Int) < (b : Int)) = true from decide_eq_true (by omega), brW_true, f72_n1001_eq, wpA_seq, f72_n10010_wp, f72_n10010010_eq]
    refine wpA_loop (σ := Nat × List Odr) (fun s => f72_n100100100_F l 0 rs.length c a b i s.1) (fun s => T l s.2 rest h) (fun s => s.1)
      (fun s => a ≤ s.1 ∧ s.1 ≤ i ∧ Mv qs s.2 a (i + 1) ∧ Put s.2 a s.1 (i + 1)) (i, qs) (by simp [f72_n100100100_F]) rfl
      ⟨by simp; omega, by simp, .refl _ _ _, Put.start h4⟩ ?_
    rintro ⟨j, ps⟩ ⟨g1, g2, g3, g4⟩
    simp only at g1 g2 g3 g4
    have plen := g3.len
    simp only [f72_n100100100_F]
    rw [f72_n100100100_eq, wpA_seq, f72_n1001001000_eq, wpA_seq, f72_n10010010000_wp]
    by_cases c2 : a < j
    · have e1 : j < ps.length := by omega
      have e2 : j - 1 < ps.length := by omega
      simp only [show decide ((a : Int) < (j : Int)) = true from decide_eq_true (by omega), wsub1 j (by omega) (by omega), Int.toNat_natCast, zero_addN, T_at, tab_get _ _ e1, tab_get _ _ e2, brW_true, forall_const, true_and]
      simp only [tab_len, List.length_append, num_int]
      refine ⟨by omega, by omega, by omega, by omega, ?_⟩
      refine cmpo_any _ _ ⟨rfl, ?_⟩
      simp only [dlt, cond_true, seqK_normal]
      rw [f72_n10010010001_wp]
      by_cases c3 : cmpO (go ps j) (go ps (j - 1)) < 0
      · obtain ⟨k, rfl⟩ : ∃ k, j = k + 1 := ⟨j - 1, by omega⟩
        simp only [Nat.add_sub_cancel] at c3 e2 ⊢
        obtain ⟨p1, p2⟩ := Put.step g4 (by omega) (by omega) (by omega) ((cmpO_lt _ _).1 c3)
        rw [show decide (cmpO (go ps (k + 1)) (go ps k) < 0) = true from decide_eq_true c3, brW_true]
        simp only [seqK_normal]
        rw [f72_n1001001001_wp]
        simp only [wsub1 (k + 1) (by omega) (by omega), Nat.add_sub_cancel, Int.toNat_natCast, zero_addN, T_at, tab_get _ _ e1, tab_get _ _ e2, cellsAt_same, T_upd, upd_upd, swp_heap _ _ _ _ _ _ e1 e2, ocs_len, tab_wr _ _ _ e1]
        simp only [tab_len, List.length_append, List.length_set]
        refine ⟨by omega, by omega, by omega, by omega, by omega, trivial, by omega, by omega, trivial, by omega, ?_⟩
        rw [tab_wr _ _ _ (by simpa using e2)]
        exact ⟨(k, swp ps (k + 1) k), rfl, rfl, ⟨by omega, by omega, g3.trans p2, p1⟩, by omega⟩
      · rw [show decide (cmpO (go ps j) (go ps (j - 1)) < 0) = false from decide_eq_false c3, brW_false]
        simp only [seqK_exit, blockK_exit, if_true, blockK_normal, seqK_normal]
        rw [f72_n10011_wp, wadd1 i (by omega)]
        have hle : Le2 (go ps (j - 1)) (go ps j) := (le_or_lt _ _).resolve_right (fun h => c3 ((cmpO_lt _ _).2 h))
        exact ⟨(i + 1, ps), rfl, rfl, ⟨by omega, by omega, h3.trans (g3.widen (Nat.le_refl _) (by omega)), g4.stop (.inr hle)⟩, by omega⟩
    · simp only [show decide ((a : Int) < (j : Int)) = false from decide_eq_false (by omega), brW_false, cond_false, Bool.false_eq_true, false_implies, true_and, and_true]
      simp only [seqK_normal]
      rw [f72_n10010010001_wp, brW_false]
      simp only [seqK_exit, blockK_exit, if_true, blockK_normal, seqK_normal]
      rw [f72_n10011_wp, wadd1 i (by omega)]
      exact ⟨(i + 1, ps), rfl, rfl, ⟨by omega, by omega, h3.trans (g3.widen (Nat.le_refl _) (by omega)), g4.stop (.inl (by omega))⟩, by omega⟩
  · rw [show decide ((i : Int) < (b : Int)) = false from decide_eq_false (by omega), brW_false]
    simp only [seqK_exit, blockK_exit, if_true]
    rw [f72_end1]
    refine ⟨rfl, qs, rfl, h3, ?_⟩
    intro x y x1 x2 x3
    rcases h2 with h2 | h2
    · exact h4 x y x1 x2 (by omega)
    · omega
theorem ins_any (l c a b : Nat) (rs : List Odr) (rest : List V) (h : Heap) (hb : b ≤ rs.length) (hn : rs.length ≤ 1000000) (ha : a ≤ rs.length) {K : V → Heap → Prop}
    (m : ∀ rs', Mv rs rs' a b → Srt rs' a b → K (.tup []) (T l rs' rest h)) :
    AnyW Try.prog 72 [.sref 6 l 0 rs.length c, .int .i64 a, .int .i64 b, .fn (Fn.func 47) [] []] (T l rs rest h) K :=
  AnyW.of (by kernel_rfl) (ins_call l c a b rs rest h hb hn ha) (fun r h' e => by obtain ⟨rfl, rs', rfl, e1, e2⟩ := e; exact m rs' e1 e2)
end
