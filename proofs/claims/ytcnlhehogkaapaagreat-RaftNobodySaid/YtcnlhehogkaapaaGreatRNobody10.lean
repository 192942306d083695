/- Proved here: of RNobody10, that what the Go functions of this part compute is as their contracts say (texts Ne, Nc), for every input; no condition beyond those that each theorem states. -/
import Derived.Test.YtcnlhehogkaapaaGreatRNobody6
import Derived.Test.YtcnlhehogkaapaaGreatRNobody9
import Derived.Test.YtcnlhehogkaapaaGreatRNobody8
import Derived.Deep.DeepHandedRow
set_option linter.all false
section
/- RaftNobody's call. -/
namespace Go.Proofs.YtcnlhehogkaapaaGreat
open Go Jb Jx
set_option maxRecDepth 100000

/-- A message. -/
def msgV (E B V' : List (List V)) (k f t x y z w : Int) (ok : Bool) (c r : Int) : V :=
  .agg [.int .i64 k, .int .i64 f, .int .i64 t, .int .u64 x, .int .u64 y, .int .u64 z, .int .u64 w, .bool ok, .sl 3 E .no, .sl 1 B .no, .int .u64 c, .int .u64 r, .sl 12 V' .no]

theorem msg_rel {ρ : Locs} {e b v : Nat} {E B V' : List (List V)} (hE : ρ.sl e = some (E, .no)) (nE : ρ.num e = some (E.length : Int)) (hB : ρ.sl b = some (B, .no)) (nB : ρ.num b = some (B.length : Int)) (hV : ρ.sl v = some (V', .no)) (nV : ρ.num v = some (V'.length : Int))
    (k f t x y z w : Int) (ok : Bool) (c r : Int) : VR ρ (msgX e b v k f t x y z w ok c r) (msgV E B V' k f t x y z w ok c r) := by
  have hu : unk 1000000000000000000000000000000 = true := by kernel_rfl
  have : VL ρ [.int .i64 k, .int .i64 f, .int .i64 t, .int .u64 x, .int .u64 y, .int .u64 z, .int .u64 w, .bool ok, .iface 1000000000000000000000000000000 (.sref 3 e 0 0 0), .iface 1000000000000000000000000000000 (.sref 1 b 0 0 0),
      .int .u64 c, .int .u64 r, .iface 1000000000000000000000000000000 (.sref 12 v 0 0 0)] [.int .i64 k, .int .i64 f, .int .i64 t, .int .u64 x, .int .u64 y, .int .u64 z, .int .u64 w, .bool ok, .sl 3 E .no, .sl 1 B .no, .int .u64 c, .int .u64 r, .sl 12 V' .no] :=
    .cons (.int _ _) (.cons (.int _ _) (.cons (.int _ _) (.cons (.int _ _) (.cons (.int _ _) (.cons (.int _ _) (.cons (.int _ _) (.cons (.bool _) (.cons (.some_ _ _ _ _ _ _ _ _ hu hE nE) (.cons (.some_ _ _ _ _ _ _ _ _ hu hB nB) (.cons (.int _ _) (.cons (.int _ _) (.cons (.some_ _ _ _ _ _ _ _ _ hu hV nV) .nil))))))))))))
  exact .agg _ _ this.1 this.2

theorem raft_call0 (E B V' : List (List V)) (h0 : 41 ≤ E.length) (k f t x y z w : Int) (ok : Bool) (c r i : Int) (h : Heap) :
    CallW Tryz.prog 14 [msgV E B V' k f t x y z w ok c r, .int .u64 i] h fun u _ => u = .bool true := by
  have l0 : lo ((2090694862362245919568558436130915165929471 : Nat) : Int) = 41 := by kernel_rfl
  have u0 : hi ((2090694862362245919568558436130915165929471 : Nat) : Int) = none := by kernel_rfl
  have l1 : lo ((3484491437270409865866136571722023896612863 : Nat) : Int) = 0 := by kernel_rfl
  have u1 : hi ((3484491437270409865866136571722023896612863 : Nat) : Int) = none := by kernel_rfl
  have l2 : lo ((4878288012178573812212118963762546490736639 : Nat) : Int) = 0 := by kernel_rfl
  have u2 : hi ((4878288012178573812212118963762546490736639 : Nat) : Int) = none := by kernel_rfl
  let ρ := mkL [(2090694862362245919568558436130915165929471, E), (3484491437270409865866136571722023896612863, B), (4878288012178573812212118963762546490736639, V')] (by
    intro p hp
    simp only [List.mem_cons, List.not_mem_nil, or_false] at hp
    rcases hp with rfl | rfl | rfl
    · refine ⟨by rw [l0]; (try dsimp only); omega, fun x hx => ?_⟩
      rw [u0] at hx
      cases hx <;> ((try dsimp only); omega)
    · refine ⟨by rw [l1]; (try dsimp only); omega, fun x hx => ?_⟩
      rw [u1] at hx
      cases hx <;> ((try dsimp only); omega)
    · refine ⟨by rw [l2]; (try dsimp only); omega, fun x hx => ?_⟩
      rw [u2] at hx
      cases hx <;> ((try dsimp only); omega))
  exact runs (ρ := ρ) (raft0 k f t x y z w ok c r i) (fun _ => rfl) (.cons (msg_rel (by kernel_rfl) (by kernel_rfl) (by kernel_rfl) (by kernel_rfl) (by kernel_rfl) (by kernel_rfl) k f t x y z w ok c r) (.cons (.int _ _) .nil)) h

theorem raft_call1 (E B V' : List (List V)) (g0 : E.length ≤ 40) (h1 : 1001 ≤ B.length) (k f t x y z w : Int) (ok : Bool) (c r i : Int) (h : Heap) :
    CallW Tryz.prog 14 [msgV E B V' k f t x y z w ok c r, .int .u64 i] h fun u _ => u = .bool true := by
  have l0 : lo ((2090694862362245919519563883871142596837416 : Nat) : Int) = 0 := by kernel_rfl
  have u0 : hi ((2090694862362245919519563883871142596837416 : Nat) : Int) = some 40 := by kernel_rfl
  have l1 : lo ((3484491437270409867047908784060152611340287 : Nat) : Int) = 1001 := by kernel_rfl
  have u1 : hi ((3484491437270409867047908784060152611340287 : Nat) : Int) = none := by kernel_rfl
  have l2 : lo ((4878288012178573812212118963762546490736639 : Nat) : Int) = 0 := by kernel_rfl
  have u2 : hi ((4878288012178573812212118963762546490736639 : Nat) : Int) = none := by kernel_rfl
  let ρ := mkL [(2090694862362245919519563883871142596837416, E), (3484491437270409867047908784060152611340287, B), (4878288012178573812212118963762546490736639, V')] (by
    intro p hp
    simp only [List.mem_cons, List.not_mem_nil, or_false] at hp
    rcases hp with rfl | rfl | rfl
    · refine ⟨by rw [l0]; (try dsimp only); omega, fun x hx => ?_⟩
      rw [u0] at hx
      cases hx <;> ((try dsimp only); omega)
    · refine ⟨by rw [l1]; (try dsimp only); omega, fun x hx => ?_⟩
      rw [u1] at hx
      cases hx <;> ((try dsimp only); omega)
    · refine ⟨by rw [l2]; (try dsimp only); omega, fun x hx => ?_⟩
      rw [u2] at hx
      cases hx <;> ((try dsimp only); omega))
  exact runs (ρ := ρ) (raft1 k f t x y z w ok c r i) (fun _ => rfl) (.cons (msg_rel (by kernel_rfl) (by kernel_rfl) (by kernel_rfl) (by kernel_rfl) (by kernel_rfl) (by kernel_rfl) k f t x y z w ok c r) (.cons (.int _ _) .nil)) h

theorem raft_call2 (E B V' : List (List V)) (g0 : E.length ≤ 40) (g1 : B.length ≤ 1000) (h2 : 21 ≤ V'.length) (k f t x y z w : Int) (ok : Bool) (c r i : Int) (h : Heap) :
    CallW Tryz.prog 14 [msgV E B V' k f t x y z w ok c r, .int .u64 i] h fun u _ => u = .bool true := by
  have l0 : lo ((2090694862362245919519563883871142596837416 : Nat) : Int) = 0 := by kernel_rfl
  have u0 : hi ((2090694862362245919519563883871142596837416 : Nat) : Int) = some 40 := by kernel_rfl
  have l1 : lo ((3484491437270409865865546275911665190962152 : Nat) : Int) = 0 := by kernel_rfl
  have u1 : hi ((3484491437270409865865546275911665190962152 : Nat) : Int) = some 1000 := by kernel_rfl
  have l2 : lo ((4878288012178573812236911387797612128108543 : Nat) : Int) = 21 := by kernel_rfl
  have u2 : hi ((4878288012178573812236911387797612128108543 : Nat) : Int) = none := by kernel_rfl
  let ρ := mkL [(2090694862362245919519563883871142596837416, E), (3484491437270409865865546275911665190962152, B), (4878288012178573812236911387797612128108543, V')] (by
    intro p hp
    simp only [List.mem_cons, List.not_mem_nil, or_false] at hp
    rcases hp with rfl | rfl | rfl
    · refine ⟨by rw [l0]; (try dsimp only); omega, fun x hx => ?_⟩
      rw [u0] at hx
      cases hx <;> ((try dsimp only); omega)
    · refine ⟨by rw [l1]; (try dsimp only); omega, fun x hx => ?_⟩
      rw [u1] at hx
      cases hx <;> ((try dsimp only); omega)
    · refine ⟨by rw [l2]; (try dsimp only); omega, fun x hx => ?_⟩
      rw [u2] at hx
      cases hx <;> ((try dsimp only); omega))
  exact runs (ρ := ρ) (raft2 k f t x y z w ok c r i) (fun _ => rfl) (.cons (msg_rel (by kernel_rfl) (by kernel_rfl) (by kernel_rfl) (by kernel_rfl) (by kernel_rfl) (by kernel_rfl) k f t x y z w ok c r) (.cons (.int _ _) .nil)) h

theorem raft_call3 (E B V' : List (List V)) (g0 : E.length ≤ 40) (g1 : B.length ≤ 1000) (g2 : V'.length ≤ 20) (k f t x y z w : Int) (ok : Bool) (c r i : Int) (h : Heap) :
    CallW Tryz.prog 14 [msgV E B V' k f t x y z w ok c r, .int .u64 i] h fun u _ => u = .bool true := by
  have l0 : lo ((2090694862362245919519563883871142596837416 : Nat) : Int) = 0 := by kernel_rfl
  have u0 : hi ((2090694862362245919519563883871142596837416 : Nat) : Int) = some 40 := by kernel_rfl
  have l1 : lo ((3484491437270409865865546275911665190962152 : Nat) : Int) = 0 := by kernel_rfl
  have u1 : hi ((3484491437270409865865546275911665190962152 : Nat) : Int) = some 1000 := by kernel_rfl
  have l2 : lo ((4878288012178573812211528667952187785084948 : Nat) : Int) = 0 := by kernel_rfl
  have u2 : hi ((4878288012178573812211528667952187785084948 : Nat) : Int) = some 20 := by kernel_rfl
  let ρ := mkL [(2090694862362245919519563883871142596837416, E), (3484491437270409865865546275911665190962152, B), (4878288012178573812211528667952187785084948, V')] (by
    intro p hp
    simp only [List.mem_cons, List.not_mem_nil, or_false] at hp
    rcases hp with rfl | rfl | rfl
    · refine ⟨by rw [l0]; (try dsimp only); omega, fun x hx => ?_⟩
      rw [u0] at hx
      cases hx <;> ((try dsimp only); omega)
    · refine ⟨by rw [l1]; (try dsimp only); omega, fun x hx => ?_⟩
      rw [u1] at hx
      cases hx <;> ((try dsimp only); omega)
    · refine ⟨by rw [l2]; (try dsimp only); omega, fun x hx => ?_⟩
      rw [u2] at hx
      cases hx <;> ((try dsimp only); omega))
  exact runs (ρ := ρ) (raft3 k f t x y z w ok c r i) (fun _ => rfl) (.cons (msg_rel (by kernel_rfl) (by kernel_rfl) (by kernel_rfl) (by kernel_rfl) (by kernel_rfl) (by kernel_rfl) k f t x y z w ok c r) (.cons (.int _ _) .nil)) h

theorem raft_call (E B V' : List (List V)) (k f t x y z w : Int) (ok : Bool) (c r i : Int) (h : Heap) :
    CallW Tryz.prog 14 [msgV E B V' k f t x y z w ok c r, .int .u64 i] h fun u _ => u = .bool true := by
  by_cases hE : 41 ≤ E.length
  · exact raft_call0 E B V' hE k f t x y z w ok c r i h
  by_cases hB : 1001 ≤ B.length
  · exact raft_call1 E B V' (by omega) hB k f t x y z w ok c r i h
  by_cases hV : 21 ≤ V'.length
  · exact raft_call2 E B V' (by omega) (by omega) hV k f t x y z w ok c r i h
  · exact raft_call3 E B V' (by omega) (by omega) (by omega) k f t x y z w ok c r i h
end Go.Proofs.YtcnlhehogkaapaaGreat
end

section
/- What holds of the program as a whole. -/
namespace Go.Proofs.YtcnlhehogkaapaaGreat
open Go Go.ChangeShapes Go.WideShapes Go.ChangeAt Go.RowKit Jb
set_option maxRecDepth 100000
theorem own : ownKnob Tryz.prog.godebug = none := by kernel_rfl
theorem laid : laidOutB Tryz.prog = true := by kernel_rfl
theorem rowed : mapsRowed Tryz.prog = true := by kernel_rfl
end Go.Proofs.YtcnlhehogkaapaaGreat
end
