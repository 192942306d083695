/- Proved here: of JO10, that what the Go functions of this part compute is as their contracts say (texts Jq, Jr, Ka, Kb, Kc, Kd, Ke, Ki, Kf, Kg, Kh, Kj, Kk, Kl, Km), for every input; no condition beyond those that each theorem states. -/
import Derived.Test.YtoimhhmlkbdodaaGreatJO9
import Derived.Test.YtoimhhmlkbdodaaGreatJO7
import Derived.Test.YtoimhhmlkbdodaaGreatJO8
set_option linter.all false
section
/- bytes.Clone of nothing; the example. -/
namespace J
open Go Go.Proofs Jb Jx
set_option maxRecDepth 100000

def cloneHook : Hook := fun f args h nx =>
  match Nat.beq f 61, args with
  | true, [.sl 1 [] .full] => some (.sl 1 [] .full, h, nx)
  | true, [.sl 1 [] .no] => some (.sl 1 [] .full, h, nx)
  | _, _ => none

def cf0 : Cfg := { esc := [], wipes := [] }
theorem clone_wp (g : G) (h : Heap) (K : V → Heap → Prop) : bodyW Tryz.prog cf0 (Tryz.prog.funcs.getD 61 default) [.sl 1 [] g] h K =
    (∀ b : Bool, (([] : List (List V)) ≠ [] → b = false) → brW b (K (.sl 1 [] .full) h) (True ∧ 0 + 0 ≤ mostLen ∧ K (.sl 1 [] .full) h)) := by kernel_rfl
theorem getDc : Tryz.prog.funcs.getD 61 default = Tryz.f61 := by kernel_rfl

theorem clone_call (g : G) (h : Heap) : CallW Tryz.prog 61 [.sl 1 [] g] h fun u h' => u = .sl 1 [] .full ∧ h' = h := by
  refine CallW.body mix cf0 Tryz.func61 (Nat.le_of_ble_eq_true (by kernel_rfl)) ?_
  rw [← getDc, clone_wp]
  intro b _
  cases b
  · exact ⟨trivial, by decide, rfl, rfl⟩
  · exact ⟨rfl, rfl⟩

theorem hook_ok : HookOk Tryz.prog cloneHook := by
  intro f args H nx v H' nx' hr
  have main : f = 61 → ∀ g, args = [.sl 1 [] g] → v = .sl 1 [] .full → H' = H → nx' = nx → enters Tryz.prog f = true ∧ ∀ ρ args' h, VL ρ args args' → HX ρ H nx h →
      CallW Tryz.prog f args' h fun u h' => ∃ ρ', Sub ρ ρ' ∧ VR ρ' v u ∧ HX ρ' H' nx' h' := by
    rintro rfl g rfl rfl rfl rfl
    refine ⟨by kernel_rfl, fun ρ args' h ha X => ?_⟩
    have : args' = [.sl 1 [] g] := by
      cases args' with
      | nil => have := ha.1; simp at this
      | cons u r =>
        obtain ⟨h1, h2⟩ := ha.tail
        have hr : r = [] := List.length_eq_zero_iff.1 (by simpa using h2.1)
        obtain ⟨l', rfl, hl, _⟩ := h1.sl_inv
        have hl' : l' = [] := List.length_eq_zero_iff.1 (by simpa using hl.1)
        rw [hr, hl']
    rw [this]
    refine (clone_call g h).mono ?_
    rintro u h' ⟨rfl, rfl⟩
    exact ⟨ρ, Sub.refl _, .ofVLL (by simp) .nil, X⟩
  unfold cloneHook at hr
  split at hr
  · rename_i e; cases hr; have m := main (Nat.eq_of_beq_eq_true e) _ rfl rfl rfl rfl; exact fun ρ a h hv X => AnyW.call m.1 (m.2 ρ a h hv X)
  · rename_i e; cases hr; have m := main (Nat.eq_of_beq_eq_true e) _ rfl rfl rfl rfl; exact fun ρ a h hv X => AnyW.call m.1 (m.2 ρ a h hv X)
  · cases hr

def told : Option (V × T Xb × Nat) → Option V | some r => some r.1 | none => none

def noL : Locs := ⟨fun _ => none, fun _ => none, fun _ => none, fun _ _ e => by cases e⟩

theorem runs {f : FuncId} (he : enters Tryz.prog f = true) {args : List V} {b : Bool} {fuel d : Nat} (hr : told ((callX Tryz.prog cloneHook fuel d).call f args .nil 1) = some (.bool b)) {ρ : Locs} (h0 : ∀ k, ρ k = none) {args' : List V} (ha : VL ρ args args') (h : Heap) :
    CallW Tryz.prog f args' h fun u _ => u = .bool b := by
  cases e : (callX Tryz.prog cloneHook fuel d).call f args .nil 1 with
  | none => rw [e] at hr; cases hr
  | some r =>
    obtain ⟨v, H, nx⟩ := r
    rw [e] at hr
    simp only [told, Option.some.injEq] at hr
    subst hr
    refine (closed mix hook_ok he e h0 ha h).mono ?_
    rintro u h' ⟨ρ', _, hv⟩
    cases hv
    rfl
theorem lives_run : told ((callX Tryz.prog cloneHook 100000 60).call 11 [] .nil 1) = some (.bool true) := by kernel_rfl
theorem lives_c (h : Heap) : CallW Tryz.prog 11 [] h fun u _ => u = .bool true := runs (ρ := noL) (by kernel_rfl) lives_run (fun _ => rfl) .nil h
end J
end

section
/- JournalScans: what the law's function tells. -/
namespace J
open Go Go.Proofs Jb Js
set_option maxRecDepth 100000
set_option maxHeartbeats 4000000
theorem c3 {args : List V} {h : Heap} {K : V → Heap → Prop} (hn : Nat.ble args.length Tryz.f3.ntmps = true) (e : Nx (bodyS Tryz.prog ⟨[], [], false⟩ Tryz.f3 args h K)) : CallW Tryz.prog 3 args h K := CallW.go mix _ Tryz.func3 (Nat.le_of_ble_eq_true hn) rfl e
theorem n3 : enters Tryz.prog 3 = true := by kernel_rfl
theorem i3 {args : List V} {h : Heap} {K : V → Heap → Prop} (hn : Nat.ble args.length Tryz.f3.ntmps = true) (e : Nx (bodyS Tryz.prog ⟨[], [], false⟩ Tryz.f3 args h K)) : CallS Tryz.prog 3 args h K := ⟨AnyW.call n3 (c3 hn e)⟩
theorem lightF_yes {fs : List (List UInt8)} (h : lightF fs = true) : fs.length ≤ 10 ∧ ∀ b ∈ fs, b.length ≤ 3000 := by
  unfold lightF at h
  rw [Bool.and_eq_true] at h
  exact ⟨of_decide_eq_true h.2, fun b hb => of_decide_eq_true (List.all_eq_true.1 h.1 b hb)⟩
theorem n11 : enters Tryz.prog 11 = true := by kernel_rfl
end J
end

section
/- Disks. -/
namespace J
open Go Go.Proofs Jb Js
set_option maxRecDepth 100000
set_option maxHeartbeats 4000000
structure FG where
  b : List UInt8
  s : Nat
  g : G
structure Arm where
  on : Bool
  fuse : Nat
  down : Bool
  calls : Nat
def frows : List FG → List V
  | [] => []
  | x :: r => .sl 1 (bs x.b) x.g :: .int .i64 x.s :: frows r
def arms (a : Arm) : List V := [.bool a.on, .int .i64 a.fuse, .bool a.down, .int .i64 a.calls]
def dkc (F : List FG) (a : Arm) : List V := frows F ++ arms a
def fg (F : List FG) (i : Nat) : FG := F.getD i ⟨[], 0, .full⟩
theorem frows_len : ∀ F, (frows F).length = 2 * F.length
  | [] => rfl
  | x :: r => by simp only [frows, List.length_cons, frows_len r]; omega
theorem frows_b : ∀ {F : List FG} {i : Nat}, i < F.length → (frows F)[i * 2]? = some (.sl 1 (bs (fg F i).b) (fg F i).g)
  | x :: r, 0, _ => rfl
  | x :: r, i + 1, h => by
    have := frows_b (F := r) (i := i) (by simpa using h)
    rw [show (i + 1) * 2 = i * 2 + 1 + 1 from by omega]
    simpa [frows, fg] using this
theorem frows_s : ∀ {F : List FG} {i : Nat}, i < F.length → (frows F)[i * 2 + 1]? = some (.int .i64 (fg F i).s)
  | x :: r, 0, _ => rfl
  | x :: r, i + 1, h => by
    have := frows_s (F := r) (i := i) (by simpa using h)
    rw [show (i + 1) * 2 + 1 = i * 2 + 1 + 1 + 1 from by omega]
    simpa [frows, fg] using this
theorem frows_setb : ∀ {F : List FG} {i : Nat} (b : List UInt8) (g : G), i < F.length → (frows F).set (i * 2) (.sl 1 (bs b) g) = frows (F.set i ⟨b, (fg F i).s, g⟩)
  | x :: r, 0, _, _, _ => rfl
  | x :: r, i + 1, b, g, h => by
    have := frows_setb (F := r) (i := i) b g (by simpa using h)
    rw [show (i + 1) * 2 = i * 2 + 1 + 1 from by omega]
    simpa [frows, fg] using this
theorem frows_sets : ∀ {F : List FG} {i : Nat} (s : Nat), i < F.length → (frows F).set (i * 2 + 1) (.int .i64 (s : Int)) = frows (F.set i ⟨(fg F i).b, s, (fg F i).g⟩)
  | x :: r, 0, _, _ => rfl
  | x :: r, i + 1, s, h => by
    have := frows_sets (F := r) (i := i) s (by simpa using h)
    rw [show (i + 1) * 2 + 1 = i * 2 + 1 + 1 + 1 from by omega]
    simpa [frows, fg] using this
theorem dk_b {F : List FG} {a : Arm} {i : Nat} (h : i < F.length) : (dkc F a)[i * 2 + 0]? = some (.sl 1 (bs (fg F i).b) (fg F i).g) := by
  rw [Nat.add_zero]; unfold dkc; rw [List.getElem?_append_left (by rw [frows_len]; omega)]; exact frows_b h
theorem dk_s {F : List FG} {a : Arm} {i : Nat} (h : i < F.length) : (dkc F a)[i * 2 + 1]? = some (.int .i64 (fg F i).s) := by
  unfold dkc; rw [List.getElem?_append_left (by rw [frows_len]; omega)]; exact frows_s h
theorem dk_arm {F : List FG} {a : Arm} {k : Nat} (h : F.length = 32) : (dkc F a)[64 + k]? = (arms a)[k]? := by
  unfold dkc; rw [List.getElem?_append_right (by rw [frows_len]; omega), frows_len, h]; congr 1; omega
theorem dk_on {F : List FG} {a : Arm} (h : F.length = 32) : (dkc F a)[64]? = some (.bool a.on) := dk_arm (k := 0) h
theorem dk_fuse {F : List FG} {a : Arm} (h : F.length = 32) : (dkc F a)[65]? = some (.int .i64 a.fuse) := dk_arm (k := 1) h
theorem dk_down {F : List FG} {a : Arm} (h : F.length = 32) : (dkc F a)[66]? = some (.bool a.down) := dk_arm (k := 2) h
theorem dk_calls {F : List FG} {a : Arm} (h : F.length = 32) : (dkc F a)[67]? = some (.int .i64 a.calls) := dk_arm (k := 3) h
theorem dk_len {F : List FG} {a : Arm} (h : F.length = 32) : (dkc F a).length = 68 := by simp [dkc, frows_len, h, arms]
theorem dk_set {F : List FG} {a a' : Arm} {k : Nat} {v : V} (h : F.length = 32) (e : (arms a).set k v = arms a') (hk : k < 4) : wrCells (dkc F a) (64 + k) [v] = dkc F a' := by
  rw [wr_set (by rw [dk_len h]; omega)]
  unfold dkc
  rw [List.set_append_right _ _ (by rw [frows_len]; omega), frows_len, h, ← e]
  congr 2; omega
theorem dk_setb {F : List FG} {a : Arm} {i : Nat} (b : List UInt8) (g : G) (h : i < F.length) : wrCells (dkc F a) (i * 2 + 0) [.sl 1 (bs b) g] = dkc (F.set i ⟨b, (fg F i).s, g⟩) a := by
  rw [Nat.add_zero, wr_set (by unfold dkc; rw [List.length_append, frows_len]; omega)]
  unfold dkc
  rw [List.set_append_left _ _ (by rw [frows_len]; omega), frows_setb b g h]
theorem dk_sets {F : List FG} {a : Arm} {i : Nat} (s : Nat) (h : i < F.length) : wrCells (dkc F a) (i * 2 + 1) [.int .i64 (s : Int)] = dkc (F.set i ⟨(fg F i).b, s, (fg F i).g⟩) a := by
  rw [wr_set (by unfold dkc; rw [List.length_append, frows_len]; omega)]
  unfold dkc
  rw [List.set_append_left _ _ (by rw [frows_len]; omega), frows_sets s h]
theorem fg_set {F : List FG} {i j : Nat} {x : FG} (h : i < F.length) : fg (F.set i x) j = if j = i then x else fg F j := by
  unfold fg
  by_cases e : j = i
  · subst e; simp [h]
  · rw [if_neg e]; simp [List.getElem?_set, Ne.symm e]
structure Dk (h : Heap) (d : Nat) (F : List FG) (a : Arm) : Prop where
  at' : h d = some (.cells (dkc F a))
  len : F.length = 32
  slot : ∀ i s, (fg F i).g = .own s → h s = some (.grow 1 (fg F i).b.length)
  yes : ∀ i, (fg F i).g ≠ .no
  one : ∀ i k s, (fg F i).g = .own s → (fg F k).g = .own s → i = k
  few : ∀ i, (fg F i).b.length ≤ 1048576
  syn : ∀ i, (fg F i).s ≤ (fg F i).b.length
  cnt : a.calls < 1000000000000 ∧ a.fuse < 1000000000000
structure Dp (d : Nat) (h : Heap) (F : List FG) (h2 : Heap) (F2 : List FG) : Prop where
  keep : ∀ x o, x ≠ d → (∀ i, (fg F i).g ≠ .own x) → h x = some o → h2 x = some o
  slot : ∀ i s, (fg F2 i).g = .own s → (fg F i).g = .own s ∨ h s = none
def blowA (a : Arm) : Bool × Arm := if a.on then (a.fuse == 0, ⟨a.on, a.fuse - 1, a.fuse == 0, a.calls + 1⟩) else (false, ⟨a.on, a.fuse, a.down, a.calls + 1⟩)
theorem c60 {args : List V} {h : Heap} {K : V → Heap → Prop} (hn : Nat.ble args.length Tryz.f60.ntmps = true) (e : Nx (bodyS Tryz.prog ⟨[], [], false⟩ Tryz.f60 args h K)) : CallW Tryz.prog 60 args h K := CallW.go mix _ Tryz.func60 (Nat.le_of_ble_eq_true hn) rfl e
theorem n60 : enters Tryz.prog 60 = true := by kernel_rfl
theorem c113 {args : List V} {h : Heap} {K : V → Heap → Prop} (hn : Nat.ble args.length Tryz.f113.ntmps = true) (e : Nx (bodyS Tryz.prog ⟨[], [], false⟩ Tryz.f113 args h K)) : CallW Tryz.prog 113 args h K := CallW.go mix _ Tryz.func113 (Nat.le_of_ble_eq_true hn) rfl e
theorem n113 : enters Tryz.prog 113 = true := by kernel_rfl
theorem c51 {args : List V} {h : Heap} {K : V → Heap → Prop} (hn : Nat.ble args.length Tryz.f51.ntmps = true) (e : Nx (bodyS Tryz.prog ⟨[], [], false⟩ Tryz.f51 args h K)) : CallW Tryz.prog 51 args h K := CallW.go mix _ Tryz.func51 (Nat.le_of_ble_eq_true hn) rfl e
theorem n51 : enters Tryz.prog 51 = true := by kernel_rfl
theorem i51 {args : List V} {h : Heap} {K : V → Heap → Prop} (hn : Nat.ble args.length Tryz.f51.ntmps = true) (e : Nx (bodyS Tryz.prog ⟨[], [], false⟩ Tryz.f51 args h K)) : CallS Tryz.prog 51 args h K := ⟨AnyW.call n51 (c51 hn e)⟩
theorem c161 {args : List V} {h : Heap} {K : V → Heap → Prop} (hn : Nat.ble args.length Tryz.f161.ntmps = true) (e : Nx (bodyS Tryz.prog ⟨[], [], false⟩ Tryz.f161 args h K)) : CallW Tryz.prog 161 args h K := CallW.go mix _ Tryz.func161 (Nat.le_of_ble_eq_true hn) rfl e
theorem n161 : enters Tryz.prog 161 = true := by kernel_rfl
theorem i161 {args : List V} {h : Heap} {K : V → Heap → Prop} (hn : Nat.ble args.length Tryz.f161.ntmps = true) (e : Nx (bodyS Tryz.prog ⟨[], [], false⟩ Tryz.f161 args h K)) : CallS Tryz.prog 161 args h K := ⟨AnyW.call n161 (c161 hn e)⟩
theorem c17 {args : List V} {h : Heap} {K : V → Heap → Prop} (hn : Nat.ble args.length Tryz.f17.ntmps = true) (e : Nx (bodyS Tryz.prog ⟨[3, 5, 7], [], false⟩ Tryz.f17 args h K)) : CallW Tryz.prog 17 args h K := CallW.go mix _ Tryz.func17 (Nat.le_of_ble_eq_true hn) rfl e
theorem n17 : enters Tryz.prog 17 = true := by kernel_rfl
theorem c50 {args : List V} {h : Heap} {K : V → Heap → Prop} (hn : Nat.ble args.length Tryz.f50.ntmps = true) (e : Nx (bodyS Tryz.prog ⟨[], [], false⟩ Tryz.f50 args h K)) : CallW Tryz.prog 50 args h K := CallW.go mix _ Tryz.func50 (Nat.le_of_ble_eq_true hn) rfl e
theorem n50 : enters Tryz.prog 50 = true := by kernel_rfl
theorem i50 {args : List V} {h : Heap} {K : V → Heap → Prop} (hn : Nat.ble args.length Tryz.f50.ntmps = true) (e : Nx (bodyS Tryz.prog ⟨[], [], false⟩ Tryz.f50 args h K)) : CallS Tryz.prog 50 args h K := ⟨AnyW.call n50 (c50 hn e)⟩
theorem c52 {args : List V} {h : Heap} {K : V → Heap → Prop} (hn : Nat.ble args.length Tryz.f52.ntmps = true) (e : Nx (bodyS Tryz.prog ⟨[], [], false⟩ Tryz.f52 args h K)) : CallW Tryz.prog 52 args h K := CallW.go mix _ Tryz.func52 (Nat.le_of_ble_eq_true hn) rfl e
theorem n52 : enters Tryz.prog 52 = true := by kernel_rfl
theorem i52 {args : List V} {h : Heap} {K : V → Heap → Prop} (hn : Nat.ble args.length Tryz.f52.ntmps = true) (e : Nx (bodyS Tryz.prog ⟨[], [], false⟩ Tryz.f52 args h K)) : CallS Tryz.prog 52 args h K := ⟨AnyW.call n52 (c52 hn e)⟩
theorem c120 {args : List V} {h : Heap} {K : V → Heap → Prop} (hn : Nat.ble args.length Tryz.f120.ntmps = true) (e : Nx (bodyS Tryz.prog ⟨[], [], false⟩ Tryz.f120 args h K)) : CallW Tryz.prog 120 args h K := CallW.go mix _ Tryz.func120 (Nat.le_of_ble_eq_true hn) rfl e
theorem n120 : enters Tryz.prog 120 = true := by kernel_rfl
theorem c166 {args : List V} {h : Heap} {K : V → Heap → Prop} (hn : Nat.ble args.length Tryz.f166.ntmps = true) (e : Nx (bodyS Tryz.prog ⟨[], [], false⟩ Tryz.f166 args h K)) : CallW Tryz.prog 166 args h K := CallW.go mix _ Tryz.func166 (Nat.le_of_ble_eq_true hn) rfl e
theorem n166 : enters Tryz.prog 166 = true := by kernel_rfl
theorem i166 {args : List V} {h : Heap} {K : V → Heap → Prop} (hn : Nat.ble args.length Tryz.f166.ntmps = true) (e : Nx (bodyS Tryz.prog ⟨[], [], false⟩ Tryz.f166 args h K)) : CallS Tryz.prog 166 args h K := ⟨AnyW.call n166 (c166 hn e)⟩
theorem c119 {args : List V} {h : Heap} {K : V → Heap → Prop} (hn : Nat.ble args.length Tryz.f119.ntmps = true) (e : Nx (bodyS Tryz.prog ⟨[5], [], false⟩ Tryz.f119 args h K)) : CallW Tryz.prog 119 args h K := CallW.go mix _ Tryz.func119 (Nat.le_of_ble_eq_true hn) rfl e
theorem n119 : enters Tryz.prog 119 = true := by kernel_rfl
theorem c164 {args : List V} {h : Heap} {K : V → Heap → Prop} (hn : Nat.ble args.length Tryz.f164.ntmps = true) (e : Nx (bodyS Tryz.prog ⟨[], [], false⟩ Tryz.f164 args h K)) : CallW Tryz.prog 164 args h K := CallW.go mix _ Tryz.func164 (Nat.le_of_ble_eq_true hn) rfl e
theorem n164 : enters Tryz.prog 164 = true := by kernel_rfl
theorem i164 {args : List V} {h : Heap} {K : V → Heap → Prop} (hn : Nat.ble args.length Tryz.f164.ntmps = true) (e : Nx (bodyS Tryz.prog ⟨[], [], false⟩ Tryz.f164 args h K)) : CallS Tryz.prog 164 args h K := ⟨AnyW.call n164 (c164 hn e)⟩
theorem c165 {args : List V} {h : Heap} {K : V → Heap → Prop} (hn : Nat.ble args.length Tryz.f165.ntmps = true) (e : Nx (bodyS Tryz.prog ⟨[], [], false⟩ Tryz.f165 args h K)) : CallW Tryz.prog 165 args h K := CallW.go mix _ Tryz.func165 (Nat.le_of_ble_eq_true hn) rfl e
theorem n165 : enters Tryz.prog 165 = true := by kernel_rfl
theorem i165 {args : List V} {h : Heap} {K : V → Heap → Prop} (hn : Nat.ble args.length Tryz.f165.ntmps = true) (e : Nx (bodyS Tryz.prog ⟨[], [], false⟩ Tryz.f165 args h K)) : CallS Tryz.prog 165 args h K := ⟨AnyW.call n165 (c165 hn e)⟩
theorem c117 {args : List V} {h : Heap} {K : V → Heap → Prop} (hn : Nat.ble args.length Tryz.f117.ntmps = true) (e : Nx (bodyS Tryz.prog ⟨[], [], false⟩ Tryz.f117 args h K)) : CallW Tryz.prog 117 args h K := CallW.go mix _ Tryz.func117 (Nat.le_of_ble_eq_true hn) rfl e
theorem n117 : enters Tryz.prog 117 = true := by kernel_rfl
theorem c162 {args : List V} {h : Heap} {K : V → Heap → Prop} (hn : Nat.ble args.length Tryz.f162.ntmps = true) (e : Nx (bodyS Tryz.prog ⟨[], [], false⟩ Tryz.f162 args h K)) : CallW Tryz.prog 162 args h K := CallW.go mix _ Tryz.func162 (Nat.le_of_ble_eq_true hn) rfl e
theorem n162 : enters Tryz.prog 162 = true := by kernel_rfl
theorem i162 {args : List V} {h : Heap} {K : V → Heap → Prop} (hn : Nat.ble args.length Tryz.f162.ntmps = true) (e : Nx (bodyS Tryz.prog ⟨[], [], false⟩ Tryz.f162 args h K)) : CallS Tryz.prog 162 args h K := ⟨AnyW.call n162 (c162 hn e)⟩
theorem c53 {args : List V} {h : Heap} {K : V → Heap → Prop} (hn : Nat.ble args.length Tryz.f53.ntmps = true) (e : Nx (bodyS Tryz.prog ⟨[], [], false⟩ Tryz.f53 args h K)) : CallW Tryz.prog 53 args h K := CallW.go mix _ Tryz.func53 (Nat.le_of_ble_eq_true hn) rfl e
theorem n53 : enters Tryz.prog 53 = true := by kernel_rfl
theorem c22 {args : List V} {h : Heap} {K : V → Heap → Prop} (hn : Nat.ble args.length Tryz.f22.ntmps = true) (e : Nx (bodyS Tryz.prog ⟨[], [], false⟩ Tryz.f22 args h K)) : CallW Tryz.prog 22 args h K := CallW.go mix _ Tryz.func22 (Nat.le_of_ble_eq_true hn) rfl e
theorem n22 : enters Tryz.prog 22 = true := by kernel_rfl
theorem c21 {args : List V} {h : Heap} {K : V → Heap → Prop} (hn : Nat.ble args.length Tryz.f21.ntmps = true) (e : Nx (bodyS Tryz.prog ⟨[], [], false⟩ Tryz.f21 args h K)) : CallW Tryz.prog 21 args h K := CallW.go mix _ Tryz.func21 (Nat.le_of_ble_eq_true hn) rfl e
theorem n21 : enters Tryz.prog 21 = true := by kernel_rfl
theorem c28 {args : List V} {h : Heap} {K : V → Heap → Prop} (hn : Nat.ble args.length Tryz.f28.ntmps = true) (e : Nx (bodyS Tryz.prog ⟨[], [], false⟩ Tryz.f28 args h K)) : CallW Tryz.prog 28 args h K := CallW.go mix _ Tryz.func28 (Nat.le_of_ble_eq_true hn) rfl e
theorem n28 : enters Tryz.prog 28 = true := by kernel_rfl
theorem c16 {args : List V} {h : Heap} {K : V → Heap → Prop} (hn : Nat.ble args.length Tryz.f16.ntmps = true) (e : Nx (bodyS Tryz.prog ⟨[2], [], false⟩ Tryz.f16 args h K)) : CallW Tryz.prog 16 args h K := CallW.go mix _ Tryz.func16 (Nat.le_of_ble_eq_true hn) rfl e
theorem n16 : enters Tryz.prog 16 = true := by kernel_rfl
theorem i16 {args : List V} {h : Heap} {K : V → Heap → Prop} (hn : Nat.ble args.length Tryz.f16.ntmps = true) (e : Nx (bodyS Tryz.prog ⟨[2], [], false⟩ Tryz.f16 args h K)) : CallS Tryz.prog 16 args h K := ⟨AnyW.call n16 (c16 hn e)⟩
theorem wrk_calls {F : List FG} {a : Arm} {n : Nat} {k : List V → Prop} (h : F.length = 32) (r : Nx (k (dkc F ⟨a.on, a.fuse, a.down, n⟩))) : wrS (dkc F a) 67 [.int .i64 (n : Int)] k :=
  wrS_i (by rw [dk_len h]; simp) (dk_set (k := 3) (a' := ⟨a.on, a.fuse, a.down, n⟩) h rfl (by decide)) r
theorem wrk_fuse {F : List FG} {a : Arm} {n : Nat} {z : Int} {k : List V → Prop} (h : F.length = 32) (e : z = (n : Int)) (r : Nx (k (dkc F ⟨a.on, n, a.down, a.calls⟩))) : wrS (dkc F a) 65 [.int .i64 z] k := by
  subst e
  exact wrS_i (by rw [dk_len h]; simp) (dk_set (k := 1) (a' := ⟨a.on, n, a.down, a.calls⟩) h rfl (by decide)) r
theorem less1 {n : Nat} (h : n < 1000000000000) : (if IntKind.i64.wrap ((n : Int) - 1) < 0 then 0 else IntKind.i64.wrap ((n : Int) - 1)) = ((n - 1 : Nat) : Int) := by
  rw [wrap_i64 (by omega) (by omega)]; split <;> omega
theorem wrk_down {F : List FG} {a : Arm} {b : Bool} {k : List V → Prop} (h : F.length = 32) (r : Nx (k (dkc F ⟨a.on, a.fuse, b, a.calls⟩))) : wrS (dkc F a) 66 [.bool b] k :=
  wrS_i (by rw [dk_len h]; simp) (dk_set (k := 2) (a' := ⟨a.on, a.fuse, b, a.calls⟩) h rfl (by decide)) r
theorem wrk_b {F : List FG} {a : Arm} {i : Nat} {b : List UInt8} {g : G} {k : List V → Prop} (h : i < F.length) (r : Nx (k (dkc (F.set i ⟨b, (fg F i).s, g⟩) a))) : wrS (dkc F a) (i * 2 + 0) [.sl 1 (bs b) g] k :=
  wrS_i (by unfold dkc; rw [List.length_append, frows_len]; simp only [List.length_singleton]; omega) (dk_setb b g h) r
theorem wrk_s {F : List FG} {a : Arm} {i s : Nat} {k : List V → Prop} (h : i < F.length) (r : Nx (k (dkc (F.set i ⟨(fg F i).b, s, (fg F i).g⟩) a))) : wrS (dkc F a) (i * 2 + 1) [.int .i64 (s : Int)] k :=
  wrS_i (by unfold dkc; rw [List.length_append, frows_len]; simp only [List.length_singleton]; omega) (dk_sets s h) r
theorem at_g {d i : Nat} {h : Heap} (hi : i < 32) : Gives Tryz.prog 60 [.ptr d 0, .int .i64 i] h (.ptr d (i * 2)) h := by
  refine c60 rfl ?_
  repeat' (first | ((with_reducible apply Nx.mk); conv => whnf) | ((with_reducible apply At.i); (next => first | with_reducible rfl | fail); (next => first | omega | fail)) | ((with_reducible first | apply brS_i | apply spB_i) <;> intro c <;> (try exact absurd c (by decide)) <;> (try simp only [decide_eq_true_eq, decide_eq_false_iff_not, beq_iff_eq, bne_iff_ne, Bool.not_eq_true', Bool.not_eq_false', beq_eq_false_iff_ne, Bool.not_true, Bool.not_false, reduceCtorEq, ne_eq, bne_eq_false_iff_eq, Int.not_lt, Int.not_le, Decidable.not_not] at c) <;> (try (exfalso; omega))) | fail)
  exact Js.Fin.mk ⟨by rw [Nat.zero_add]; exact .rfl _, by (repeat (first | exact Heap.sub_rfl _ | fail))⟩
theorem down_g {d : Nat} {h : Heap} {F : List FG} {a : Arm} (D : Dk h d F a) : Gives Tryz.prog 28 [.ptr d 0] h (.bool a.down) h := by
  have d1 := D.at'
  refine c28 rfl ?_
  repeat' (first | ((with_reducible apply Nx.mk); conv => whnf) | ((with_reducible apply RdC.i); (next => ((repeat (first | with_reducible assumption | fail)); (first | done | fail))); (next => first | exact dk_down D.len | fail)) | ((with_reducible first | apply brS_i | apply spB_i) <;> intro c <;> (try exact absurd c (by decide)) <;> (try simp only [decide_eq_true_eq, decide_eq_false_iff_not, beq_iff_eq, bne_iff_ne, Bool.not_eq_true', Bool.not_eq_false', beq_eq_false_iff_ne, Bool.not_true, Bool.not_false, reduceCtorEq, ne_eq, bne_eq_false_iff_eq, Int.not_lt, Int.not_le, Decidable.not_not] at c) <;> (try (exfalso; omega))) | fail)
  exact Js.Fin.mk ⟨.rfl _, by (repeat (first | exact Heap.sub_rfl _ | fail))⟩
theorem blow_g {d : Nat} {h : Heap} {F : List FG} {a : Arm} (D : Dk h d F a) : Gives Tryz.prog 113 [.ptr d 0] h (.bool (blowA a).1) (h.upd d (.cells (dkc F (blowA a).2))) := by
  have d1 := D.at'
  have d2 := D.cnt
  refine c113 rfl ?_
  repeat' (first | ((with_reducible apply Nx.mk); conv => whnf) | ((with_reducible apply RdC.i); (next => ((repeat (first | with_reducible assumption | exact hp_same _ _ _ | fail)); (first | done | fail))); (next => first | exact dk_on D.len | exact dk_fuse D.len | exact dk_down D.len | exact dk_calls D.len | fail)) | ((with_reducible apply RdH.i); (next => ((repeat (first | with_reducible assumption | exact hp_same _ _ _ | fail)); (first | done | fail)))) | ((with_reducible first | apply brS_i | apply spB_i) <;> intro c <;> (try exact absurd c (by decide)) <;> (try simp only [decide_eq_true_eq, decide_eq_false_iff_not, beq_iff_eq, bne_iff_ne, Bool.not_eq_true', Bool.not_eq_false', beq_eq_false_iff_ne, Bool.not_true, Bool.not_false, reduceCtorEq, ne_eq, bne_eq_false_iff_eq, Int.not_lt, Int.not_le, Decidable.not_not] at c) <;> (try (exfalso; omega))) | ((with_reducible apply Wr.i); (next => first | with_reducible exact wn_addl (by omega) | rfl | fail)) | ((with_reducible apply Up.i); (next => first | exact upd_upd _ _ _ _ | rfl | fail)) | refine (wrk_calls D.len ?_) | refine (wrk_down D.len ?_) | refine (wrk_fuse D.len (less1 d2.2) ?_) | fail)
  · have e : blowA a = (false, ⟨a.on, a.fuse, a.down, a.calls + 1⟩) := by unfold blowA; rw [c]; rfl
    rw [e]
    exact Js.Fin.mk ⟨.rfl _, Heap.sub_rfl _⟩
  · have e : blowA a = (((a.fuse : Int) == 0), ⟨a.on, a.fuse - 1, ((a.fuse : Int) == 0), a.calls + 1⟩) := by
      unfold blowA; rw [c, show ((a.fuse : Int) == 0) = (a.fuse == 0) from by rw [Bool.eq_iff_iff]; simp]; rfl
    rw [e]
    exact Js.Fin.mk ⟨.rfl _, Heap.sub_rfl _⟩
theorem Dk.same {h h2 : Heap} {d : Nat} {F F2 : List FG} {a a2 : Arm} (D : Dk h d F a) (hl : F2.length = 32) (hh : ∀ x o, x ≠ d → h x = some o → h2 x = some o) (hd : h2 d = some (.cells (dkc F2 a2)))
    (hf : ∀ i, (fg F2 i).g = (fg F i).g ∧ (fg F2 i).b = (fg F i).b ∨ (fg F2 i).g = .full ∧ (fg F2 i).b.length ≤ 1048576) (hs : ∀ i, (fg F2 i).s ≤ (fg F2 i).b.length) (hc : a2.calls < 1000000000000 ∧ a2.fuse < 1000000000000) : Dk h2 d F2 a2 ∧ Dp d h F h2 F2 := by
  refine ⟨⟨hd, hl, fun i s e => ?_, fun i => ?_, fun i k s e1 e2 => ?_, fun i => ?_, hs, hc⟩, ⟨fun x o hx _ e => hh x o hx e, fun i s e => ?_⟩⟩
  · rcases hf i with ⟨h1, h2'⟩ | ⟨h1, _⟩
    · rw [h1] at e; rw [h2']
      have := D.slot i s e
      exact hh s _ (by rintro rfl; rw [D.at'] at this; cases this) this
    · rw [h1] at e; cases e
  · rcases hf i with ⟨h1, _⟩ | ⟨h1, _⟩ <;> rw [h1]
    · exact D.yes i
    · simp
  · rcases hf i with ⟨h1, _⟩ | ⟨h1, _⟩ <;> rw [h1] at e1
    · rcases hf k with ⟨h3, _⟩ | ⟨h3, _⟩ <;> rw [h3] at e2
      · exact D.one i k s e1 e2
      · cases e2
    · cases e1
  · rcases hf i with ⟨_, h1⟩ | ⟨_, h1⟩
    · rw [h1]; exact D.few i
    · exact h1
  · rcases hf i with ⟨h1, _⟩ | ⟨h1, _⟩ <;> rw [h1] at e
    · exact .inl e
    · cases e
theorem Dk.sub {h h' : Heap} {d : Nat} {F : List FG} {a : Arm} (D : Dk h d F a) (s : h.Sub h') : Dk h' d F a := ⟨s _ _ D.at', D.len, fun i t e => s _ _ (D.slot i t e), D.yes, D.one, D.few, D.syn, D.cnt⟩
theorem Dp.sub {h h2 h' : Heap} {d : Nat} {F F2 : List FG} (k : Dp d h F h2 F2) (s : h2.Sub h') : Dp d h F h' F2 := ⟨fun x o hx hg e => s _ _ (k.keep x o hx hg e), k.slot⟩
theorem blow_cnt {a : Arm} (h : a.calls + 1 < 1000000000000) (h2 : a.fuse < 1000000000000) : (blowA a).2.calls < 1000000000000 ∧ (blowA a).2.fuse < 1000000000000 := by
  unfold blowA; split <;> simp only <;> omega
theorem Dp.rfl' (d : Nat) (h : Heap) (F : List FG) : Dp d h F h F := ⟨fun _ _ _ _ e => e, fun _ _ e => .inl e⟩
theorem Dk.arm {h : Heap} {d : Nat} {F : List FG} {a a2 : Arm} (D : Dk h d F a) (hc : a2.calls < 1000000000000 ∧ a2.fuse < 1000000000000) : Dk (h.upd d (.cells (dkc F a2))) d F a2 ∧ Dp d h F (h.upd d (.cells (dkc F a2))) F :=
  D.same D.len (fun x o hx e => hp_ne hx e) (hp_same _ _ _) (fun i => .inl ⟨rfl, rfl⟩) D.syn hc
theorem Dk.setf {h : Heap} {d i : Nat} {F : List FG} {a a2 : Arm} {x : FG} (D : Dk h d F a) (hi : i < 32) (hc : a2.calls < 1000000000000 ∧ a2.fuse < 1000000000000) (hx : x.g = (fg F i).g ∧ x.b = (fg F i).b ∨ x.g = .full ∧ x.b.length ≤ 1048576) (hs : x.s ≤ x.b.length) :
    Dk (h.upd d (.cells (dkc (F.set i x) a2))) d (F.set i x) a2 ∧ Dp d h F (h.upd d (.cells (dkc (F.set i x) a2))) (F.set i x) := by
  have hl : i < F.length := by rw [D.len]; exact hi
  refine D.same (by simp [D.len]) (fun x o hx e => hp_ne hx e) (hp_same _ _ _) (fun j => ?_) (fun j => ?_) hc
  · rw [fg_set hl]; split
    · rename_i e; subst e; exact hx
    · exact .inl ⟨rfl, rfl⟩
  · rw [fg_set hl]; split
    · exact hs
    · exact D.syn j
theorem blow_1 (a : Arm) : (blowA a).1 = (a.on && (a.fuse == 0)) := by unfold blowA; split <;> simp [*]
theorem blow_no {a : Arm} (h : a.on = false) (c : (blowA a).1 = true) : False := by rw [blow_1, h] at c; cases c
theorem blow_no2 {a : Arm} (h : ¬ (a.fuse : Int) = 0) (c : (blowA a).1 = true) : False := by rw [blow_1, Bool.and_eq_true, beq_iff_eq] at c; exact h (by rw [c.2]; rfl)
theorem blow_no3 {a : Arm} (h0 : a.on = true) (h : (a.fuse : Int) = 0) (c : (blowA a).1 = false) : False := by rw [blow_1, h0, show a.fuse = 0 from by omega] at c; cases c
def synO (F : List FG) (a : Arm) (i : Nat) : List FG × Arm × Nat :=
  if a.down then (F, a, 70) else if (blowA a).1 then (F, (blowA a).2, 70) else (F.set i ⟨(fg F i).b, (fg F i).b.length, (fg F i).g⟩, (blowA a).2, 0)
theorem syn_c {d i : Nat} {h : Heap} {F : List FG} {a : Arm} (D : Dk h d F a) (hi : i < 32) (hc : a.calls + 1 < 1000000000000) :
    CallW Tryz.prog 120 [.ptr d 0, .int .i64 i] h fun r' h' => r' = .int .i64 (synO F a i).2.2 ∧ Dk h' d (synO F a i).1 (synO F a i).2.1 ∧ Dp d h F h' (synO F a i).1 := by
  have d1 := D.at'
  have d2 := D.cnt
  have hF : i < F.length := by rw [D.len]; exact hi
  refine c120 rfl ?_
  repeat' (first | ((with_reducible apply Nx.mk); conv => whnf) | ((with_reducible apply Js.Fin.mk); (with_reducible apply Nx.mk); conv => whnf) | ((with_reducible apply RdC.i); (next => ((repeat (first | with_reducible assumption | exact hp_same _ _ _ | fail)); (first | done | fail))); (next => first | exact dk_down D.len | exact dk_b hF | fail)) | ((with_reducible apply RdH.i); (next => ((repeat (first | exact hp_same _ _ _ | fail)); (first | done | fail)))) | ((with_reducible first | apply brS_i | apply spB_i) <;> intro c <;> (try exact absurd c (by decide)) <;> (try simp only [decide_eq_true_eq, decide_eq_false_iff_not, beq_iff_eq, bne_iff_ne, Bool.not_eq_true', Bool.not_eq_false', beq_eq_false_iff_ne, Bool.not_true, Bool.not_false, reduceCtorEq, ne_eq, bne_eq_false_iff_eq, Int.not_lt, Int.not_le, Decidable.not_not] at c) <;> (try (exfalso; omega))) | ((with_reducible apply Nm.i); (next => first | with_reducible exact bs_len _ | fail)) | ((with_reducible apply Up.i); (next => first | exact upd_upd _ _ _ _ | fail)) | ((with_reducible apply HN.i); (next => first | rfl | fail)) | refine i51 rfl ?_ | refine CallS.gives n60 (at_g hi) ?_ | refine i161 rfl ?_ | refine CallS.gives n113 (blow_g D) ?_ | refine i166 rfl ?_ | refine (wrk_s hF ?_) | fail)
  · have e : synO F a i = (F, a, 70) := by simp [synO, *]
    rw [e]
    exact Js.Fin.mk ⟨rfl, D, Dp.rfl' _ _ _⟩
  · have e : synO F a i = (F, (blowA a).2, 70) := by simp [synO, *]
    rw [e]
    exact Js.Fin.mk ⟨rfl, D.arm (blow_cnt hc d2.2)⟩
  · have e : synO F a i = (F.set i ⟨(fg F i).b, (fg F i).b.length, (fg F i).g⟩, (blowA a).2, 0) := by simp [synO, *]
    rw [e]
    exact Js.Fin.mk ⟨rfl, D.setf hi (blow_cnt hc d2.2) (.inl ⟨rfl, rfl⟩) (Nat.le_refl _)⟩
def drpO (F : List FG) (a : Arm) (i : Nat) : List FG × Arm × Nat :=
  if a.down then (F, a, 70) else if (blowA a).1 then (F, (blowA a).2, 70) else (F.set i ⟨[], 0, .full⟩, (blowA a).2, 0)
theorem wr_two : ∀ (l : List V) (n : Nat) (x y : V), n + 1 < l.length → wrCells l n [x, y] = (l.set n x).set (n + 1) y
  | [], _, _, _, h => by simp at h
  | [a], 0, _, _, h => by simp at h
  | a :: b :: r, 0, x, y, _ => by simp [wrCells]
  | a :: r, n + 1, x, y, h => by
    have := wr_two r n x y (by simpa using h)
    simp only [List.set_cons_succ, ← this]
    simp [wrCells, Nat.add_right_comm n 1]
theorem wrk_bs {F : List FG} {a : Arm} {i s : Nat} {b : List UInt8} {g : G} {k : List V → Prop} (h : i < F.length) (r : Nx (k (dkc (F.set i ⟨b, s, g⟩) a))) : wrS (dkc F a) (i * 2) [.sl 1 (bs b) g, .int .i64 (s : Int)] k := by
  have hl : i * 2 + 1 < (dkc F a).length := by unfold dkc; rw [List.length_append, frows_len]; omega
  refine wrS_i (cs' := dkc (F.set i ⟨b, s, g⟩) a) (by simp only [List.length_cons, List.length_nil]; omega) ?_ r
  have e1 := dk_setb (a := a) b g h
  have e2 := dk_sets (F := F.set i ⟨b, (fg F i).s, g⟩) (a := a) (i := i) s (by simpa using h)
  rw [← e1, fg_set h, if_pos rfl, List.set_set, Nat.add_zero, wr_set (by omega : i * 2 < (dkc F a).length), wr_set (by rw [List.length_set]; exact hl)] at e2
  rw [wr_two _ _ _ _ hl]
  exact e2
theorem drp_c {d i : Nat} {h : Heap} {F : List FG} {a : Arm} (D : Dk h d F a) (hi : i < 32) (hc : a.calls + 1 < 1000000000000) :
    CallW Tryz.prog 117 [.ptr d 0, .int .i64 i] h fun r' h' => r' = .int .i64 (drpO F a i).2.2 ∧ Dk h' d (drpO F a i).1 (drpO F a i).2.1 ∧ Dp d h F h' (drpO F a i).1 := by
  have d1 := D.at'
  have d2 := D.cnt
  have hF : i < F.length := by rw [D.len]; exact hi
  refine c117 rfl ?_
  repeat' (first | ((with_reducible apply Nx.mk); conv => whnf) | ((with_reducible apply Js.Fin.mk); (with_reducible apply Nx.mk); conv => whnf) | ((with_reducible apply RdC.i); (next => ((repeat (first | with_reducible assumption | fail)); (first | done | fail))); (next => first | exact dk_down D.len | fail)) | ((with_reducible apply RdH.i); (next => ((repeat (first | exact hp_same _ _ _ | fail)); (first | done | fail)))) | ((with_reducible first | apply brS_i | apply spB_i) <;> intro c <;> (try exact absurd c (by decide)) <;> (try simp only [decide_eq_true_eq, decide_eq_false_iff_not, beq_iff_eq, bne_iff_ne, Bool.not_eq_true', Bool.not_eq_false', beq_eq_false_iff_ne, Bool.not_true, Bool.not_false, reduceCtorEq, ne_eq, bne_eq_false_iff_eq, Int.not_lt, Int.not_le, Decidable.not_not] at c) <;> (try (exfalso; omega))) | ((with_reducible apply Up.i); (next => first | exact upd_upd _ _ _ _ | fail)) | ((with_reducible apply HN.i); (next => first | rfl | fail)) | refine i51 rfl ?_ | refine CallS.gives n60 (at_g hi) ?_ | refine i161 rfl ?_ | refine CallS.gives n113 (blow_g D) ?_ | refine i162 rfl ?_ | refine (wrk_bs (b := []) (s := 0) hF ?_) | with_reducible apply And.intro | exact trivial | fail)
  · have e : drpO F a i = (F, a, 70) := by simp [drpO, *]
    rw [e]
    exact Js.Fin.mk ⟨rfl, D, Dp.rfl' _ _ _⟩
  · have e : drpO F a i = (F, (blowA a).2, 70) := by simp [drpO, *]
    rw [e]
    exact Js.Fin.mk ⟨rfl, D.arm (blow_cnt hc d2.2)⟩
  · have e : drpO F a i = (F.set i ⟨[], 0, .full⟩, (blowA a).2, 0) := by simp [drpO, *]
    rw [e]
    exact Js.Fin.mk ⟨rfl, D.setf hi (blow_cnt hc d2.2) (.inr ⟨rfl, by simp⟩) (Nat.le_refl _)⟩
theorem wrk_sz {F : List FG} {a : Arm} {i s : Nat} {z : Int} {k : List V → Prop} (h : i < F.length) (e : z = (s : Int)) (r : Nx (k (dkc (F.set i ⟨(fg F i).b, s, (fg F i).g⟩) a))) : wrS (dkc F a) (i * 2 + 1) [.int .i64 z] k := by
  subst e; exact wrk_s h r
theorem cut_min (s n : Nat) : (if (n : Int) < (s : Int) then (n : Int) else (s : Int)) = ((min s n : Nat) : Int) := by split <;> omega
theorem Dp.new {d l : Nat} {h h2 : Heap} {F F2 : List FG} {o : Ob} (hn : h l = none) (k : Dp d (h.upd l o) F h2 F2) : Dp d h F h2 F2 :=
  ⟨fun x v hx hg e => k.keep x v hx hg (hp_new hn e), fun i s e => (k.slot i s e).imp_right none_of⟩
theorem set_two {F : List FG} {i s : Nat} {b : List UInt8} {g : G} {s0 : Nat} (h : i < F.length) : (F.set i ⟨b, s0, g⟩).set i ⟨(fg (F.set i ⟨b, s0, g⟩) i).b, s, (fg (F.set i ⟨b, s0, g⟩) i).g⟩ = F.set i ⟨b, s, g⟩ := by
  rw [fg_set h, if_pos rfl, List.set_set]
def cutO (F : List FG) (a : Arm) (i n : Nat) : List FG × Arm × Nat :=
  if a.down then (F, a, 70) else if (blowA a).1 then (F, (blowA a).2, 70) else (F.set i ⟨(fg F i).b.take n, min (fg F i).s n, .full⟩, (blowA a).2, 0)
theorem cut_d {d i n : Nat} {h : Heap} {F : List FG} {a : Arm} (D : Dk h d F a) (hi : i < 32) (hc : a.calls + 1 < 1000000000000) (hn : n ≤ (fg F i).b.length) :
    CallW Tryz.prog 119 [.ptr d 0, .int .i64 i, .int .i64 n] h fun r' h' => r' = .int .i64 (cutO F a i n).2.2 ∧ Dk h' d (cutO F a i n).1 (cutO F a i n).2.1 ∧ Dp d h F h' (cutO F a i n).1 := by
  have d1 := D.at'
  have d2 := D.cnt
  have d3 := D.few i
  have hF : i < F.length := by rw [D.len]; exact hi
  refine c119 rfl ?_
  repeat' (first | ((with_reducible apply Nx.mk); conv => whnf) | ((with_reducible apply Js.Fin.mk); (with_reducible apply Nx.mk); conv => whnf) | ((with_reducible apply RdC.i); (next => ((repeat (first | with_reducible assumption | exact hp_same _ _ _ | refine hp_new (by with_reducible assumption) ?_ | refine hp_ne (by first | exact (ne_has (by with_reducible assumption) (by ((repeat (first | exact has_of (by with_reducible assumption) | fail)); (first | done | fail)))).symm | fail) ?_ | fail)); (first | done | fail))); (next => first | exact dk_down D.len | exact dk_b hF | exact dk_s hF | rfl | fail)) | ((with_reducible apply RdH.i); (next => ((repeat (first | exact hp_same _ _ _ | fail)); (first | done | fail)))) | ((with_reducible first | apply brS_i | apply spB_i) <;> intro c <;> (try exact absurd c (by decide)) <;> (try simp only [decide_eq_true_eq, decide_eq_false_iff_not, beq_iff_eq, bne_iff_ne, Bool.not_eq_true', Bool.not_eq_false', beq_eq_false_iff_ne, Bool.not_true, Bool.not_false, reduceCtorEq, ne_eq, bne_eq_false_iff_eq, Int.not_lt, Int.not_le, Decidable.not_not] at c) <;> (try (exfalso; omega))) | ((with_reducible apply Nm.i); (next => first | with_reducible exact bs_len _ | fail)) | ((with_reducible apply Part.i); (next => first | with_reducible exact cast_ofNat _ | fail); (next => first | with_reducible rfl | fail); (next => omega); (next => first | omega | fail); (next => first | with_reducible exact bs_part _ _ _ | fail)) | ((with_reducible apply New.i); intro l hl) | ((with_reducible apply Up.i); (next => first | exact upd_upd _ _ _ _ | fail)) | ((with_reducible apply HN.i); (next => first | rfl | fail)) | ((with_reducible apply Plan.i); (next => kernel_rfl); (next => kernel_rfl)) | refine i51 rfl ?_ | refine CallS.gives n60 (at_g hi) ?_ | refine i164 rfl ?_ | refine CallS.gives n113 (blow_g (Dk.sub D (by (repeat (first | exact Heap.sub_rfl _ | refine sub_new (by (repeat (first | with_reducible assumption | fail))) ?_ | fail))))) ?_ | refine i165 rfl ?_ | refine (wrk_b hF ?_) | refine (wrk_sz (s := min (fg F i).s n) (by simpa using hF) (cut_min _ _) ?_) | with_reducible apply And.intro | exact EqV.mk rfl | exact rfl | fail)
  · have e : cutO F a i n = (F, a, 70) := by simp [cutO, *]
    rw [e]
    exact Js.Fin.mk ⟨rfl, D.sub (sub_new hl (Heap.sub_rfl _)), Dp.new hl (Dp.rfl' _ _ _)⟩
  · have e : cutO F a i n = (F, (blowA a).2, 70) := by simp [cutO, *]
    rw [e]
    have := (D.sub (sub_new (o := .cells [.int .i64 n]) hl (Heap.sub_rfl _))).arm (blow_cnt hc d2.2)
    exact Js.Fin.mk ⟨rfl, this.1, Dp.new hl this.2⟩
  · have e : cutO F a i n = (F.set i ⟨(fg F i).b.take n, min (fg F i).s n, .full⟩, (blowA a).2, 0) := by simp [cutO, *]
    rw [e]
    have := (D.sub (sub_new (o := .cells [.int .i64 n]) hl (Heap.sub_rfl _))).setf (a2 := (blowA a).2) (x := ⟨(fg F i).b.take n, min (fg F i).s n, .full⟩) hi (blow_cnt hc d2.2) (.inr ⟨rfl, by simp only [List.length_take]; omega⟩) (by simp only [List.length_take]; have := D.syn i; omega)
    rw [set_two hF]
    exact Js.Fin.mk ⟨rfl, this.1, Dp.new hl this.2⟩
theorem Dk.can {h : Heap} {d : Nat} {F : List FG} {a : Arm} (D : Dk h d F a) (i : Nat) : Can (fg F i).g 1 (fg F i).b.length h := by
  cases hg : (fg F i).g with
  | full => exact .inl rfl
  | own s => exact .inr ⟨s, rfl, D.slot i s hg⟩
  | no => exact (D.yes i hg).elim
theorem Dk.app {h : Heap} {d i : Nat} {F : List FG} {a : Arm} {b : List UInt8} {g : G} {a2 : Arm} (D : Dk h d F a) (hi : i < 32) (hg : GNew 1 (fg F i).b.length h (fg F i).g g) (hl : (fg F i).b.length + b.length ≤ 1048576) (hc : a2.calls < 1000000000000 ∧ a2.fuse < 1000000000000) :
    Dk ((gr h g 1 ((fg F i).b.length + b.length)).upd d (.cells (dkc (F.set i ⟨(fg F i).b ++ b, (fg F i).s, g⟩) a2))) d (F.set i ⟨(fg F i).b ++ b, (fg F i).s, g⟩) a2 ∧ Dp d h F ((gr h g 1 ((fg F i).b.length + b.length)).upd d (.cells (dkc (F.set i ⟨(fg F i).b ++ b, (fg F i).s, g⟩) a2))) (F.set i ⟨(fg F i).b ++ b, (fg F i).s, g⟩) := by
  have hF : i < F.length := by rw [D.len]; exact hi
  -- what is new is of no file
  have fresh : ∀ s, g = .own s → (fg F i).g = .own s ∨ (h s = none ∧ ∀ j, (fg F j).g ≠ .own s) := fun s e => by
    cases hq : (fg F i).g with
    | full =>
      have hn := hg.new hq s e
      exact .inr ⟨hn, fun j q => by rw [D.slot j s q] at hn; cases hn⟩
    | own t => exact .inl (by have := hg.own t hq; rw [this] at e; cases e; rfl)
    | no => exact (D.yes i hq).elim
  have other : ∀ j s, j ≠ i → (fg F j).g = .own s → g ≠ .own s := fun j s hj e q => by
    rcases fresh s q with h1 | ⟨_, h1⟩
    · exact hj (D.one j i s e h1)
    · exact h1 j e
  have hx : ∀ x o, g ≠ .own x → h x = some o → (gr h g 1 ((fg F i).b.length + b.length)) x = some o := fun x o hq e => by
    unfold gr
    cases g with
    | own s => exact hp_ne (by rintro rfl; exact hq rfl) e
    | _ => exact e
  have hs : ∀ s, g = .own s → s ≠ d := fun s e q => by
    subst q
    rcases fresh s e with h1 | ⟨h1, _⟩
    · have := D.slot i s h1; rw [D.at'] at this; cases this
    · rw [D.at'] at h1; cases h1
  refine ⟨⟨hp_same _ _ _, by simp [D.len], fun j s e => ?_, fun j => ?_, fun j k s e1 e2 => ?_, fun j => ?_, fun j => ?_, hc⟩, ⟨fun x o hxd hq e => hp_ne hxd (hx x o (fun q => ?_) e), fun j s e => ?_⟩⟩
  · rw [fg_set hF] at e ⊢
    split at e
    · simp only at e
      rename_i hj; subst hj
      rw [if_pos rfl]
      subst e
      refine hp_ne (hs s rfl) ?_
      simp only [List.length_append]
      unfold gr; exact hp_same _ _ _
    · rename_i hj
      rw [if_neg hj]
      have h1 := D.slot j s e
      exact hp_ne (by rintro rfl; rw [D.at'] at h1; cases h1) (hx s _ (other j s hj e) h1)
  · rw [fg_set hF]; split
    · exact hg.yes
    · exact D.yes j
  · rw [fg_set hF] at e1 e2
    split at e1 <;> split at e2
    · rename_i h1 h2; rw [h1, h2]
    · rename_i h1 h2; exact (other k s h2 e2 e1).elim
    · rename_i h1 h2; exact (other j s h1 e1 e2).elim
    · exact D.one j k s e1 e2
  · rw [fg_set hF]; split
    · simp only [List.length_append]; omega
    · exact D.few j
  · rw [fg_set hF]; split
    · simp only [List.length_append]; have := D.syn i; omega
    · exact D.syn j
  · rcases fresh x q with h1 | ⟨h1, _⟩
    · exact hq i h1
    · rw [h1] at e; cases e
  · rw [fg_set hF] at e
    split at e
    · rename_i hj; subst hj
      rcases fresh s e with h1 | ⟨h1, _⟩
      · exact .inl h1
      · exact .inr h1
    · exact .inl e
theorem Dp.arm {d : Nat} {h h3 : Heap} {F F3 : List FG} {cs : List V} {cs0 : List V} (hd : h d = some (.cells cs0)) (k : Dp d (h.upd d (.cells cs)) F h3 F3) : Dp d h F h3 F3 :=
  ⟨fun x o hx hg e => k.keep x o hx hg (hp_ne hx e), fun i s e => (k.slot i s e).imp_right fun q => by
    by_cases hs : s = d
    · subst hs; rw [hp_same] at q; cases q
    · rwa [upd_ne h _ hs] at q⟩
def appO (F : List FG) (a : Arm) (i : Nat) (b : List UInt8) (g : G) : List FG × Arm × Nat :=
  if a.down then (F, a, 70) else if 1048576 < (fg F i).b.length + b.length then (F, a, 21)
  else (F.set i ⟨(fg F i).b ++ b, (fg F i).s, g⟩, (blowA a).2, if (blowA a).1 then 70 else 0)
theorem app_c {d i : Nat} {h : Heap} {F : List FG} {a : Arm} (b : List UInt8) (g0 : G) (D : Dk h d F a) (hi : i < 32) (hc : a.calls + 1 < 1000000000000) (hb : b.length < 4294967296) :
    CallW Tryz.prog 17 [.ptr d 0, .int .i64 i, .sl 1 (bs b) g0] h fun r' h' => ∃ g, r' = .int .i64 (appO F a i b g).2.2 ∧ Dk h' d (appO F a i b g).1 (appO F a i b g).2.1 ∧ Dp d h F h' (appO F a i b g).1 := by
  have d1 := D.at'
  have d2 := D.cnt
  have d3 := D.few i
  have hF : i < F.length := by rw [D.len]; exact hi
  refine c17 rfl ?_
  have dcan := D.can i
  repeat' (first | ((with_reducible apply Nx.mk); conv => whnf) | ((with_reducible apply Js.Fin.mk); (with_reducible apply Nx.mk); conv => whnf) | ((with_reducible apply RdC.i); (next => ((repeat (first | with_reducible assumption | exact hp_same _ _ _ | refine hp_new (by with_reducible assumption) ?_ | refine hp_ne (by first | exact (ne_has (by with_reducible assumption) (by ((repeat (first | exact has_of (by with_reducible assumption) | with_reducible refine has_upd ?_ | fail)); (first | done | fail)))).symm | fail) ?_ | fail)); (first | done | fail))); (next => first | exact dk_down D.len | exact dk_on D.len | exact dk_fuse D.len | exact dk_b hF | rfl | fail)) | ((with_reducible apply RdH.i); (next => ((repeat (first | with_reducible assumption | exact hp_same _ _ _ | refine hp_new (by with_reducible assumption) ?_ | refine hp_gr (by with_reducible assumption) rfl ?_ | fail)); (first | done | fail)))) | ((with_reducible first | apply brS_i | apply spB_i) <;> intro c <;> (try exact absurd c (by decide)) <;> (try simp only [decide_eq_true_eq, decide_eq_false_iff_not, beq_iff_eq, bne_iff_ne, Bool.not_eq_true', Bool.not_eq_false', beq_eq_false_iff_ne, Bool.not_true, Bool.not_false, reduceCtorEq, ne_eq, bne_eq_false_iff_eq, Int.not_lt, Int.not_le, Decidable.not_not] at c) <;> (try (exfalso; omega))) | ((with_reducible apply Nm.i); (next => first | with_reducible exact bs_len _ | with_reducible exact bs_app _ _ | fail)) | ((with_reducible apply Wr.i); (next => first | with_reducible exact wn_add (by omega) | fail)) | ((with_reducible apply New.i); intro l hl) | ((with_reducible apply App.i); (next => (repeat (first | with_reducible assumption | refine can_new (by with_reducible assumption) ?_ | refine can_cells (by ((repeat (first | with_reducible assumption | refine hp_new (by with_reducible assumption) ?_ | fail)); (first | done | fail))) ?_ | fail))); intro g' hg') | ((with_reducible apply Up.i); (next => first | exact upd_upd _ _ _ _ | rfl | fail)) | ((with_reducible apply HN.i); (next => first | exact upd_upd _ _ _ _ | rfl | fail)) | ((with_reducible apply Plan.i); (next => kernel_rfl); (next => kernel_rfl)) | refine i51 rfl ?_ | refine CallS.gives n60 (at_g hi) ?_ | refine i52 rfl ?_ | refine CallS.gives n113 (blow_g (Dk.app (Dk.sub D (by (repeat (first | exact Heap.sub_rfl _ | refine sub_new (by (repeat (first | with_reducible assumption | exact none_of (by with_reducible assumption) | exact none_of (none_of (by with_reducible assumption)) | fail))) ?_ | fail)))) hi hg' (by omega) d2).1) ?_ | refine CallS.gives n113 (blow_g (Dk.sub D (by (repeat (first | exact Heap.sub_rfl _ | refine sub_new (by (repeat (first | with_reducible assumption | exact none_of (by with_reducible assumption) | exact none_of (none_of (by with_reducible assumption)) | fail))) ?_ | fail))))) ?_ | refine i50 rfl ?_ | refine (wrk_b hF ?_) | with_reducible apply And.intro | with_reducible intro _ | fail)
  all_goals (try (unfold mostLen; omega))
  all_goals first
    | (have e : ∀ g, appO F a i b g = (F, a, 70) := fun g => by simp [appO, *]
       refine Js.Fin.mk ⟨.full, ?_⟩
       rw [e]
       exact ⟨rfl, D.sub (by (repeat (first | exact Heap.sub_rfl _ | refine sub_new (by (repeat (first | with_reducible assumption | exact none_of (by with_reducible assumption) | exact none_of (none_of (by with_reducible assumption)) | fail))) ?_ | fail))), Dp.new (by assumption) (Dp.new (by assumption) (Dp.new hl (Dp.rfl' _ _ _)))⟩)
    | (have e : ∀ g, appO F a i b g = (F, a, 21) := fun g => by simp [appO, *, show 1048576 < (fg F i).b.length + b.length from by omega]
       refine Js.Fin.mk ⟨.full, ?_⟩
       rw [e]
       exact ⟨rfl, D.sub (by (repeat (first | exact Heap.sub_rfl _ | refine sub_new (by (repeat (first | with_reducible assumption | exact none_of (by with_reducible assumption) | exact none_of (none_of (by with_reducible assumption)) | fail))) ?_ | fail))), Dp.new (by assumption) (Dp.new (by assumption) (Dp.new hl (Dp.rfl' _ _ _)))⟩)
    | exact (blow_no (by assumption) c).elim
    | exact (blow_no2 (by assumption) c).elim
    | exact (blow_no3 (by assumption) (by assumption) c).elim
    | skip
  all_goals have hn : ¬ 1048576 < (fg F i).b.length + b.length := by omega
  all_goals have e : ∀ g, appO F a i b g = (F.set i ⟨(fg F i).b ++ b, (fg F i).s, g⟩, (blowA a).2, if (blowA a).1 then 70 else 0) := fun g => by unfold appO; rw [if_neg (by simp [*]), if_neg hn]
  all_goals refine Js.Fin.mk ⟨g', ?_⟩
  all_goals rw [e, c]
  · have q := Dk.app (b := b) (a2 := (blowA a).2) (Dk.sub D (by (repeat (first | exact Heap.sub_rfl _ | refine sub_new (by (repeat (first | with_reducible assumption | exact none_of (by with_reducible assumption) | exact none_of (none_of (by with_reducible assumption)) | fail))) ?_ | fail)))) hi hg' (by omega) (blow_cnt hc d2.2)
    exact ⟨rfl, q.1, Dp.new (by assumption) (Dp.new (by assumption) (Dp.new hl q.2))⟩
  all_goals (
    have q := Dk.app (b := b) (a2 := (blowA a).2) ((Dk.sub D (by (repeat (first | exact Heap.sub_rfl _ | refine sub_new (by (repeat (first | with_reducible assumption | exact none_of (by with_reducible assumption) | exact none_of (none_of (by with_reducible assumption)) | fail))) ?_ | fail)))).arm (blow_cnt hc d2.2)).1 hi hg' (by omega) (blow_cnt hc d2.2)
    exact ⟨rfl, q.1, Dp.new (by assumption) (Dp.new (by assumption) (Dp.new hl (Dp.arm (by ((repeat (first | with_reducible assumption | refine hp_new (by with_reducible assumption) ?_ | fail)); (first | done | fail))) q.2)))⟩)
theorem read_s {d i : Nat} {h : Heap} {F : List FG} {a : Arm} (D : Dk h d F a) (hi : i < 32) : GivesS Tryz.prog 53 [.ptr d 0, .int .i64 i] h 1 (bs (fg F i).b) (fg F i).b.length := by
  have d1 := D.at'
  have d3 := D.few i
  have hF : i < F.length := by rw [D.len]; exact hi
  refine c53 rfl ?_
  repeat' (first | ((with_reducible apply Nx.mk); conv => whnf) | ((with_reducible apply RdC.i); (next => ((repeat (first | with_reducible assumption | fail)); (first | done | fail))); (next => first | exact dk_b hF | fail)) | ((with_reducible first | apply brS_i | apply spB_i) <;> intro c <;> (try exact absurd c (by decide)) <;> (try simp only [decide_eq_true_eq, decide_eq_false_iff_not, beq_iff_eq, bne_iff_ne, Bool.not_eq_true', Bool.not_eq_false', beq_eq_false_iff_ne, Bool.not_true, Bool.not_false, reduceCtorEq, ne_eq, bne_eq_false_iff_eq, Int.not_lt, Int.not_le, Decidable.not_not] at c) <;> (try (exfalso; omega))) | ((with_reducible apply HN.i); (next => first | rfl | fail)) | refine CallS.gives n60 (at_g hi) ?_ | (refine CallS.givesS n61 (clone_s _ _ (by omega)) ?_; intro g' hg') | fail)
  exact Js.Fin.mk ⟨g', hg', rfl, Heap.sub_rfl _⟩
theorem size_g {d i : Nat} {h : Heap} {F : List FG} {a : Arm} (D : Dk h d F a) (hi : i < 32) : Gives Tryz.prog 22 [.ptr d 0, .int .i64 i] h (.int .i64 (fg F i).b.length) h := by
  have d1 := D.at'
  have hF : i < F.length := by rw [D.len]; exact hi
  refine c22 rfl ?_
  repeat' (first | ((with_reducible apply Nx.mk); conv => whnf) | ((with_reducible apply RdC.i); (next => ((repeat (first | with_reducible assumption | fail)); (first | done | fail))); (next => first | exact dk_b hF | fail)) | ((with_reducible first | apply brS_i | apply spB_i) <;> intro c <;> (try exact absurd c (by decide)) <;> (try simp only [decide_eq_true_eq, decide_eq_false_iff_not, beq_iff_eq, bne_iff_ne, Bool.not_eq_true', Bool.not_eq_false', beq_eq_false_iff_ne, Bool.not_true, Bool.not_false, reduceCtorEq, ne_eq, bne_eq_false_iff_eq, Int.not_lt, Int.not_le, Decidable.not_not] at c) <;> (try (exfalso; omega))) | ((with_reducible apply Nm.i); (next => first | with_reducible exact bs_len _ | fail)) | ((with_reducible apply HN.i); (next => first | rfl | fail)) | refine CallS.gives n60 (at_g hi) ?_ | fail)
  exact Js.Fin.mk ⟨.rfl _, by (repeat (first | exact Heap.sub_rfl _ | fail))⟩
theorem synced_g {d i : Nat} {h : Heap} {F : List FG} {a : Arm} (D : Dk h d F a) (hi : i < 32) : Gives Tryz.prog 21 [.ptr d 0, .int .i64 i] h (.int .i64 (fg F i).s) h := by
  have d1 := D.at'
  have hF : i < F.length := by rw [D.len]; exact hi
  refine c21 rfl ?_
  repeat' (first | ((with_reducible apply Nx.mk); conv => whnf) | ((with_reducible apply RdC.i); (next => ((repeat (first | with_reducible assumption | fail)); (first | done | fail))); (next => first | exact dk_s hF | fail)) | ((with_reducible first | apply brS_i | apply spB_i) <;> intro c <;> (try exact absurd c (by decide)) <;> (try simp only [decide_eq_true_eq, decide_eq_false_iff_not, beq_iff_eq, bne_iff_ne, Bool.not_eq_true', Bool.not_eq_false', beq_eq_false_iff_ne, Bool.not_true, Bool.not_false, reduceCtorEq, ne_eq, bne_eq_false_iff_eq, Int.not_lt, Int.not_le, Decidable.not_not] at c) <;> (try (exfalso; omega))) | ((with_reducible apply HN.i); (next => first | rfl | fail)) | refine CallS.gives n60 (at_g hi) ?_ | fail)
  exact Js.Fin.mk ⟨.rfl _, by (repeat (first | exact Heap.sub_rfl _ | fail))⟩
def F0 : List FG := List.replicate 32 ⟨[], 0, .full⟩
theorem fg0 (i : Nat) : fg F0 i = ⟨[], 0, .full⟩ := by
  unfold fg F0; rw [List.getD_eq_getElem?_getD, List.getElem?_replicate]; split <;> rfl
theorem new_c {h : Heap} : CallW Tryz.prog 16 [] h fun r' h' => ∃ d, r' = .ptr d 0 ∧ h d = none ∧ Dk h' d F0 ⟨false, 0, false, 0⟩ ∧ h.Sub h' := by
  refine c16 rfl ?_
  repeat' (first | ((with_reducible apply Nx.mk); conv => whnf) | ((with_reducible apply New.i); intro l hl) | with_reducible apply And.intro | exact trivial | fail)
  refine Js.Fin.mk ⟨l, rfl, hl, ⟨(hp_same _ _ _).trans (congrArg some (congrArg Ob.cells ?_)), rfl, fun i s e => ?_, fun i => ?_, fun i k s e => ?_, fun i => ?_, fun i => ?_, by decide⟩, sub_new hl (Heap.sub_rfl _)⟩
  · kernel_rfl
  · rw [fg0] at e; cases e
  · rw [fg0]; simp
  · rw [fg0] at e; cases e
  · rw [fg0]; simp
  · rw [fg0]; simp
end J
end

section
/- What is written: numbers, texts, parcels. -/
namespace J
open Go Go.Proofs Jb Js
set_option maxRecDepth 100000
set_option maxHeartbeats 4000000


theorem c138 {args : List V} {h : Heap} {K : V → Heap → Prop} (hn : Nat.ble args.length Tryz.f138.ntmps = true) (e : Nx (bodyS Tryz.prog ⟨[], [(1, [4, 27], [])], false⟩ Tryz.f138 args h K)) : CallW Tryz.prog 138 args h K := CallW.go mix _ Tryz.func138 (Nat.le_of_ble_eq_true hn) rfl e
theorem n138 : enters Tryz.prog 138 = true := by kernel_rfl
theorem c94 {args : List V} {h : Heap} {K : V → Heap → Prop} (hn : Nat.ble args.length Tryz.f94.ntmps = true) (e : Nx (bodyS Tryz.prog ⟨[], [(0, [4, 2, 2, 11], []), (5, [4, 2, 2, 11], [])], false⟩ Tryz.f94 args h K)) : CallW Tryz.prog 94 args h K := CallW.go mix _ Tryz.func94 (Nat.le_of_ble_eq_true hn) rfl e
theorem n94 : enters Tryz.prog 94 = true := by kernel_rfl
theorem c122 {args : List V} {h : Heap} {K : V → Heap → Prop} (hn : Nat.ble args.length Tryz.f122.ntmps = true) (e : Nx (bodyS Tryz.prog ⟨[], [], false⟩ Tryz.f122 args h K)) : CallW Tryz.prog 122 args h K := CallW.go mix _ Tryz.func122 (Nat.le_of_ble_eq_true hn) rfl e
theorem n122 : enters Tryz.prog 122 = true := by kernel_rfl
theorem c95 {args : List V} {h : Heap} {K : V → Heap → Prop} (hn : Nat.ble args.length Tryz.f95.ntmps = true) (e : Nx (bodyS Tryz.prog ⟨[], [], false⟩ Tryz.f95 args h K)) : CallW Tryz.prog 95 args h K := CallW.go mix _ Tryz.func95 (Nat.le_of_ble_eq_true hn) rfl e
theorem n95 : enters Tryz.prog 95 = true := by kernel_rfl
theorem c97 {args : List V} {h : Heap} {K : V → Heap → Prop} (hn : Nat.ble args.length Tryz.f97.ntmps = true) (e : Nx (bodyS Tryz.prog ⟨[], [], false⟩ Tryz.f97 args h K)) : CallW Tryz.prog 97 args h K := CallW.go mix _ Tryz.func97 (Nat.le_of_ble_eq_true hn) rfl e
theorem n97 : enters Tryz.prog 97 = true := by kernel_rfl
theorem c96 {args : List V} {h : Heap} {K : V → Heap → Prop} (hn : Nat.ble args.length Tryz.f96.ntmps = true) (e : Nx (bodyS Tryz.prog ⟨[6], [], false⟩ Tryz.f96 args h K)) : CallW Tryz.prog 96 args h K := CallW.go mix _ Tryz.func96 (Nat.le_of_ble_eq_true hn) rfl e
theorem n96 : enters Tryz.prog 96 = true := by kernel_rfl
structure Wt (h : Heap) (p : Nat) (b : List UInt8) (g : G) : Prop where
  at' : h p = some (.cells [.sl 1 (bs b) g])
  slot : ∀ s, g = .own s → h s = some (.grow 1 b.length)
  yes : g ≠ .no
theorem Wt.can {h : Heap} {p : Nat} {b : List UInt8} {g : G} (w : Wt h p b g) : Can g 1 b.length h := by
  cases g with
  | full => exact .inl rfl
  | own s => exact .inr ⟨s, rfl, w.slot s rfl⟩
  | no => exact (w.yes rfl).elim
theorem Wt.sub {h h' : Heap} {p : Nat} {b : List UInt8} {g : G} (w : Wt h p b g) (s : h.Sub h') : Wt h' p b g := ⟨s _ _ w.at', fun t e => s _ _ (w.slot t e), w.yes⟩
theorem Wt.app {h : Heap} {p : Nat} {b c : List UInt8} {g g' : G} (w : Wt h p b g) (hg : GNew 1 b.length h g g') : Wt ((gr h g' 1 (b.length + c.length)).upd p (.cells [.sl 1 (bs (b ++ c)) g'])) p (b ++ c) g' ∧ Kp p h g ((gr h g' 1 (b.length + c.length)).upd p (.cells [.sl 1 (bs (b ++ c)) g'])) g' := by
  have hs : ∀ s, g' = .own s → g = .own s ∨ h s = none := fun s e => by
    cases g with
    | full => exact .inr (hg.new rfl s e)
    | own t => exact .inl (by have := hg.own t rfl; rw [this] at e; exact e)
    | no => exact (w.yes rfl).elim
  refine ⟨⟨hp_same _ _ _, fun s e => ?_, hg.yes⟩, ⟨fun x o hx hq e => hp_ne hx ?_, hs⟩⟩
  · subst e
    have : s ≠ p := by
      rintro rfl
      rcases hs s rfl with h1 | h1
      · have := w.slot s h1; rw [w.at'] at this; cases this
      · rw [w.at'] at h1; cases h1
    refine hp_ne this ?_
    rw [List.length_append]; exact hp_same _ _ _
  · unfold gr
    split
    · rename_i s
      refine hp_ne ?_ e
      rintro rfl
      rcases hs x rfl with h1 | h1
      · exact hq h1
      · rw [h1] at e; cases e
    · exact e
def encN (n : Nat) : List UInt8 := if h : n < 128 then [UInt8.ofNat n] else UInt8.ofNat (n % 128 + 128) :: encN (n / 128)
  termination_by n
  decreasing_by omega
theorem encN_lo {n : Nat} (h : n < 128) : encN n = [UInt8.ofNat n] := by rw [encN, dif_pos h]
theorem encN_hi {n : Nat} (h : ¬ n < 128) : encN n = UInt8.ofNat (n % 128 + 128) :: encN (n / 128) := by rw [encN, dif_neg h]
theorem or128 (x : Nat) (hx : x < 256) : IntKind.u8.wrap ((BitVec.ofInt IntKind.u8.bits (x : Int) ||| BitVec.ofInt IntKind.u8.bits 128).toNat : Nat) = ((x % 128 + 128 : Nat) : Int) := by revert x; decide
theorem u8_nat (n : Nat) : IntKind.u8.wrap (n : Int) = ((n % 256 : Nat) : Int) := by simp [IntKind.wrap, IntKind.signed, IntKind.bits]
theorem encN_len : ∀ (k n : Nat), n < 128 ^ (k + 1) → (encN n).length ≤ k + 1
  | 0, n, h => by rw [encN_lo (by simpa using h)]; simp
  | k + 1, n, h => by
    by_cases q : n < 128
    · rw [encN_lo q]; simp
    · rw [encN_hi q]
      have := encN_len k (n / 128) (by rw [Nat.div_lt_iff_lt_mul (by decide)]; rw [Nat.pow_succ] at h; exact h)
      simp only [List.length_cons]; omega
theorem encN_10 {n : Nat} (h : n < 18446744073709551616) : (encN n).length ≤ 10 := encN_len 9 n (Nat.lt_of_lt_of_le h (by decide))
theorem shr7 (n : Nat) : Int.fdiv (n : Int) (2 ^ min (Int.toNat 7) IntKind.u64.bits) = ((n / 128 : Nat) : Int) := by
  rw [show (2 : Int) ^ min (Int.toNat 7) IntKind.u64.bits = 128 from by decide, Int.fdiv_eq_ediv_of_nonneg _ (by decide)]; rfl
theorem nat_c {h : Heap} {p : Nat} {b : List UInt8} {g : G} (n : Nat) (w : Wt h p b g) (hb : b.length < 4294967200) (hn : n < 18446744073709551616) :
    CallW Tryz.prog 138 [.ptr p 0, .int .u64 n] h fun r' h' => ∃ g', r' = .tup [] ∧ Wt h' p (b ++ encN n) g' ∧ Kp p h g h' g' := by
  refine c138 rfl ?_
  repeat' (first | ((with_reducible apply Nx.mk); conv => whnf) | fail)
  have e10 := encN_10 hn
  refine loopS (σ := Nat × List UInt8 × G) (fun s => frm 31 [(0, .ptr p 0), (1, .int .u64 s.1)]) (fun _ => []) (fun s => s.1)
    (fun s h' => Wt h' p s.2.1 s.2.2 ∧ Kp p h g h' s.2.2 ∧ s.2.1 ++ encN s.1 = b ++ encN n ∧ s.1 < 18446744073709551616) (n, b, g) rfl ⟨w, Kp.rfl' _ _ _, rfl, hn⟩ ?_
  rintro ⟨m, cc, g1⟩ h1 ⟨w1, k1, k2, k3⟩
  simp only at w1 k1 k2 k3 ⊢
  have hl := congrArg List.length k2
  simp only [List.length_append] at hl
  repeat' (first | ((with_reducible apply Nx.mk); conv => whnf) | ((with_reducible apply RdC.i); (next => ((repeat (first | exact Wt.at' (by with_reducible assumption) | fail)); (first | done | fail))); (next => first | rfl | fail)) | ((with_reducible apply RdH.i); (next => ((repeat (first | exact Wt.at' (by with_reducible assumption) | refine hp_gr (by with_reducible assumption) rfl ?_ | fail)); (first | done | fail)))) | ((with_reducible first | apply brS_i | apply spB_i) <;> intro c <;> (try exact absurd c (by decide)) <;> (try simp only [decide_eq_true_eq, decide_eq_false_iff_not, beq_iff_eq, bne_iff_ne, Bool.not_eq_true', Bool.not_eq_false', beq_eq_false_iff_ne, Bool.not_true, Bool.not_false, reduceCtorEq, ne_eq, bne_eq_false_iff_eq, Int.not_lt, Int.not_le, Decidable.not_not] at c) <;> (try (exfalso; omega))) | ((with_reducible apply Nm.i); (next => first | with_reducible exact bs_len _ | with_reducible exact or128 _ (by omega) | with_reducible exact bs_snoc _ (by omega) | with_reducible exact shr7 _ | rfl | fail)) | ((with_reducible apply Wr.i); (next => first | with_reducible exact u8_nat _ | fail)) | ((with_reducible apply App.i); (next => (repeat (first | exact Wt.can (by with_reducible assumption) | fail))); intro g' hg') | ((with_reducible apply Up.i); (next => first | rfl | fail)) | with_reducible apply And.intro | exact trivial | decide | fail)
  · unfold mostLen; simp only [List.length_singleton]; omega
  · have e : m % 256 % 128 + 128 = m % 128 + 128 := by omega
    rw [e]
    have q := w1.app (c := [UInt8.ofNat (m % 128 + 128)]) hg'
    exact Js.Fin.mk ⟨(m / 128, cc ++ [UInt8.ofNat (m % 128 + 128)], g'), rfl, ⟨q.1, Kp.trans k1 w1.at' q.2, by rw [← k2, encN_hi (by omega : ¬ m < 128)]; simp, by simp only; omega⟩, by simp only; omega⟩
  · unfold mostLen; simp only [List.length_singleton]; omega
  · have e : m % 256 = m := by omega
    rw [e]
    have q := w1.app (c := [UInt8.ofNat m]) hg'
    rw [encN_lo (by omega : m < 128)] at k2
    rw [← k2]
    exact Js.Fin.mk ⟨g', rfl, q.1, Kp.trans k1 w1.at' q.2⟩
def uv (l : List Nat) : List (List V) := l.map fun (n : Nat) => [V.int .u64 (n : Int)]
theorem uv_len (l : List Nat) : (uv l).length = l.length := by simp [uv]
theorem uv_at {l : List Nat} {i : Nat} (h : i < l.length) : (uv l)[i]? = some [.int .u64 (l.getD i 0 : Nat)] := by simp [uv, h]
theorem nats_c {h : Heap} {p : Nat} {b : List UInt8} {g : G} (l : List Nat) (g0 : G) (w : Wt h p b g) (hb : b.length < 4294967000) (hl : l.length ≤ 4) (hn : ∀ n ∈ l, n < 18446744073709551616) :
    CallW Tryz.prog 94 [.ptr p 0, .sl 1 (uv l) g0] h fun r' h' => ∃ g', r' = .tup [] ∧ Wt h' p (b ++ l.flatMap encN) g' ∧ Kp p h g h' g' := by
  refine c94 rfl ?_
  repeat' (first | ((with_reducible apply Nx.mk); conv => whnf) | ((with_reducible apply Nm.i); (next => first | with_reducible exact uv_len _ | fail)) | fail)
  refine loopS (σ := Nat × G) (fun s => frm 19 [(0, .ptr p 0), (1, .sl 1 (uv l) g0), (6, .int .i64 l.length), (7, .int .i64 s.1)]) (fun _ => []) (fun s => l.length - s.1)
    (fun s h' => s.1 ≤ l.length ∧ Wt h' p (b ++ (l.take s.1).flatMap encN) s.2 ∧ Kp p h g h' s.2) (0, g) rfl ⟨by simp, by simpa using w, Kp.rfl' _ _ _⟩ ?_
  rintro ⟨i, g1⟩ h1 ⟨k1, w1, k2⟩
  simp only at k1 w1 k2 ⊢
  by_cases hi : i < l.length
  · have hm : l.getD i 0 < 18446744073709551616 := hn _ (by simp [hi])
    have hlen : (b ++ (l.take i).flatMap encN).length < 4294967200 := by
      have : ∀ m : List Nat, (∀ n ∈ m, n < 18446744073709551616) → (m.flatMap encN).length ≤ 10 * m.length := by
        intro m
        induction m with
        | nil => simp
        | cons x r ih => intro hm; simp only [List.flatMap_cons, List.length_append, List.length_cons]; have := encN_10 (hm x (by simp)); have := ih fun n hn => hm n (by simp [hn]); omega
      have q := this (l.take i) fun n hx => hn n (List.mem_of_mem_take hx)
      simp only [List.length_append, List.length_take] at q ⊢
      omega
    repeat' (first | ((with_reducible apply Nx.mk); conv => whnf) | ((with_reducible apply RdV.i); (next => first | rfl | fail)) | ((with_reducible first | apply brS_i | apply spB_i) <;> intro c <;> (try exact absurd c (by decide)) <;> (try simp only [decide_eq_true_eq, decide_eq_false_iff_not, beq_iff_eq, bne_iff_ne, Bool.not_eq_true', Bool.not_eq_false', beq_eq_false_iff_ne, Bool.not_true, Bool.not_false, reduceCtorEq, ne_eq, bne_eq_false_iff_eq, Int.not_lt, Int.not_le, Decidable.not_not] at c) <;> (try (exfalso; omega))) | ((with_reducible apply RdE.i); (next => first | with_reducible rfl | fail); (next => first | with_reducible exact uv_at (by omega) | fail)) | ((with_reducible apply Wr.i); (next => first | with_reducible exact wn_addl (by omega) | fail)) | (refine CallS.by' n138 (nat_c (l.getD i 0) w1 hlen hm) ?_; rintro r' h2 ⟨g2, rfl, w2, k3⟩) | fail)
    refine Js.Fin.mk ⟨(i + 1, g2), rfl, ⟨by simp only; omega, ?_, Kp.trans k2 w1.at' k3⟩, by simp only; omega⟩
    simp only
    rw [List.take_succ_eq_append_getElem hi, List.flatMap_append, ← List.append_assoc]
    have e : l[i] = l.getD i 0 := by simp [hi]
    rw [e]
    simpa using w2
  · rw [List.take_of_length_le (by omega)] at w1
    repeat' (first | ((with_reducible apply Nx.mk); conv => whnf) | ((with_reducible first | apply brS_i | apply spB_i) <;> intro c <;> (try exact absurd c (by decide)) <;> (try simp only [decide_eq_true_eq, decide_eq_false_iff_not, beq_iff_eq, bne_iff_ne, Bool.not_eq_true', Bool.not_eq_false', beq_eq_false_iff_ne, Bool.not_true, Bool.not_false, reduceCtorEq, ne_eq, bne_eq_false_iff_eq, Int.not_lt, Int.not_le, Decidable.not_not] at c) <;> (try (exfalso; omega))) | fail)
    exact Js.Fin.mk ⟨g1, rfl, w1, k2⟩
theorem flag_c {h : Heap} {p : Nat} {b : List UInt8} {g : G} (v : Bool) (w : Wt h p b g) (hb : b.length < 4294967000) :
    CallW Tryz.prog 122 [.ptr p 0, .bool v] h fun r' h' => ∃ g', r' = .tup [] ∧ Wt h' p (b ++ encN (if v then 1 else 0)) g' ∧ Kp p h g h' g' := by
  refine c122 rfl ?_
  repeat' (first | ((with_reducible apply Nx.mk); conv => whnf) | ((with_reducible first | apply brS_i | apply spB_i) <;> intro c <;> (try exact absurd c (by decide)) <;> (try simp only [decide_eq_true_eq, decide_eq_false_iff_not, beq_iff_eq, bne_iff_ne, Bool.not_eq_true', Bool.not_eq_false', beq_eq_false_iff_ne, Bool.not_true, Bool.not_false, reduceCtorEq, ne_eq, bne_eq_false_iff_eq, Int.not_lt, Int.not_le, Decidable.not_not] at c) <;> (try (exfalso; omega))) | (refine CallS.by' n94 (nats_c [1] _ w hb (by decide) (by simp)) ?_; rintro r' h2 ⟨g2, rfl, w2, k3⟩) | (refine CallS.by' n94 (nats_c [0] _ w hb (by decide) (by simp)) ?_; rintro r' h2 ⟨g2, rfl, w2, k3⟩) | with_reducible apply And.intro | exact trivial | fail)
  · subst c; exact Js.Fin.mk ⟨g2, rfl, by simpa using w2, k3⟩
  · subst c; exact Js.Fin.mk ⟨g2, rfl, by simpa using w2, k3⟩
theorem bytes_s {h : Heap} {p : Nat} {b : List UInt8} {g : G} (w : Wt h p b g) (hb : b.length < 4294967000) : GivesS Tryz.prog 97 [.ptr p 0] h 1 (bs b) b.length := by
  refine c97 rfl ?_
  repeat' (first | ((with_reducible apply Nx.mk); conv => whnf) | ((with_reducible apply RdC.i); (next => ((repeat (first | exact Wt.at' (by with_reducible assumption) | fail)); (first | done | fail))); (next => first | rfl | fail)) | ((with_reducible first | apply brS_i | apply spB_i) <;> intro c <;> (try exact absurd c (by decide)) <;> (try simp only [decide_eq_true_eq, decide_eq_false_iff_not, beq_iff_eq, bne_iff_ne, Bool.not_eq_true', Bool.not_eq_false', beq_eq_false_iff_ne, Bool.not_true, Bool.not_false, reduceCtorEq, ne_eq, bne_eq_false_iff_eq, Int.not_lt, Int.not_le, Decidable.not_not] at c) <;> (try (exfalso; omega))) | ((with_reducible apply Nm.i); (next => first | with_reducible exact bs_len _ | with_reducible exact List.length_nil | with_reducible exact List.nil_append _ | fail)) | ((with_reducible apply App.i); (next => (repeat (first | exact .full | fail))); intro g' hg') | with_reducible apply And.intro | fail)
  · unfold mostLen; omega
  · exact Js.Fin.mk ⟨g', hg', rfl, by rw [Nat.zero_add]; exact Heap.sub_rfl _⟩
theorem txd (x : List UInt8) : List.map (fun (b : UInt8) => [V.int .u8 (b.toNat : Int)]) (tx x).data.toList = bs x := by simp [tx, bs]
theorem txw {x : List UInt8} (h : x.length < 2000000000) : IntKind.u64.wrap ((tx x).size : Int) = (x.length : Int) := by rw [tx_size]; exact wrap_u64 (by omega) (by omega)
theorem wtext_c {h : Heap} {p : Nat} {b : List UInt8} {g : G} (x : List UInt8) (w : Wt h p b g) (hb : b.length < 2000000000) (hx : x.length < 2000000000) :
    CallW Tryz.prog 95 [.ptr p 0, .str (tx x)] h fun r' h' => ∃ g', r' = .tup [] ∧ Wt h' p (b ++ encN x.length ++ x) g' ∧ Kp p h g h' g' := by
  refine c95 rfl ?_
  repeat' (first | ((with_reducible apply Nx.mk); conv => whnf) | ((with_reducible apply RdC.i); (next => ((repeat (first | exact Wt.at' (by with_reducible assumption) | fail)); (first | done | fail))); (next => first | rfl | fail)) | ((with_reducible apply RdH.i); (next => ((repeat (first | exact Wt.at' (by with_reducible assumption) | refine hp_gr (by with_reducible assumption) rfl ?_ | fail)); (first | done | fail)))) | ((with_reducible first | apply brS_i | apply spB_i) <;> intro c <;> (try exact absurd c (by decide)) <;> (try simp only [decide_eq_true_eq, decide_eq_false_iff_not, beq_iff_eq, bne_iff_ne, Bool.not_eq_true', Bool.not_eq_false', beq_eq_false_iff_ne, Bool.not_true, Bool.not_false, reduceCtorEq, ne_eq, bne_eq_false_iff_eq, Int.not_lt, Int.not_le, Decidable.not_not] at c) <;> (try (exfalso; omega))) | ((with_reducible apply Nm.i); (next => first | with_reducible exact bs_len _ | rfl | fail)) | ((with_reducible apply Wr.i); (next => first | with_reducible exact txw hx | fail)) | ((with_reducible apply App.i); (next => (repeat (first | exact Wt.can (by with_reducible assumption) | fail))); intro g' hg') | ((with_reducible apply Up.i); (next => first | rfl | fail)) | (refine CallS.by' n138 (nat_c x.length w (by omega) (by omega)) ?_; rintro r' h2 ⟨g2, rfl, w2, k3⟩) | with_reducible apply And.intro | fail)
  · unfold mostLen; rw [txd, bs_len]; simp only [List.length_append]; have := encN_10 (n := x.length) (by omega); omega
  · rw [txd, bs_len, bs_app]
    have q := w2.app (c := x) hg'
    exact Js.Fin.mk ⟨g', rfl, q.1, Kp.trans k3 w2.at' q.2⟩
def pk (k : UInt8) (b : List UInt8) : List UInt8 := k :: (encN b.length ++ b) ++ fourB (crcN (k :: (encN b.length ++ b)))
theorem wrap_g {h : Heap} (k : UInt8) (b : List UInt8) (g0 : G) (hk : k ≠ 0) (hb : b.length ≤ 65536) :
    Gives Tryz.prog 96 [.int .u8 k.toNat, .sl 1 (bs b) g0] h (.tup [.sl 1 (bs (pk k b)) .no, .int .i64 0]) h := by
  have q10 := encN_10 (n := b.length) (by omega)
  have hk' : k.toNat ≠ 0 := fun e => hk (UInt8.toNat_inj.1 e)
  refine c96 rfl ?_
  repeat' (first | ((with_reducible apply Nx.mk); conv => whnf) | ((with_reducible first | apply brS_i | apply spB_i) <;> intro c <;> (try exact absurd c (by decide)) <;> (try simp only [decide_eq_true_eq, decide_eq_false_iff_not, beq_iff_eq, bne_iff_ne, Bool.not_eq_true', Bool.not_eq_false', beq_eq_false_iff_ne, Bool.not_true, Bool.not_false, reduceCtorEq, ne_eq, bne_eq_false_iff_eq, Int.not_lt, Int.not_le, Decidable.not_not] at c) <;> (try (exfalso; omega))) | ((with_reducible apply Nm.i); (next => first | with_reducible exact bs_len _ | rfl | fail)) | ((with_reducible apply New.i); intro l hl) | ((with_reducible apply App.i); (next => (repeat (first | exact .full | fail))); intro g' hg') | ((with_reducible apply ToS.i); (next => exact bs_byte _); (next => exact bs_tx _)) | (refine CallS.by' n95 (wtext_c (b := []) (g := .full) b ⟨by ((repeat (first | exact hp_same _ _ _ | fail)); (first | done | fail)), by simp, by simp⟩ (by simp) (by omega)) ?_; rintro r' h2 ⟨g2, rfl, w2, k3⟩) | (refine CallS.givesS n97 (bytes_s w2 (by simp only [List.length_append, List.length_nil]; omega)) ?_; intro g' hg') | with_reducible apply And.intro | exact trivial | fail)
  · unfold mostLen; simp only [List.length_append, List.length_nil, List.length_cons]; omega
  have eb : [[V.int .u8 (k.toNat : Int)]] ++ bs ([] ++ encN b.length ++ b) = bs (k :: ([] ++ encN b.length ++ b)) := rfl
  have el : [[V.int .u8 (k.toNat : Int)]].length + ([] ++ encN b.length ++ b).length = (k :: ([] ++ encN b.length ++ b)).length := by simp; omega
  have s0 : h.Sub h2 := fun x o e => by
    have hx : x ≠ l := by rintro rfl; rw [hl] at e; cases e
    exact k3.keep x o hx (by simp) (hp_ne hx e)
  rename_i g1 hg1
  have s1 : h.Sub (gr h2 g1 1 ([] ++ encN b.length ++ b).length) := sub_gr0 hg1 s0
  have o1 := own_step s1 (by simp) (by simp) hg'
  rw [eb, el]
  repeat' (first | ((with_reducible apply Nx.mk); conv => whnf) | ((with_reducible apply HN.i); (next => first | rfl | fail)) | refine CallS.gives n139 (seal_g (k :: ([] ++ encN b.length ++ b)) g' (by simp only [List.length_append, List.length_nil, List.length_cons]; omega) (can_gr hg') (sub_gr hg' o1 s1) o1) ?_ | fail)
  refine Js.Fin.mk ⟨?_, Heap.sub_rfl _⟩
  rw [List.nil_append]
  exact .rfl _
end J
end

section
/- Segments in their block. -/
namespace J
open Go Go.Proofs Jb Js
set_option maxRecDepth 100000
set_option maxHeartbeats 4000000


theorem c173 {args : List V} {h : Heap} {K : V → Heap → Prop} (hn : Nat.ble args.length Tryz.f173.ntmps = true) (e : Nx (bodyS Tryz.prog ⟨[], [(1, [4, 3, 2, 10], []), (6, [4, 3, 2, 10], [])], false⟩ Tryz.f173 args h K)) : CallW Tryz.prog 173 args h K := CallW.go mix _ Tryz.func173 (Nat.le_of_ble_eq_true hn) rfl e
theorem n173 : enters Tryz.prog 173 = true := by kernel_rfl
theorem c140 {args : List V} {h : Heap} {K : V → Heap → Prop} (hn : Nat.ble args.length Tryz.f140.ntmps = true) (e : Nx (bodyS Tryz.prog ⟨[], [], false⟩ Tryz.f140 args h K)) : CallW Tryz.prog 140 args h K := CallW.go mix _ Tryz.func140 (Nat.le_of_ble_eq_true hn) rfl e
theorem n140 : enters Tryz.prog 140 = true := by kernel_rfl
structure Sg where
  file : Nat
  ser : Nat
  new : Bool
  ix : Nat
  tm : Nat
def sc (x : Sg) : List V := [.int .i64 x.file, .int .u64 x.ser, .bool x.new, .int .u64 x.ix, .int .u64 x.tm]
def scs : List Sg → List V
  | [] => []
  | x :: r => .int .i64 x.file :: .int .u64 x.ser :: .bool x.new :: .int .u64 x.ix :: .int .u64 x.tm :: scs r
def sga (l : List Sg) (i : Nat) : Sg := l.getD i ⟨0, 0, false, 0, 0⟩
theorem scs_len : ∀ l, (scs l).length = 5 * l.length
  | [] => rfl
  | x :: r => by simp only [scs, List.length_cons, scs_len r]; omega
theorem scs_app : ∀ l m, scs l ++ scs m = scs (l ++ m)
  | [], _ => rfl
  | x :: r, m => by simp [scs, scs_app r m]
theorem scs_at : ∀ {l : List Sg} {R : List V} {i k : Nat}, i < l.length → k < 5 → (scs l ++ R)[i * 5 + k]? = (sc (sga l i))[k]?
  | x :: r, R, 0, k, _, hk => by
    match k, hk with
    | 0, _ => rfl
    | 1, _ => rfl
    | 2, _ => rfl
    | 3, _ => rfl
    | 4, _ => rfl
  | x :: r, R, i + 1, k, h, hk => by
    have := scs_at (l := r) (R := R) (i := i) (k := k) (by simpa using h) hk
    rw [show (i + 1) * 5 + k = i * 5 + k + 1 + 1 + 1 + 1 + 1 from by omega]
    simpa [scs, sga] using this
theorem scs_row {l : List Sg} {R : List V} {i : Nat} (h : i < l.length) : ((scs l ++ R).drop (i * 5)).take 5 = sc (sga l i) := by
  refine List.ext_getElem? fun k => ?_
  by_cases hk : k < 5
  · rw [List.getElem?_take, if_pos hk, List.getElem?_drop]; exact scs_at h hk
  · rw [List.getElem?_take, if_neg hk]; simp [sc]; omega
theorem c124 {args : List V} {h : Heap} {K : V → Heap → Prop} (hn : Nat.ble args.length Tryz.f124.ntmps = true) (e : Nx (bodyS Tryz.prog ⟨[999999], [], false⟩ Tryz.f124 args h K)) : CallW Tryz.prog 124 args h K := CallW.go mix _ Tryz.func124 (Nat.le_of_ble_eq_true hn) rfl e
theorem n124 : enters Tryz.prog 124 = true := by kernel_rfl
theorem scs_take : ∀ (l : List Sg) (R : List V) (k : Nat), k ≤ l.length → (scs l ++ R).take (k * 5) = scs (l.take k)
  | l, R, 0, _ => by simp [scs]
  | x :: r, R, k + 1, h => by
    have := scs_take r R k (by simpa using h)
    rw [show (k + 1) * 5 = k * 5 + 1 + 1 + 1 + 1 + 1 from by omega]
    simp [scs, this]
theorem scs_drop : ∀ (l : List Sg) (R : List V) (k : Nat), k ≤ l.length → (scs l ++ R).drop (k * 5) = scs (l.drop k) ++ R
  | l, R, 0, _ => by simp
  | x :: r, R, k + 1, h => by
    have := scs_drop r R k (by simpa using h)
    rw [show (k + 1) * 5 = k * 5 + 1 + 1 + 1 + 1 + 1 from by omega]
    simp [scs, this]
theorem del_one {l : List Sg} {R : List V} {i : Nat} (hi : i < l.length) : wrCells (scs l ++ R) (i * 5) (scs (l.drop (i + 1))) = scs (l.eraseIdx i) ++ (scs (l.drop (l.length - 1)) ++ R) := by
  have e1 : i * 5 + (scs (l.drop (i + 1))).length = (l.length - 1) * 5 := by rw [scs_len, List.length_drop]; omega
  unfold wrCells
  rw [e1, scs_take l R i (by omega), scs_drop l R _ (by omega), scs_app, ← List.eraseIdx_eq_take_drop_succ]
theorem del_two {l : List Sg} {R Z : List V} {n : Nat} (hn : n * 5 = (scs l).length) (hz : Z.length = 5) {X : List V} (hx : X.length = 5) : wrCells (scs l ++ (X ++ R)) (n * 5) Z = scs l ++ (Z ++ R) := by
  unfold wrCells
  rw [hn, hz, List.take_left, ← List.drop_drop, List.drop_left, ← hx, List.drop_left, List.append_assoc]
theorem chunk_m {l : List Sg} {R : List V} {i n o : Nat} (hn : n = l.length) (hi : i < n) (ho : n - (i + 1) = 0 ∨ o = (i + 1) * 5) :
    ∃ m, chunks 5 (n - (i + 1)) ((scs l ++ R).drop o) = m ∧ m.length = n - (i + 1) ∧ m.flatten = scs (l.drop (i + 1)) := by
  refine ⟨_, rfl, ?_⟩
  by_cases h0 : n - (i + 1) = 0
  · rw [h0, show l.drop (i + 1) = [] from List.drop_eq_nil_of_le (by omega)]; exact ⟨rfl, rfl⟩
  · rw [ho.resolve_left h0, scs_drop l R _ (by omega)]
    have hl : (n - (i + 1)) * 5 = (scs (l.drop (i + 1))).length := by rw [scs_len, List.length_drop]; omega
    obtain ⟨c1, _, c3⟩ := chunks_len 5 (n - (i + 1)) (scs (l.drop (i + 1)) ++ R) (by rw [List.length_append]; omega)
    refine ⟨c1, ?_⟩
    rw [c3, hl, List.take_left]
theorem del_fin {l : List Sg} {R Z : List V} {i n : Nat} (hn : n = l.length) (hi : i < l.length) (hz : Z.length = 5) : wrCells (wrCells (scs l ++ R) (i * 5) (scs (l.drop (i + 1)))) ((n - 1) * 5) Z = scs (l.eraseIdx i) ++ (Z ++ R) := by
  rw [del_one hi]
  exact del_two (by rw [scs_len, List.length_eraseIdx_of_lt hi]; omega) hz (by rw [scs_len, List.length_drop]; omega)
theorem del_g {bl i n cap : Nat} {l : List Sg} {R : List V} {h : Heap} (hb : h bl = some (.cells (scs l ++ R))) (hn : n = l.length) (hc : n ≤ cap) (hR : cap * 5 ≤ (scs l ++ R).length) (h1000 : l.length < 1000) (hi : i < l.length) :
    CallW Tryz.prog 124 [.sref 5 bl 0 n cap, .int .i64 i, .int .i64 (i + 1 : Nat)] h fun r' h' => ∃ R', r' = .sref 5 bl 0 (n - 1) cap ∧ h' = h.upd bl (.cells (scs (l.eraseIdx i) ++ R')) ∧ R'.length = R.length + 5 := by
  have hcs : cellsAt h bl = scs l ++ R := cellsAt_eq hb
  have hln : (scs l ++ R).length = 5 * l.length + R.length := by rw [List.length_append, scs_len]
  have hel : (scs (l.eraseIdx i)).length = (n - 1) * 5 := by rw [scs_len, List.length_eraseIdx_of_lt hi]; omega
  have hb0 : cap.beq 0 = false := by rw [Bool.eq_false_iff]; intro q; have := Nat.eq_of_beq_eq_true q; omega
  refine c124 rfl ?_
  obtain ⟨ob, hbi, ho⟩ : ∃ ob, cap.beq (i + 1) = ob ∧ (n - (i + 1) = 0 ∨ ob = false) := by
    refine ⟨_, rfl, ?_⟩
    by_cases q : cap = i + 1
    · exact .inl (by omega)
    · exact .inr (by rw [Bool.eq_false_iff]; intro q2; exact q (Nat.eq_of_beq_eq_true q2))
  obtain ⟨m, hm, m1, m2⟩ := chunk_m (R := R) (o := if ob = true then 0 else 0 + (i + 1) * 5) hn (by omega : i < n) (ho.imp_right fun q => by rw [q]; simp)
  repeat' (first | ((with_reducible apply Nx.mk); conv => whnf) | ((with_reducible first | apply brS_i | apply spB_i) <;> intro c <;> (try exact absurd c (by decide)) <;> (try simp only [decide_eq_true_eq, decide_eq_false_iff_not, beq_iff_eq, bne_iff_ne, Bool.not_eq_true', Bool.not_eq_false', beq_eq_false_iff_ne, Bool.not_true, Bool.not_false, reduceCtorEq, ne_eq, bne_eq_false_iff_eq, Int.not_lt, Int.not_le, Decidable.not_not] at c) <;> (try (exfalso; omega))) | ((with_reducible apply Part.i); (next => first | with_reducible exact cast_ofNat _ | with_reducible rfl | fail); (next => first | with_reducible rfl | fail); (next => omega); (next => first | omega | fail); (next => first | rfl | fail)) | ((with_reducible apply Plan.i); (next => kernel_rfl); (next => kernel_rfl)) | with_reducible apply And.intro | omega | fail)
  · rw [hcs, hln, hbi]
    rcases ho with q | q
    · exact .inl q
    · subst q; exact .inr (by simp only; omega)
  conv => whnf
  rw [hbi, hcs]
  have hm' : ∀ x, x = m → x = m := fun _ q => q
  generalize hx : chunks 5 (n - (i + 1)) _ = x
  obtain rfl : x = m := by rw [← hx, ← hm]; cases ob <;> rfl
  simp only [hb0, Nat.sub_zero, hcs]
  refine ⟨by unfold mostLen; omega, .inr (by rw [hln]; omega), fun _ => by rw [hln]; omega, fun hz => ?_, fun hp l' off' cap' h' ap => ?_⟩
  · have hi1 : n = i + 1 := by have := congrArg List.length hz; simp only [List.length_nil] at this; omega
    have hbj : cap.beq i = false := by rw [Bool.eq_false_iff]; intro q; have := Nat.eq_of_beq_eq_true q; omega
    repeat' (first | ((with_reducible apply Nx.mk); conv => whnf) | ((with_reducible apply Part.i); (next => first | with_reducible rfl | fail); (next => first | with_reducible rfl | fail); (next => omega); (next => first | omega | fail); (next => first | rfl | fail)) | with_reducible apply And.intro | exact Nat.le_of_ble_eq_true rfl | fail)
    · rw [hbj, hcs, hln]; simp only; omega
    · rw [hcs]; exact hb
    · have hf := del_fin (R := R) (Z := [.int .i64 0, .int .u64 0, .bool false, .int .u64 0, .int .u64 0]) hn hi rfl
      rw [← m2, hz, List.flatten_nil, show wrCells (scs l ++ R) (i * 5) [] = scs l ++ R from by simp [wrCells]] at hf
      rw [hbj, hcs]
      refine Js.Fin.mk ⟨[.int .i64 0, .int .u64 0, .bool false, .int .u64 0, .int .u64 0] ++ R, by rw [hi1]; rfl, ?_, ?_⟩
      · congr 2
        rw [← hf]
        congr 1
        · simp only; omega
        · rw [hi1, Nat.add_sub_cancel_left]; rfl
      · simp
  · rcases ap with ⟨_, rfl, rfl, rfl, rfl⟩ | ⟨c2, _⟩
    · have hbj : cap'.beq (i + x.length) = false := by rw [Bool.eq_false_iff]; intro q; have := Nat.eq_of_beq_eq_true q; omega
      have hce : cellsAt (h.upd l' (.cells (wrCells (cellsAt h l') (0 + 0 * 5 + i * 5) x.flatten))) l' = wrCells (cellsAt h l') (0 + 0 * 5 + i * 5) x.flatten := cellsAt_eq (hp_same _ _ _)
      have hwl : (wrCells (scs l ++ R) (0 + 0 * 5 + i * 5) x.flatten).length = (scs l ++ R).length := by
        rw [m2]; unfold wrCells; simp only [List.length_append, List.length_take, List.length_drop, scs_len]; omega
      repeat' (first | ((with_reducible apply Nx.mk); conv => whnf) | ((with_reducible apply Part.i); (next => first | with_reducible rfl | fail); (next => first | with_reducible rfl | fail); (next => omega); (next => first | omega | fail); (next => first | rfl | fail)) | with_reducible apply And.intro | exact Nat.le_of_ble_eq_true rfl | fail)
      · rw [hbj, hce, hcs, hwl, hln]; simp only; omega
      · rw [hce]; exact hp_same _ _ _
      · have hf := del_fin (R := R) (Z := [.int .i64 0, .int .u64 0, .bool false, .int .u64 0, .int .u64 0]) hn hi rfl
        rw [hbj, hce, hcs, m2]
        refine Js.Fin.mk ⟨[.int .i64 0, .int .u64 0, .bool false, .int .u64 0, .int .u64 0] ++ R, by rw [m1]; congr 1; omega, ?_, ?_⟩
        · rw [upd_upd]
          congr 2
          rw [← hf]
          congr 1
          · congr 1; omega
          · simp only; omega
          · rw [m1, show n - (i + (n - (i + 1))) = 1 from by omega]; rfl
        · simp
    · omega
end J
end

section
/- Journals: a disk, a log, segments. -/
namespace J
open Go Go.Proofs Jb Js
set_option maxRecDepth 100000
set_option maxHeartbeats 4000000


theorem c116 {args : List V} {h : Heap} {K : V → Heap → Prop} (hn : Nat.ble args.length Tryz.f116.ntmps = true) (e : Nx (bodyS Tryz.prog ⟨[], [], false⟩ Tryz.f116 args h K)) : CallW Tryz.prog 116 args h K := CallW.go mix _ Tryz.func116 (Nat.le_of_ble_eq_true hn) rfl e
theorem n116 : enters Tryz.prog 116 = true := by kernel_rfl
theorem c55 {args : List V} {h : Heap} {K : V → Heap → Prop} (hn : Nat.ble args.length Tryz.f55.ntmps = true) (e : Nx (bodyS Tryz.prog ⟨[], [], false⟩ Tryz.f55 args h K)) : CallW Tryz.prog 55 args h K := CallW.go mix _ Tryz.func55 (Nat.le_of_ble_eq_true hn) rfl e
theorem n55 : enters Tryz.prog 55 = true := by kernel_rfl
theorem c100 {args : List V} {h : Heap} {K : V → Heap → Prop} (hn : Nat.ble args.length Tryz.f100.ntmps = true) (e : Nx (bodyS Tryz.prog ⟨[], [], false⟩ Tryz.f100 args h K)) : CallW Tryz.prog 100 args h K := CallW.go mix _ Tryz.func100 (Nat.le_of_ble_eq_true hn) rfl e
theorem n100 : enters Tryz.prog 100 = true := by kernel_rfl
theorem c59 {args : List V} {h : Heap} {K : V → Heap → Prop} (hn : Nat.ble args.length Tryz.f59.ntmps = true) (e : Nx (bodyS Tryz.prog ⟨[], [], false⟩ Tryz.f59 args h K)) : CallW Tryz.prog 59 args h K := CallW.go mix _ Tryz.func59 (Nat.le_of_ble_eq_true hn) rfl e
theorem n59 : enters Tryz.prog 59 = true := by kernel_rfl
theorem i59 {args : List V} {h : Heap} {K : V → Heap → Prop} (hn : Nat.ble args.length Tryz.f59.ntmps = true) (e : Nx (bodyS Tryz.prog ⟨[], [], false⟩ Tryz.f59 args h K)) : CallS Tryz.prog 59 args h K := ⟨AnyW.call n59 (c59 hn e)⟩
def SV (h : Heap) (j d : Nat) (S : List Sg) (sv : V) : Prop :=
  (S = [] ∧ sv = .sl 5 [] .full) ∨ ∃ bl cap R, sv = .sref 5 bl 0 S.length cap ∧ h bl = some (.cells (scs S ++ R)) ∧ S.length ≤ cap ∧ cap * 5 ≤ (scs S ++ R).length ∧ bl ≠ j ∧ bl ≠ d
structure JI where
  fi : Nat
  mn : Nat
  ec : Nat
  E : Ent
  L : List Ent
structure JS (h : Heap) (j d : Nat) (F : List FG) (a : Arm) (I : JI) (gl : G) (S : List Sg) (sv : V) (br : Bool) : Prop where
  dk : Dk h d F a
  at' : h j = some (.cells [.ptr d 0, .int .i64 I.fi, .int .i64 I.mn, .int .i64 I.ec, .int .u64 I.E.ix, .int .u64 I.E.tm, .sl 1 [] .full, .sl 3 (es I.L) gl, sv, .bool br])
  slot : ∀ s, gl = .own s → h s = some (.grow 3 I.L.length)
  yes : gl ≠ .no
  seg : SV h j d S sv
  jd : j ≠ d
theorem JS.disk {h h2 : Heap} {j d : Nat} {F F2 : List FG} {a a2 : Arm} {I : JI} {gl : G} {S : List Sg} {sv : V} {br : Bool} (J : JS h j d F a I gl S sv br) (D : Dk h2 d F2 a2) (k : Dp d h F h2 F2) : JS h2 j d F2 a2 I gl S sv br := by
  have cell : ∀ x cs, x ≠ d → h x = some (.cells cs) → h2 x = some (.cells cs) := fun x cs hx e => k.keep x _ hx (fun i q => by rw [J.dk.slot i x q] at e; cases e) e
  refine ⟨D, cell j _ J.jd J.at', fun s e => ?_, J.yes, ?_, J.jd⟩
  · have q := J.slot s e
    refine k.keep s _ (by rintro rfl; rw [J.dk.at'] at q; cases q) (fun i q2 => ?_) q
    have := J.dk.slot i s q2
    rw [q] at this
    simp at this
  · rcases J.seg with q | ⟨bl, cap, R, q1, q2, q3, q4, q5, q6⟩
    · exact .inl q
    · exact .inr ⟨bl, cap, R, q1, cell bl _ q6 q2, q3, q4, q5, q6⟩
theorem Dk.other {h : Heap} {j d : Nat} {F : List FG} {a : Arm} {cs cs2 : List V} (D : Dk h d F a) (hj : h j = some (.cells cs)) (hd : j ≠ d) : Dk (h.upd j (.cells cs2)) d F a :=
  ⟨hp_ne (Ne.symm hd) D.at', D.len, fun i s e => hp_ne (by rintro rfl; have := D.slot i s e; rw [hj] at this; cases this) (D.slot i s e), D.yes, D.one, D.few, D.syn, D.cnt⟩
theorem JS.setbr {h : Heap} {j d : Nat} {F : List FG} {a : Arm} {I : JI} {gl : G} {S : List Sg} {sv : V} {br : Bool} (J : JS h j d F a I gl S sv br) (b2 : Bool) :
    JS (h.upd j (.cells [.ptr d 0, .int .i64 I.fi, .int .i64 I.mn, .int .i64 I.ec, .int .u64 I.E.ix, .int .u64 I.E.tm, .sl 1 [] .full, .sl 3 (es I.L) gl, sv, .bool b2])) j d F a I gl S sv b2 := by
  refine ⟨J.dk.other J.at' J.jd, hp_same _ _ _, fun s e => hp_ne (by rintro rfl; have := J.slot s e; rw [J.at'] at this; cases this) (J.slot s e), J.yes, ?_, J.jd⟩
  rcases J.seg with q | ⟨bl, cap, R, q1, q2, q3, q4, q5, q6⟩
  · exact .inl q
  · exact .inr ⟨bl, cap, R, q1, hp_ne q5 q2, q3, q4, q5, q6⟩
theorem JS.sub {h h' : Heap} {j d : Nat} {F : List FG} {a : Arm} {I : JI} {gl : G} {S : List Sg} {sv : V} {br : Bool} (J : JS h j d F a I gl S sv br) (s : h.Sub h') : JS h' j d F a I gl S sv br := by
  refine ⟨J.dk.sub s, s _ _ J.at', fun t e => s _ _ (J.slot t e), J.yes, ?_, J.jd⟩
  rcases J.seg with q | ⟨bl, cap, R, q1, q2, q3, q4, q5, q6⟩
  · exact .inl q
  · exact .inr ⟨bl, cap, R, q1, s _ _ q2, q3, q4, q5, q6⟩
def KC (j d : Nat) (h h2 : Heap) : Prop := ∀ x cs, x ≠ j → x ≠ d → h x = some (.cells cs) → h2 x = some (.cells cs)
theorem KC.trans {j d : Nat} {h h2 h3 : Heap} (a : KC j d h h2) (b : KC j d h2 h3) : KC j d h h3 := fun x cs h1 h2 e => b x cs h1 h2 (a x cs h1 h2 e)
theorem Dp.kc {h h2 : Heap} {j d : Nat} {F F2 : List FG} {a : Arm} (D : Dk h d F a) (k : Dp d h F h2 F2) : KC j d h h2 := fun x cs _ hd e => k.keep x _ hd (fun i q => by rw [D.slot i x q] at e; cases e) e
theorem done_k {h : Heap} {j d : Nat} {F : List FG} {a : Arm} {I : JI} {gl : G} {S : List Sg} {sv : V} {br : Bool} (e : Nat) (J : JS h j d F a I gl S sv br) :
    CallW Tryz.prog 116 [.ptr j 0, .int .i64 e] h fun r' h' => r' = .bool (e == 0) ∧ JS h' j d F a I gl S sv (br || e != 0) ∧ KC j d h h' := by
  refine c116 rfl ?_
  repeat' (first | ((with_reducible apply Nx.mk); conv => whnf) | ((with_reducible apply RdC.i); (next => ((repeat (first | exact JS.at' (by with_reducible assumption) | fail)); (first | done | fail))); (next => first | rfl | fail)) | ((with_reducible apply RdH.i); (next => ((repeat (first | exact JS.at' (by with_reducible assumption) | fail)); (first | done | fail)))) | ((with_reducible first | apply brS_i | apply spB_i) <;> intro c <;> (try exact absurd c (by decide)) <;> (try simp only [decide_eq_true_eq, decide_eq_false_iff_not, beq_iff_eq, bne_iff_ne, Bool.not_eq_true', Bool.not_eq_false', beq_eq_false_iff_ne, Bool.not_true, Bool.not_false, reduceCtorEq, ne_eq, bne_eq_false_iff_eq, Int.not_lt, Int.not_le, Decidable.not_not] at c) <;> (try (exfalso; omega))) | ((with_reducible apply Up.i); (next => first | rfl | fail)) | with_reducible intro _ | fail)
  all_goals rw [show ((e : Int) == 0) = (e == 0) from by rw [Bool.eq_iff_iff, beq_iff_eq, beq_iff_eq]; omega]
  · rw [c, Bool.true_or]
    exact Js.Fin.mk ⟨rfl, J.setbr true, fun x cs hx _ q => hp_ne hx q⟩
  · rw [c, Bool.false_or, show ((e : Int) != 0) = (e != 0) from by rw [Bool.eq_iff_iff, bne_iff_ne, bne_iff_ne]; omega]
    exact Js.Fin.mk ⟨rfl, J.setbr (e != 0), fun x cs hx _ q => hp_ne hx q⟩
theorem done_c {h : Heap} {j d : Nat} {F : List FG} {a : Arm} {I : JI} {gl : G} {S : List Sg} {sv : V} {br : Bool} (e : Nat) (J : JS h j d F a I gl S sv br) :
    CallW Tryz.prog 116 [.ptr j 0, .int .i64 e] h fun r' h' => r' = .bool (e == 0) ∧ JS h' j d F a I gl S sv (br || e != 0) :=
  (done_k e J).mono fun _ _ q => ⟨q.1, q.2.1⟩
structure DB where
  F : List FG
  a : Arm
  br : Bool
def doneB (o : List FG × Arm × Nat) (br : Bool) : DB := ⟨o.1, o.2.1, br || o.2.2 != 0⟩
theorem blow_calls (a : Arm) : (blowA a).2.calls = a.calls + 1 := by unfold blowA; split <;> rfl
theorem drp_calls (F : List FG) (a : Arm) (i : Nat) : (drpO F a i).2.1.calls ≤ a.calls + 1 := by unfold drpO; split <;> (try split) <;> simp only [blow_calls] <;> omega
theorem cut_calls (F : List FG) (a : Arm) (i n : Nat) : (cutO F a i n).2.1.calls ≤ a.calls + 1 := by unfold cutO; split <;> (try split) <;> simp only [blow_calls] <;> omega
theorem syn_calls (F : List FG) (a : Arm) (i : Nat) : (synO F a i).2.1.calls ≤ a.calls + 1 := by unfold synO; split <;> (try split) <;> simp only [blow_calls] <;> omega
theorem app_calls (F : List FG) (a : Arm) (i : Nat) (b : List UInt8) (g : G) : (appO F a i b g).2.1.calls ≤ a.calls + 1 := by unfold appO; split <;> (try split) <;> simp only [blow_calls] <;> omega
def tidyO (s : DB) (n : Nat) (b : List UInt8) (used : Bool) : DB :=
  if s.br = true ∨ b.length = 0 then s
  else if used = false then doneB (drpO s.F s.a n) s.br
  else if endAt b < b.length then
    if (cutO s.F s.a n (endAt b)).2.2 = 0 then doneB (synO (cutO s.F s.a n (endAt b)).1 (cutO s.F s.a n (endAt b)).2.1 n) (doneB (cutO s.F s.a n (endAt b)) s.br).br
    else doneB (cutO s.F s.a n (endAt b)) s.br
  else doneB (synO s.F s.a n) s.br
abbrev JD (h : Heap) (j d : Nat) (s : DB) (I : JI) (gl : G) (S : List Sg) (sv : V) : Prop := JS h j d s.F s.a I gl S sv s.br
theorem tidy_n {br : Bool} {n : Nat} (h : br = false) (h2 : n ≠ 0) : ¬ (br = true ∨ n = 0) := by simp [h, h2]
theorem used_n {u : Bool} (h : u = true) : ¬ u = false := by simp [h]
theorem tidy_k {h : Heap} {j d n : Nat} {s : DB} {I : JI} {gl : G} {S : List Sg} {sv : V} (b : List UInt8) (g0 : G) (used : Bool) (J : JD h j d s I gl S sv) (hn : n < 32) (hb : b.length < 4294967200) (he : used = true → endAt b ≤ (fg s.F n).b.length) (hc : s.a.calls + 2 < 1000000000000) :
    CallW Tryz.prog 55 [.ptr j 0, .int .i64 n, .sl 1 (bs b) g0, .bool used] h fun r' h' => r' = .tup [] ∧ JD h' j d (tidyO s n b used) I gl S sv ∧ KC j d h h' := by
  have q1 := cut_calls s.F s.a n (endAt b)
  refine c55 rfl ?_
  repeat' (first | ((with_reducible apply Nx.mk); conv => whnf) | ((with_reducible apply RdC.i); (next => ((repeat (first | exact JS.at' (by with_reducible assumption) | fail)); (first | done | fail))); (next => first | rfl | fail)) | ((with_reducible first | apply brS_i | apply spB_i) <;> intro c <;> (try exact absurd c (by decide)) <;> (try simp only [decide_eq_true_eq, decide_eq_false_iff_not, beq_iff_eq, bne_iff_ne, Bool.not_eq_true', Bool.not_eq_false', beq_eq_false_iff_ne, Bool.not_true, Bool.not_false, reduceCtorEq, ne_eq, bne_eq_false_iff_eq, Int.not_lt, Int.not_le, Decidable.not_not] at c) <;> (try (exfalso; omega))) | ((with_reducible apply Nm.i); (next => first | with_reducible exact bs_len _ | fail)) | ((with_reducible apply HN.i); (next => first | rfl | fail)) | refine CallS.gives n118 (end_P _ _ (by omega)) ?_ | (refine CallS.by' n117 (drp_c J.dk hn (by omega)) ?_; rintro r' h2 ⟨rfl, D2, k2⟩; have J2 := J.disk D2 k2; have K2 := Dp.kc (j := j) J.dk k2) | (refine CallS.by' n119 (cut_d J.dk hn (by omega) (he (by assumption))) ?_; rintro r' h4 ⟨rfl, D4, k4⟩; have J4 := J.disk D4 k4; have K4 := Dp.kc (j := j) J.dk k4) | (refine CallS.by' n120 (syn_c J5.dk hn (by omega)) ?_; rintro r' h6 ⟨rfl, D6, k6⟩; have J6 := J5.disk D6 k6; have K6 := (K4.trans K5).trans (Dp.kc (j := j) J5.dk k6)) | (refine CallS.by' n120 (syn_c J.dk hn (by omega)) ?_; rintro r' h6 ⟨rfl, D6, k6⟩; have J6 := J.disk D6 k6; have K6 := Dp.kc (j := j) J.dk k6) | (refine CallS.by' n116 (done_k _ J2) ?_; rintro r' h3 ⟨rfl, J3, K3⟩) | (refine CallS.by' n116 (done_k _ J4) ?_; rintro r' h5 ⟨rfl, J5, K5⟩) | (refine CallS.by' n116 (done_k _ J6) ?_; rintro r' h7 ⟨rfl, J7, K7⟩) | with_reducible intro _ | fail)
  · have e : tidyO s n b used = s := if_pos (.inl (by assumption))
    rw [e]; exact Js.Fin.mk ⟨rfl, J, fun _ _ _ _ q => q⟩
  · have e : tidyO s n b used = s := if_pos (.inr (by omega))
    rw [e]; exact Js.Fin.mk ⟨rfl, J, fun _ _ _ _ q => q⟩
  all_goals have n1 : ¬ (s.br = true ∨ b.length = 0) := tidy_n (by assumption) (by omega)
  · have e : tidyO s n b used = doneB (drpO s.F s.a n) s.br := by unfold tidyO; rw [if_neg n1, if_pos c]
    rw [e]; exact Js.Fin.mk ⟨rfl, J3, K2.trans K3⟩
  all_goals have n2 : ¬ used = false := used_n (by assumption)
  · have e : tidyO s n b used = doneB (cutO s.F s.a n (endAt b)) s.br := by unfold tidyO; rw [if_neg n1, if_neg n2, if_pos (by omega), if_neg c]
    rw [e]; exact Js.Fin.mk ⟨rfl, J5, K4.trans K5⟩
  · have e : tidyO s n b used = doneB (synO (cutO s.F s.a n (endAt b)).1 (cutO s.F s.a n (endAt b)).2.1 n) (doneB (cutO s.F s.a n (endAt b)) s.br).br := by unfold tidyO; rw [if_neg n1, if_neg n2, if_pos (by omega), if_pos c]
    rw [e]; exact Js.Fin.mk ⟨rfl, J7, K6.trans K7⟩
  · have e : tidyO s n b used = doneB (synO s.F s.a n) s.br := by unfold tidyO; rw [if_neg n1, if_neg n2, if_neg (by omega)]
    rw [e]; exact Js.Fin.mk ⟨rfl, J7, K6.trans K7⟩
def writeO (s : DB) (n : Nat) (b : List UInt8) (g : G) : DB :=
  if (appO s.F s.a n b g).2.2 = 0 then doneB (synO (appO s.F s.a n b g).1 (appO s.F s.a n b g).2.1 n) (doneB (appO s.F s.a n b g) s.br).br else doneB (appO s.F s.a n b g) s.br
def writeE (s : DB) (n : Nat) (b : List UInt8) (g : G) : Bool :=
  (appO s.F s.a n b g).2.2 == 0 && (synO (appO s.F s.a n b g).1 (appO s.F s.a n b g).2.1 n).2.2 == 0
theorem write_c {h : Heap} {j d n : Nat} {s : DB} {I : JI} {gl : G} {S : List Sg} {sv : V} (b : List UInt8) (g0 : G) (J : JD h j d s I gl S sv) (hn : n < 32) (hb : b.length < 4294967200) (hc : s.a.calls + 2 < 1000000000000) :
    CallW Tryz.prog 100 [.ptr j 0, .int .i64 n, .sl 1 (bs b) g0] h fun r' h' => ∃ g, r' = .bool (writeE s n b g) ∧ JD h' j d (writeO s n b g) I gl S sv := by
  have q1 := fun g => app_calls s.F s.a n b g
  refine c100 rfl ?_
  repeat' (first | ((with_reducible apply Nx.mk); conv => whnf) | ((with_reducible apply RdC.i); (next => ((repeat (first | exact JS.at' (by with_reducible assumption) | fail)); (first | done | fail))); (next => first | rfl | fail)) | ((with_reducible first | apply brS_i | apply spB_i) <;> intro c <;> (try exact absurd c (by decide)) <;> (try simp only [decide_eq_true_eq, decide_eq_false_iff_not, beq_iff_eq, bne_iff_ne, Bool.not_eq_true', Bool.not_eq_false', beq_eq_false_iff_ne, Bool.not_true, Bool.not_false, reduceCtorEq, ne_eq, bne_eq_false_iff_eq, Int.not_lt, Int.not_le, Decidable.not_not] at c) <;> (try (exfalso; omega))) | (refine CallS.by' n17 (app_c b _ J.dk hn (by omega) (by omega)) ?_; rintro r' h2 ⟨g2, rfl, D2, k2⟩; have J2 := J.disk D2 k2; have q2 := q1 g2) | (refine CallS.by' n120 (syn_c J3.dk hn (by omega)) ?_; rintro r' h4 ⟨rfl, D4, k4⟩; have J4 := J3.disk D4 k4) | (refine CallS.by' n116 (done_c _ J4) ?_; rintro r' h5 ⟨rfl, J5⟩) | (refine CallS.by' n116 (done_c _ J2) ?_; rintro r' h3 ⟨rfl, J3⟩) | with_reducible intro _ | fail)
  · have e : writeO s n b g2 = doneB (synO (appO s.F s.a n b g2).1 (appO s.F s.a n b g2).2.1 n) (doneB (appO s.F s.a n b g2) s.br).br := if_pos c
    refine Js.Fin.mk ⟨g2, ?_, by rw [e]; exact J5⟩
    unfold writeE; rw [c]; rfl
  · have e : writeO s n b g2 = doneB (appO s.F s.a n b g2) s.br := if_neg c
    refine Js.Fin.mk ⟨g2, ?_, by rw [e]; exact J3⟩
    unfold writeE; rw [show ((appO s.F s.a n b g2).2.2 == 0) = false from beq_eq_false_iff_ne.2 c]; rfl
theorem c123 {args : List V} {h : Heap} {K : V → Heap → Prop} (hn : Nat.ble args.length Tryz.f123.ntmps = true) (e : Nx (bodyS Tryz.prog ⟨[999999], [(0, [3, 50], []), (1, [3, 19, 1, 30], []), (2, [3, 50], []), (4, [3, 50], [])], false⟩ Tryz.f123 args h K)) : CallW Tryz.prog 123 args h K := CallW.go mix _ Tryz.func123 (Nat.le_of_ble_eq_true hn) rfl e
theorem n123 : enters Tryz.prog 123 = true := by kernel_rfl
theorem sg_f {l : List Sg} {R : List V} {i : Nat} (h : i < l.length) : (scs l ++ R)[0 + i * 5 + 0]? = some (.int .i64 (sga l i).file) := by rw [Nat.zero_add]; exact scs_at h (by decide)
theorem sg_n {l : List Sg} {R : List V} {i : Nat} (h : i < l.length) : (scs l ++ R)[0 + i * 5 + 1 + 1]? = some (.bool (sga l i).new) := by rw [Nat.zero_add]; exact scs_at (k := 2) h (by decide)
theorem sg_i {l : List Sg} {R : List V} {i : Nat} (h : i < l.length) : (scs l ++ R)[0 + i * 5 + 1 + 2]? = some (.int .u64 (sga l i).ix) := by rw [Nat.zero_add]; exact scs_at (k := 3) h (by decide)
theorem JS.setseg {h : Heap} {j d bl cap : Nat} {F : List FG} {a : Arm} {I : JI} {gl : G} {S S2 : List Sg} {R R2 : List V} {sv : V} {br : Bool} (J : JS h j d F a I gl S sv br) (hb : h bl = some (.cells (scs S ++ R))) (n3 : bl ≠ j) (n4 : bl ≠ d) (n1 : S2.length ≤ cap) (n2 : cap * 5 ≤ (scs S2 ++ R2).length) :
    JS ((h.upd bl (.cells (scs S2 ++ R2))).upd j (.cells [.ptr d 0, .int .i64 I.fi, .int .i64 I.mn, .int .i64 I.ec, .int .u64 I.E.ix, .int .u64 I.E.tm, .sl 1 [] .full, .sl 3 (es I.L) gl, .sref 5 bl 0 S2.length cap, .bool br])) j d F a I gl S2 (.sref 5 bl 0 S2.length cap) br := by
  refine ⟨(J.dk.other hb n4).other (hp_ne (Ne.symm n3) J.at') J.jd, hp_same _ _ _, fun s e => ?_, J.yes, .inr ⟨bl, cap, R2, rfl, hp_ne n3 (hp_same _ _ _), n1, n2, n3, n4⟩, J.jd⟩
  have q := J.slot s e
  exact hp_ne (by rintro rfl; rw [J.at'] at q; cases q) (hp_ne (by rintro rfl; rw [hb] at q; cases q) q)
theorem JS.segs {h : Heap} {j d bl n cap : Nat} {F : List FG} {a : Arm} {I : JI} {gl : G} {S : List Sg} {br : Bool} (J : JS h j d F a I gl S (.sref 5 bl 0 n cap) br) : ∃ R, n = S.length ∧ h bl = some (.cells (scs S ++ R)) ∧ S.length ≤ cap ∧ cap * 5 ≤ (scs S ++ R).length ∧ bl ≠ j ∧ bl ≠ d := by
  rcases J.seg with ⟨_, q⟩ | ⟨bl', cap', R, q1, q2, q3, q4, q5, q6⟩
  · cases q
  · cases q1; exact ⟨R, rfl, q2, q3, q4, q5, q6⟩
theorem sga_mem {S : List Sg} {i : Nat} (h : i < S.length) : sga S i ∈ S := by simp [sga, h]
def lastN (S : List Sg) : Nat → Nat
  | 0 => 0
  | k + 1 => if (sga S (k + 1)).new = true then k + 1 else lastN S k
theorem lastN_le (S : List Sg) : ∀ k, lastN S k ≤ k
  | 0 => Nat.le_refl _
  | k + 1 => by
    have := lastN_le S k
    unfold lastN; split <;> omega
def begO : Nat → DB → List Sg → DB × List Sg
  | 0, s, S => (s, S)
  | k + 1, s, S => if (drpO s.F s.a (sga S 0).file).2.2 = 0 then begO k (doneB (drpO s.F s.a (sga S 0).file) s.br) (S.eraseIdx 0) else (doneB (drpO s.F s.a (sga S 0).file) s.br, S)
theorem begO_go (k : Nat) (s : DB) (S : List Sg) : begO (k + 1) s S = if (drpO s.F s.a (sga S 0).file).2.2 = 0 then begO k (doneB (drpO s.F s.a (sga S 0).file) s.br) (S.eraseIdx 0) else (doneB (drpO s.F s.a (sga S 0).file) s.br, S) := rfl
theorem begun_c {h : Heap} {j d : Nat} {s : DB} {I : JI} {gl : G} {S : List Sg} {sv : V} (J : JD h j d s I gl S sv) (hc : s.a.calls + S.length < 900000000000) (hS : ∀ x ∈ S, x.file < 32) (h1000 : S.length < 1000) :
    CallW Tryz.prog 123 [.ptr j 0] h fun r' h' => r' = .tup [] ∧ ∃ sv', JD h' j d (begO (lastN S (S.length - 1)) s S).1 I gl (begO (lastN S (S.length - 1)) s S).2 sv' := by
  refine c123 rfl ?_
  rcases J.seg with ⟨rfl, rfl⟩ | ⟨bl, cap, R, rfl, hb, n1, n2, n3, n4⟩
  · repeat' (first | ((with_reducible apply Nx.mk); conv => whnf) | ((with_reducible apply RdC.i); (next => ((repeat (first | exact JS.at' (by with_reducible assumption) | fail)); (first | done | fail))); (next => first | rfl | fail)) | ((with_reducible apply Nm.i); (next => first | with_reducible exact List.length_nil | fail)) | ((with_reducible apply Wr.i); (next => first | exact wrap_i64 (by omega) (by omega) | fail)) | fail)
    refine loopS (σ := Unit) (fun _ => frm 53 [(0, .ptr j 0), (2, .int .i64 (-1))]) (fun _ => []) (fun _ => 0) (fun _ h' => h' = h) () rfl rfl ?_
    rintro ⟨⟩ h' rfl
    repeat' (first | ((with_reducible apply Nx.mk); conv => whnf) | ((with_reducible first | apply brS_i | apply spB_i) <;> intro c <;> (try exact absurd c (by decide)) <;> (try simp only [decide_eq_true_eq, decide_eq_false_iff_not, beq_iff_eq, bne_iff_ne, Bool.not_eq_true', Bool.not_eq_false', beq_eq_false_iff_ne, Bool.not_true, Bool.not_false, reduceCtorEq, ne_eq, bne_eq_false_iff_eq, Int.not_lt, Int.not_le, Decidable.not_not] at c) <;> (try (exfalso; omega))) | with_reducible intro _ | fail)
    refine loopS (σ := Unit) (fun _ => frm 53 [(0, .ptr j 0), (2, .int .i64 (-1)), (22, .bool false)]) (fun _ => []) (fun _ => 0) (fun _ h2 => h2 = h') () rfl rfl ?_
    rintro ⟨⟩ h2 rfl
    repeat' (first | ((with_reducible apply Nx.mk); conv => whnf) | ((with_reducible first | apply brS_i | apply spB_i) <;> intro c <;> (try exact absurd c (by decide)) <;> (try simp only [decide_eq_true_eq, decide_eq_false_iff_not, beq_iff_eq, bne_iff_ne, Bool.not_eq_true', Bool.not_eq_false', beq_eq_false_iff_ne, Bool.not_true, Bool.not_false, reduceCtorEq, ne_eq, bne_eq_false_iff_eq, Int.not_lt, Int.not_le, Decidable.not_not] at c) <;> (try (exfalso; omega))) | ((with_reducible apply Plan.i); (next => kernel_rfl); (next => kernel_rfl)) | with_reducible intro _ | fail)
    exact Js.Fin.mk ⟨rfl, _, J⟩
  · by_cases h0 : S.length = 0
    · have : S = [] := List.length_eq_zero_iff.1 h0
      subst this
      repeat' (first | ((with_reducible apply Nx.mk); conv => whnf) | ((with_reducible apply RdC.i); (next => ((repeat (first | exact JS.at' (by with_reducible assumption) | fail)); (first | done | fail))); (next => first | rfl | fail)) | ((with_reducible apply Wr.i); (next => first | exact wrap_i64 (by omega) (by omega) | fail)) | fail)
      refine loopS (σ := Unit) (fun _ => frm 53 [(0, .ptr j 0), (2, .int .i64 (-1))]) (fun _ => []) (fun _ => 0) (fun _ h' => h' = h) () rfl rfl ?_
      rintro ⟨⟩ h' rfl
      repeat' (first | ((with_reducible apply Nx.mk); conv => whnf) | ((with_reducible first | apply brS_i | apply spB_i) <;> intro c <;> (try exact absurd c (by decide)) <;> (try simp only [decide_eq_true_eq, decide_eq_false_iff_not, beq_iff_eq, bne_iff_ne, Bool.not_eq_true', Bool.not_eq_false', beq_eq_false_iff_ne, Bool.not_true, Bool.not_false, reduceCtorEq, ne_eq, bne_eq_false_iff_eq, Int.not_lt, Int.not_le, Decidable.not_not] at c) <;> (try (exfalso; omega))) | with_reducible intro _ | fail)
      refine loopS (σ := Unit) (fun _ => frm 53 [(0, .ptr j 0), (2, .int .i64 (-1)), (22, .bool false)]) (fun _ => []) (fun _ => 0) (fun _ h2 => h2 = h') () rfl rfl ?_
      rintro ⟨⟩ h2 rfl
      repeat' (first | ((with_reducible apply Nx.mk); conv => whnf) | ((with_reducible first | apply brS_i | apply spB_i) <;> intro c <;> (try exact absurd c (by decide)) <;> (try simp only [decide_eq_true_eq, decide_eq_false_iff_not, beq_iff_eq, bne_iff_ne, Bool.not_eq_true', Bool.not_eq_false', beq_eq_false_iff_ne, Bool.not_true, Bool.not_false, reduceCtorEq, ne_eq, bne_eq_false_iff_eq, Int.not_lt, Int.not_le, Decidable.not_not] at c) <;> (try (exfalso; omega))) | ((with_reducible apply Plan.i); (next => kernel_rfl); (next => kernel_rfl)) | with_reducible intro _ | fail)
      exact Js.Fin.mk ⟨rfl, _, J⟩
    have hcap : 0 < cap := by omega
    repeat' (first | ((with_reducible apply Nx.mk); conv => whnf) | ((with_reducible apply RdC.i); (next => ((repeat (first | exact JS.at' (by with_reducible assumption) | fail)); (first | done | fail))); (next => first | rfl | fail)) | ((with_reducible apply Wr.i); (next => first | with_reducible exact wn_subl (by omega) (by omega) | fail)) | fail)
    refine loopS (σ := Nat) (fun k => frm 53 [(0, .ptr j 0), (2, .int .i64 k)]) (fun _ => []) (fun k => k)
      (fun k h' => h' = h ∧ k < S.length ∧ lastN S k = lastN S (S.length - 1)) (S.length - 1) rfl ⟨rfl, by omega, rfl⟩ ?_
    rintro k h' ⟨rfl, k1, k2⟩
    (try simp only at k1 k2 ⊢)
    repeat' (first | ((with_reducible apply Nx.mk); conv => whnf) | ((with_reducible apply RdC.i); (next => ((repeat (first | with_reducible assumption | exact JS.at' (by with_reducible assumption) | fail)); (first | done | fail))); (next => first | exact sg_n k1 | rfl | fail)) | ((with_reducible apply At.i); (next => first | with_reducible rfl | fail); (next => first | omega | fail)) | ((with_reducible first | apply brS_i | apply spB_i) <;> intro c <;> (try exact absurd c (by decide)) <;> (try simp only [decide_eq_true_eq, decide_eq_false_iff_not, beq_iff_eq, bne_iff_ne, Bool.not_eq_true', Bool.not_eq_false', beq_eq_false_iff_ne, Bool.not_true, Bool.not_false, reduceCtorEq, ne_eq, bne_eq_false_iff_eq, Int.not_lt, Int.not_le, Decidable.not_not] at c) <;> (try (exfalso; omega))) | ((with_reducible apply Wr.i); (next => first | with_reducible exact wn_subl (by omega) (by omega) | fail)) | with_reducible intro _ | fail)
    · refine Js.Fin.mk ⟨k - 1, rfl, ⟨rfl, by omega, ?_⟩, by omega⟩
      rw [← k2]
      obtain ⟨k, rfl⟩ : ∃ m, k = m + 1 := ⟨k - 1, by omega⟩
      rw [Nat.add_sub_cancel]
      conv => rhs; unfold lastN
      rw [if_neg (by simp_all)]
    all_goals have hk : lastN S (S.length - 1) = k := by rw [← k2]; cases k with | zero => rfl | succ k => first | (unfold lastN; rw [if_pos (by assumption)]) | omega
    all_goals rw [hk]
    all_goals (
      refine loopS (σ := Nat × DB × List Sg × V × V) (fun s => frm 53 [(0, .ptr j 0), (2, .int .i64 s.1), (22, s.2.2.2.2)]) (fun _ => []) (fun s => s.1)
        (fun t h2 => JD h2 j d t.2.1 I gl t.2.2.1 t.2.2.2.1 ∧ begO t.1 t.2.1 t.2.2.1 = begO k s S ∧ t.1 < t.2.2.1.length ∧ t.2.1.a.calls + t.2.2.1.length < 900000000000 ∧ t.2.2.1.length ≤ S.length ∧ ∀ x ∈ t.2.2.1, x.file < 32) (k, s, S, _, _) rfl ⟨J, rfl, k1, hc, Nat.le_refl _, hS⟩ ?_
      clear hb c k1 k2 hk n1 n2 n3 n4 J
      rintro ⟨k, s1, S1, sv1, x⟩ h1 ⟨J1, e1, l1, c1, m1, f1⟩
      simp only at J1 e1 l1 c1 m1 f1 ⊢
      rcases J1.seg with ⟨rfl, _⟩ | ⟨bl, cap, R, rfl, hb, n1, n2, n3, n4⟩
      · simp at l1
      have l0 : 0 < S1.length := by omega
      have q1 := drp_calls s1.F s1.a (sga S1 0).file
      repeat' (first | ((with_reducible apply Nx.mk); conv => whnf) | ((with_reducible apply RdC.i); (next => ((repeat (first | with_reducible assumption | exact JS.at' (by with_reducible assumption) | fail)); (first | done | fail))); (next => first | exact sg_f l0 | rfl | fail)) | ((with_reducible apply At.i); (next => first | with_reducible exact cast_ofNat _ | fail); (next => first | omega | fail)) | ((with_reducible apply RdH.i); (next => ((repeat (first | exact JS.at' (by with_reducible assumption) | refine hp_ne (by first | exact Ne.symm (by with_reducible assumption) | fail) ?_ | fail)); (first | done | fail)))) | ((with_reducible first | apply brS_i | apply spB_i) <;> intro c <;> (try exact absurd c (by decide)) <;> (try simp only [decide_eq_true_eq, decide_eq_false_iff_not, beq_iff_eq, bne_iff_ne, Bool.not_eq_true', Bool.not_eq_false', beq_eq_false_iff_ne, Bool.not_true, Bool.not_false, reduceCtorEq, ne_eq, bne_eq_false_iff_eq, Int.not_lt, Int.not_le, Decidable.not_not] at c) <;> (try (exfalso; omega))) | ((with_reducible apply Wr.i); (next => first | with_reducible exact wn_subl (by omega) (by omega) | fail)) | ((with_reducible apply Up.i); (next => first | rfl | fail)) | ((with_reducible apply Plan.i); (next => kernel_rfl); (next => kernel_rfl)) | refine (fV_i ?_) | (refine CallS.by' n117 (drp_c J1.dk (f1 _ (sga_mem l0)) (by omega)) ?_; rintro r' h2 ⟨rfl, D2, k2⟩; have J2 := J1.disk D2 k2) | (refine CallS.by' n116 (done_c _ J2) ?_; rintro r' h3 ⟨rfl, J3⟩; obtain ⟨R3, _, hb3, n31, n32, n33, n34⟩ := J3.segs) | (refine CallS.by' n124 (del_g (i := 0) hb3 rfl n31 n32 (by omega) (by omega)) ?_; rintro r' h4 ⟨R4, rfl, rfl, hR4⟩) | with_reducible intro _ | fail)
      · have q5 : (S1.eraseIdx 0).length = S1.length - 1 := List.length_eraseIdx_of_lt l0
        have J5 := J3.setseg (cap := cap) (S2 := S1.eraseIdx 0) (R2 := R4) hb3 n33 n34 (by omega) (by rw [List.length_append, scs_len] at n32 ⊢; omega)
        rw [q5] at J5
        refine Js.Fin.mk ⟨(k - 1, doneB (drpO s1.F s1.a (sga S1 0).file) s1.br, S1.eraseIdx 0, _, .undef), rfl, ⟨J5, ?_, by simp only; omega, by simp only [doneB]; omega, by simp only; omega, fun x hx => f1 x (List.mem_of_mem_eraseIdx hx)⟩, by simp only; omega⟩
        rw [← e1]
        obtain ⟨k, rfl⟩ : ∃ m, k = m + 1 := ⟨k - 1, by omega⟩
        rw [Nat.add_sub_cancel]
        rw [begO_go, if_pos (by assumption)]
      · obtain ⟨k, rfl⟩ : ∃ m, k = m + 1 := ⟨k - 1, by omega⟩
        rw [begO_go, if_neg (by assumption)] at e1
        rw [← e1]
        exact Js.Fin.mk ⟨rfl, _, J3⟩
      · obtain rfl : k = 0 := by omega
        rw [← e1]
        exact Js.Fin.mk ⟨rfl, _, J1⟩)
def idlO : Nat → DB → List Sg → DB × List Sg
  | 0, s, S => (s, S)
  | i + 1, s, S => if s.br = true then (s, S)
    else if (sga S (i + 1)).new = true ∨ (sga S (i + 1)).ix ≤ (sga S i).ix then
      (if (drpO s.F s.a (sga S i).file).2.2 = 0 then idlO i (doneB (drpO s.F s.a (sga S i).file) s.br) (S.eraseIdx i) else idlO i (doneB (drpO s.F s.a (sga S i).file) s.br) S)
    else idlO i s S
end J
end

section
/- Idle segments are dropped. -/
namespace J
open Go Go.Proofs Jb Js
set_option maxRecDepth 100000
set_option maxHeartbeats 4000000



theorem c58 {args : List V} {h : Heap} {K : V → Heap → Prop} (hn : Nat.ble args.length Tryz.f58.ntmps = true) (e : Nx (bodyS Tryz.prog ⟨[999999], [(2, [3, 77], []), (4, [3, 77], [])], false⟩ Tryz.f58 args h K)) : CallW Tryz.prog 58 args h K := CallW.go mix _ Tryz.func58 (Nat.le_of_ble_eq_true hn) rfl e
theorem n58 : enters Tryz.prog 58 = true := by kernel_rfl
theorem idlO_go (i : Nat) (s : DB) (S : List Sg) : idlO (i + 1) s S = if s.br = true then (s, S)
    else if (sga S (i + 1)).new = true ∨ (sga S (i + 1)).ix ≤ (sga S i).ix then
      (if (drpO s.F s.a (sga S i).file).2.2 = 0 then idlO i (doneB (drpO s.F s.a (sga S i).file) s.br) (S.eraseIdx i) else idlO i (doneB (drpO s.F s.a (sga S i).file) s.br) S)
    else idlO i s S := rfl
def idleO (s : DB) (S : List Sg) : DB × List Sg :=
  if (begO (lastN S (S.length - 1)) s S).1.br = true then begO (lastN S (S.length - 1)) s S else idlO ((begO (lastN S (S.length - 1)) s S).2.length - 1) (begO (lastN S (S.length - 1)) s S).1 (begO (lastN S (S.length - 1)) s S).2
theorem begO_all : ∀ (k : Nat) (s : DB) (S : List Sg), k ≤ S.length - 1 → (begO k s S).2.Sublist S ∧ (begO k s S).1.a.calls + (begO k s S).2.length ≤ s.a.calls + S.length + 1
  | 0, s, S, _ => ⟨List.Sublist.refl _, by simp only [begO]; omega⟩
  | k + 1, s, S, hk => by
    have q := drp_calls s.F s.a (sga S 0).file
    rw [begO_go]
    split
    · have e := List.length_eraseIdx_of_lt (show 0 < S.length by omega)
      obtain ⟨h1, h2⟩ := begO_all k (doneB (drpO s.F s.a (sga S 0).file) s.br) (S.eraseIdx 0) (by omega)
      refine ⟨h1.trans (List.eraseIdx_sublist _ _), ?_⟩
      rw [e] at h2
      simp only [doneB] at h2 ⊢
      omega
    · exact ⟨List.Sublist.refl _, by simp only [doneB]; omega⟩
theorem head_row {l : List Sg} {R : List V} {i : Nat} (h : i < l.length) : ((scs l ++ R).drop (0 + i * 5 + 1)).take 4 = [.int .u64 (sga l i).ser, .bool (sga l i).new, .int .u64 (sga l i).ix, .int .u64 (sga l i).tm] := by
  have := congrArg (List.drop 1) (scs_row (R := R) h)
  rw [List.drop_take, List.drop_drop] at this
  rw [Nat.zero_add]
  exact this
theorem head_fit {l : List Sg} {R : List V} {i : Nat} (h : i < l.length) : 0 + i * 5 + 1 + 4 ≤ (scs l ++ R).length := by rw [List.length_append, scs_len]; omega
theorem idle_n {b : Bool} {x y : Nat} (h : b = false) (h2 : ¬ x ≤ y) : ¬ (b = true ∨ x ≤ y) := by simp [h]; omega
theorem idle_c {h : Heap} {j d : Nat} {s : DB} {I : JI} {gl : G} {S : List Sg} {sv : V} (J : JD h j d s I gl S sv) (hc : s.a.calls + S.length + S.length < 800000000000) (hS : ∀ x ∈ S, x.file < 32) (h1000 : S.length < 1000) :
    CallW Tryz.prog 58 [.ptr j 0] h fun r' h' => r' = .tup [] ∧ ∃ sv', JD h' j d (idleO s S).1 I gl (idleO s S).2 sv' := by
  refine c58 rfl ?_
  repeat' (first | ((with_reducible apply Nx.mk); conv => whnf) | ((with_reducible apply RdC.i); (next => ((repeat (first | exact JS.at' (by with_reducible assumption) | fail)); (first | done | fail))); (next => first | rfl | fail)) | ((with_reducible first | apply brS_i | apply spB_i) <;> intro c <;> (try exact absurd c (by decide)) <;> (try simp only [decide_eq_true_eq, decide_eq_false_iff_not, beq_iff_eq, bne_iff_ne, Bool.not_eq_true', Bool.not_eq_false', beq_eq_false_iff_ne, Bool.not_true, Bool.not_false, reduceCtorEq, ne_eq, bne_eq_false_iff_eq, Int.not_lt, Int.not_le, Decidable.not_not] at c) <;> (try (exfalso; omega))) | ((with_reducible apply Nm.i); (next => first | with_reducible exact List.length_nil | fail)) | ((with_reducible apply Wr.i); (next => first | exact wrap_i64 (by omega) (by omega) | fail)) | (refine CallS.by' n123 (begun_c J (by omega) hS h1000) ?_; rintro r' h2 ⟨rfl, sv2, J2⟩; have hA := begO_all (lastN S (S.length - 1)) s S (lastN_le _ _); have hl0 := hA.1.length_le; rcases J2.seg with ⟨e1, rfl⟩ | ⟨bl, cap, R, rfl, hb, n1, n2, n3, n4⟩) | fail)
  all_goals try (
    have e : idleO s S = begO (lastN S (S.length - 1)) s S := if_pos (by assumption)
    rw [e]
    exact Js.Fin.mk ⟨rfl, _, J2⟩)
  all_goals have hI : idleO s S = idlO ((begO (lastN S (S.length - 1)) s S).2.length - 1) (begO (lastN S (S.length - 1)) s S).1 (begO (lastN S (S.length - 1)) s S).2 := if_neg (by rw [c]; decide)
  all_goals rw [hI]
  all_goals clear hI
  all_goals generalize begO (lastN S (S.length - 1)) s S = B at *
  all_goals obtain ⟨s0, S0⟩ := B
  all_goals simp only at *
  all_goals have hS0 : ∀ x ∈ S0, x.file < 32 := fun x hx => hS x (hA.1.subset hx)
  all_goals try (have e1' := congrArg List.length e1; simp only [List.length_nil] at e1')
  all_goals (
    refine loopS (σ := Nat × Int × DB × List Sg × V) (fun s => frm 80 [(0, .ptr j 0), (2, .int .i64 s.2.1)]) (fun _ => []) (fun s => s.1)
      (fun t h2 => JD h2 j d t.2.2.1 I gl t.2.2.2.1 t.2.2.2.2 ∧ idlO t.1 t.2.2.1 t.2.2.2.1 = idlO (S0.length - 1) s0 S0 ∧ (t.1 = 0 ∧ -2 ≤ t.2.1 ∧ t.2.1 < 0 ∨ t.2.1 + 1 = (t.1 : Int)) ∧ (t.1 = 0 ∨ t.1 < t.2.2.2.1.length) ∧ t.2.2.1.a.calls + t.1 < 900000000000 ∧ t.2.2.2.1.length ≤ S.length ∧ ∀ x ∈ t.2.2.2.1, x.file < 32) (S0.length - 1, _, s0, S0, _) rfl ⟨J2, rfl, ?_, by simp only; omega, by simp only; omega, hl0, hS0⟩ ?_
    · simp only; omega
    clear J2
    rintro ⟨k, z, s1, S1, sv1⟩ h1 ⟨J1, e2, z1, l1, c1, m1, f1⟩
    simp only at J1 e2 z1 l1 c1 m1 f1 ⊢
    rcases Nat.eq_zero_or_pos k with rfl | hk
    · repeat' (first | ((with_reducible apply Nx.mk); conv => whnf) | ((with_reducible first | apply brS_i | apply spB_i) <;> intro c <;> (try exact absurd c (by decide)) <;> (try simp only [decide_eq_true_eq, decide_eq_false_iff_not, beq_iff_eq, bne_iff_ne, Bool.not_eq_true', Bool.not_eq_false', beq_eq_false_iff_ne, Bool.not_true, Bool.not_false, reduceCtorEq, ne_eq, bne_eq_false_iff_eq, Int.not_lt, Int.not_le, Decidable.not_not] at c) <;> (try (exfalso; omega))) | with_reducible intro _ | fail)
      rw [← e2]
      exact Js.Fin.mk ⟨rfl, _, J1⟩
    · obtain ⟨m, rfl⟩ : ∃ m, k = m + 1 := ⟨k - 1, by omega⟩
      obtain rfl : z = (m : Int) := by omega
      have l2 : m + 1 < S1.length := by omega
      have l3 : m < S1.length := by omega
      have q1 := drp_calls s1.F s1.a (sga S1 m).file
      rcases J1.seg with ⟨rfl, _⟩ | ⟨bl, cap, R, rfl, hb, n1, n2, n3, n4⟩
      · simp at l2
      repeat' (first | ((with_reducible apply Nx.mk); conv => whnf) | ((with_reducible apply RdC.i); (next => ((repeat (first | with_reducible assumption | exact JS.at' (by with_reducible assumption) | fail)); (first | done | fail))); (next => first | exact sg_f l3 | exact sg_i l3 | rfl | fail)) | ((with_reducible apply RdV.i); (next => first | rfl | fail)) | ((with_reducible apply At.i); (next => first | with_reducible rfl | fail); (next => first | omega | fail)) | ((with_reducible apply RdH.i); (next => ((repeat (first | with_reducible assumption | exact JS.at' (by with_reducible assumption) | refine hp_ne (by first | exact Ne.symm (by with_reducible assumption) | fail) ?_ | fail)); (first | done | fail)))) | ((with_reducible first | apply brS_i | apply spB_i) <;> intro c <;> (try exact absurd c (by decide)) <;> (try simp only [decide_eq_true_eq, decide_eq_false_iff_not, beq_iff_eq, bne_iff_ne, Bool.not_eq_true', Bool.not_eq_false', beq_eq_false_iff_ne, Bool.not_true, Bool.not_false, reduceCtorEq, ne_eq, bne_eq_false_iff_eq, Int.not_lt, Int.not_le, Decidable.not_not] at c) <;> (try (exfalso; omega))) | ((with_reducible apply Wr.i); (next => first | with_reducible exact wn_addl (by omega) | exact wrap_i64 (by omega) (by omega) | fail)) | ((with_reducible apply Up.i); (next => first | rfl | fail)) | ((with_reducible apply Plan.i); (next => kernel_rfl); (next => kernel_rfl)) | refine (head_fit l2) | refine (fVs_i (head_row l2) ?_) | (refine CallS.by' n117 (drp_c J1.dk (f1 _ (sga_mem l3)) (by omega)) ?_; rintro r' h2 ⟨rfl, D2, k2⟩; have J2 := J1.disk D2 k2) | (refine CallS.by' n116 (done_c _ J2) ?_; rintro r' h3 ⟨rfl, J3⟩; obtain ⟨R3, _, hb3, n31, n32, n33, n34⟩ := J3.segs) | (refine CallS.by' n124 (del_g (i := m) hb3 rfl n31 n32 (by omega) (by omega)) ?_; rintro r' h4 ⟨R4, rfl, rfl, hR4⟩) | with_reducible apply And.intro | exact trivial | with_reducible intro _ | fail)
      all_goals rw [← e2, idlO_go]
      all_goals try (
        rw [if_pos (by assumption)]
        exact Js.Fin.mk ⟨rfl, _, J1⟩)
      all_goals have nb : ¬ s1.br = true := by simp_all
      all_goals rw [if_neg nb]
      all_goals have q5 := List.length_eraseIdx_of_lt l3
      all_goals first
        | (rw [if_pos (.inl (by assumption)), if_pos (by assumption)]
           have J5 := J3.setseg (cap := cap) (S2 := S1.eraseIdx m) (R2 := R4) hb3 n33 n34 (by omega) (by rw [List.length_append, scs_len] at n32 ⊢; omega)
           rw [q5] at J5
           exact Js.Fin.mk ⟨(m, (m : Int) - 1, doneB (drpO s1.F s1.a (sga S1 m).file) s1.br, S1.eraseIdx m, _), rfl, ⟨J5, rfl, .inr (by simp only; omega), by simp only; omega, by simp only [doneB]; omega, by simp only; omega, fun x hx => f1 x (List.mem_of_mem_eraseIdx hx)⟩, by simp only; omega⟩)
        | (rw [if_pos (.inl (by assumption)), if_neg (by assumption)]
           exact Js.Fin.mk ⟨(m, (m : Int) - 1, doneB (drpO s1.F s1.a (sga S1 m).file) s1.br, S1, _), rfl, ⟨J3, rfl, .inr (by simp only; omega), by simp only; omega, by simp only [doneB]; omega, by simp only; omega, f1⟩, by simp only; omega⟩)
        | (rw [if_pos (.inr (by omega)), if_pos (by assumption)]
           have J5 := J3.setseg (cap := cap) (S2 := S1.eraseIdx m) (R2 := R4) hb3 n33 n34 (by omega) (by rw [List.length_append, scs_len] at n32 ⊢; omega)
           rw [q5] at J5
           exact Js.Fin.mk ⟨(m, (m : Int) - 1, doneB (drpO s1.F s1.a (sga S1 m).file) s1.br, S1.eraseIdx m, _), rfl, ⟨J5, rfl, .inr (by simp only; omega), by simp only; omega, by simp only [doneB]; omega, by simp only; omega, fun x hx => f1 x (List.mem_of_mem_eraseIdx hx)⟩, by simp only; omega⟩)
        | (rw [if_pos (.inr (by omega)), if_neg (by assumption)]
           exact Js.Fin.mk ⟨(m, (m : Int) - 1, doneB (drpO s1.F s1.a (sga S1 m).file) s1.br, S1, _), rfl, ⟨J3, rfl, .inr (by simp only; omega), by simp only; omega, by simp only [doneB]; omega, by simp only; omega, f1⟩, by simp only; omega⟩)
        | (rw [if_neg (idle_n (by assumption) (by omega))]
           exact Js.Fin.mk ⟨(m, (m : Int) - 1, s1, S1, _), rfl, ⟨J1, rfl, .inr (by simp only; omega), by simp only; omega, by simp only; omega, by simp only; omega, f1⟩, by simp only; omega⟩))
end J
end

section
/- A first segment. -/
namespace J
open Go Go.Proofs Jb Js
set_option maxRecDepth 100000
set_option maxHeartbeats 4000000



theorem c99 {args : List V} {h : Heap} {K : V → Heap → Prop} (hn : Nat.ble args.length Tryz.f99.ntmps = true) (e : Nx (bodyS Tryz.prog ⟨[4], [(4, [3, 1, 1, 50], []), (6, [3, 1, 1, 50], [])], false⟩ Tryz.f99 args h K)) : CallW Tryz.prog 99 args h K := CallW.go mix _ Tryz.func99 (Nat.le_of_ble_eq_true hn) rfl e
theorem n99 : enters Tryz.prog 99 = true := by kernel_rfl
theorem c57 {args : List V} {h : Heap} {K : V → Heap → Prop} (hn : Nat.ble args.length Tryz.f57.ntmps = true) (e : Nx (bodyS Tryz.prog ⟨[7, 999999, 2000042, 2000051, 2000071], [], false⟩ Tryz.f57 args h K)) : CallW Tryz.prog 57 args h K := CallW.go mix _ Tryz.func57 (Nat.le_of_ble_eq_true hn) rfl e
theorem n57 : enters Tryz.prog 57 = true := by kernel_rfl
theorem idx0_g {m : Nat} {h : Heap} : Gives Tryz.prog 173 [.sl 5 [] .full, .fn (.func 141) [] [.ptr m 0]] h (.int .i64 (-1)) h := by
  refine c173 rfl ?_
  repeat' (first | ((with_reducible apply Nx.mk); conv => whnf) | ((with_reducible apply Nm.i); (next => first | with_reducible exact List.length_nil | fail)) | fail)
  refine loopS (σ := Unit) (fun _ => frm 19 [(0, .sl 5 [] .full), (1, .fn (.func 141) [] [.ptr m 0]), (7, .int .i64 0), (8, .int .i64 0)]) (fun _ => []) (fun _ => 0) (fun _ h' => h' = h) () rfl rfl ?_
  rintro ⟨⟩ h' rfl
  repeat' (first | ((with_reducible apply Nx.mk); conv => whnf) | ((with_reducible first | apply brS_i | apply spB_i) <;> intro c <;> (try exact absurd c (by decide)) <;> (try simp only [decide_eq_true_eq, decide_eq_false_iff_not, beq_iff_eq, bne_iff_ne, Bool.not_eq_true', Bool.not_eq_false', beq_eq_false_iff_ne, Bool.not_true, Bool.not_false, reduceCtorEq, ne_eq, bne_eq_false_iff_eq, Int.not_lt, Int.not_le, Decidable.not_not] at c) <;> (try (exfalso; omega))) | fail)
  exact Js.Fin.mk ⟨.rfl _, Heap.sub_rfl _⟩
theorem has0_g {m : Nat} {h : Heap} : Gives Tryz.prog 140 [.sl 5 [] .full, .fn (.func 141) [] [.ptr m 0]] h (.bool false) h := by
  refine c140 rfl ?_
  repeat' (first | ((with_reducible apply Nx.mk); conv => whnf) | ((with_reducible apply HN.i); (next => first | rfl | fail)) | refine CallS.gives n173 (idx0_g) ?_ | fail)
  exact Js.Fin.mk ⟨.rfl _, Heap.sub_rfl _⟩
def frL (fi n : Nat) : List Nat := (List.range n).map (fi + ·)
theorem frL_succ (fi n : Nat) : frL fi (n + 1) = frL fi n ++ [fi + n] := by simp [frL, List.range_succ]
theorem frL_len (fi n : Nat) : (frL fi n).length = n := by simp [frL]
theorem free0_g {h : Heap} {j d : Nat} {s : DB} {I : JI} {gl : G} (J : JD h j d s I gl [] (.sl 5 [] .full)) (hm : I.fi + I.mn ≤ 32) :
    Gives Tryz.prog 99 [.ptr j 0] h (.sl 1 (iw (frL I.fi I.mn)) .no) h := by
  refine c99 rfl ?_
  repeat' (first | ((with_reducible apply Nx.mk); conv => whnf) | ((with_reducible apply RdC.i); (next => ((repeat (first | exact JS.at' (by with_reducible assumption) | fail)); (first | done | fail))); (next => first | rfl | fail)) | ((with_reducible apply RdH.i); (next => ((repeat (first | exact hp_same _ _ _ | fail)); (first | done | fail)))) | ((with_reducible first | apply brS_i | apply spB_i) <;> intro c <;> (try exact absurd c (by decide)) <;> (try simp only [decide_eq_true_eq, decide_eq_false_iff_not, beq_iff_eq, bne_iff_ne, Bool.not_eq_true', Bool.not_eq_false', beq_eq_false_iff_ne, Bool.not_true, Bool.not_false, reduceCtorEq, ne_eq, bne_eq_false_iff_eq, Int.not_lt, Int.not_le, Decidable.not_not] at c) <;> (try (exfalso; omega))) | ((with_reducible apply Nm.i); (next => first | with_reducible exact List.length_nil | fail)) | ((with_reducible apply New.i); intro l hl) | ((with_reducible apply Up.i); (next => first | exact upd_upd _ _ _ _ | fail)) | with_reducible intro _ | fail)
  have hl0 : h l = none := hl
  refine loopS (σ := Nat × Nat × G) (fun s => frm 55 [(0, .ptr j 0), (2, .sl 1 (iw (frL I.fi s.1)) s.2.2), (4, .ptr s.2.1 0)]) (fun _ => []) (fun s => I.mn - s.1)
    (fun s h' => s.1 ≤ I.mn ∧ h.Sub h' ∧ h' s.2.1 = some (.cells [.int .i64 (I.fi + s.1 : Nat)]) ∧ h s.2.1 = none ∧ Can s.2.2 1 (frL I.fi s.1).length h' ∧ ∀ t, s.2.2 = .own t → h t = none) (0, l, .full) rfl ⟨by simp, by (repeat (first | exact Heap.sub_rfl _ | refine sub_new (by (repeat (first | with_reducible assumption | fail))) ?_ | fail)), by ((repeat (first | exact hp_same _ _ _ | fail)); (first | done | fail)), hl, .inl rfl, by simp⟩ ?_
  clear hl hl0
  rintro ⟨k, m, g⟩ h1 ⟨k1, k2, k3, k4, k5, k6⟩
  simp only at k1 k2 k3 k4 k5 k6 ⊢
  have J1 := J.sub k2
  have hg : g ≠ .no := by rcases k5 with rfl | ⟨s, rfl, _⟩ <;> simp
  repeat' (first | ((with_reducible apply Nx.mk); conv => whnf) | ((with_reducible apply RdC.i); (next => ((repeat (first | with_reducible assumption | exact hp_same _ _ _ | exact JS.at' (by with_reducible assumption) | refine hp_gr (by with_reducible assumption) rfl ?_ | fail)); (first | done | fail))); (next => first | rfl | fail)) | ((with_reducible apply RdH.i); (next => ((repeat (first | exact hp_same _ _ _ | fail)); (first | done | fail)))) | ((with_reducible first | apply brS_i | apply spB_i) <;> intro c <;> (try exact absurd c (by decide)) <;> (try simp only [decide_eq_true_eq, decide_eq_false_iff_not, beq_iff_eq, bne_iff_ne, Bool.not_eq_true', Bool.not_eq_false', beq_eq_false_iff_ne, Bool.not_true, Bool.not_false, reduceCtorEq, ne_eq, bne_eq_false_iff_eq, Int.not_lt, Int.not_le, Decidable.not_not] at c) <;> (try (exfalso; omega))) | ((with_reducible apply Nm.i); (next => first | with_reducible exact iw_len _ | with_reducible exact iw_snoc _ _ | rfl | fail)) | ((with_reducible apply Wr.i); (next => first | with_reducible exact wn_addl (by omega) | with_reducible exact wn_add (by omega) | fail)) | ((with_reducible apply New.i); intro l hl) | ((with_reducible apply App.i); (next => (repeat (first | with_reducible assumption | fail))); intro g' hg') | ((with_reducible apply Up.i); (next => first | exact upd_upd _ _ _ _ | fail)) | ((with_reducible apply HN.i); (next => first | rfl | fail)) | ((with_reducible apply Plan.i); (next => kernel_rfl); (next => kernel_rfl)) | refine CallS.gives n140 (has0_g) ?_ | with_reducible apply And.intro | exact trivial | fail)
  · unfold mostLen; rw [frL_len]; simp only [List.length_singleton]; omega
  · have o1 := own_step k2 k6 hg hg'
    have s1 : h.Sub (gr h1 g' 1 ((frL I.fi k).length + [[V.int .i64 ((I.fi + k : Nat) : Int)]].length)) := sub_gr hg' o1 k2
    have hl0 : h l = none := by
      cases q : h l with
      | none => rfl
      | some o => rw [s1 l o q] at hl; cases hl
    refine Js.Fin.mk ⟨(k + 1, l, g'), by simp only [frL_succ] <;> rfl, ⟨by simp only; omega, sub_new hl0 s1, hp_same _ _ _, hl0, ?_, o1⟩, by simp only; omega⟩
    simp only [frL_succ]
    exact can_new hl (can_len hg')
  · obtain rfl : k = I.mn := by omega
    exact Js.Fin.mk ⟨.sl _ _ _, k2⟩
def hdB (ser : Nat) (nw : Bool) (ix tm : Nat) : List UInt8 := encN ser ++ encN (if nw then 1 else 0) ++ (encN ix ++ encN tm)
theorem JS.first {h : Heap} {j d k cap : Nat} {F : List FG} {a : Arm} {I : JI} {gl : G} {R : List V} {br : Bool} (x : Sg) (J : JS h j d F a I gl [] (.sl 5 [] .full) br) (hk : h k = none) (hc : 1 ≤ cap) (hR : cap * 5 ≤ (scs [x] ++ R).length) :
    JS ((h.upd k (.cells (scs [x] ++ R))).upd j (.cells [.ptr d 0, .int .i64 I.fi, .int .i64 I.mn, .int .i64 I.ec, .int .u64 I.E.ix, .int .u64 I.E.tm, .sl 1 [] .full, .sl 3 (es I.L) gl, .sref 5 k 0 1 cap, .bool br])) j d F a I gl [x] (.sref 5 k 0 1 cap) br := by
  have kj : k ≠ j := by rintro rfl; rw [J.at'] at hk; cases hk
  have kd : k ≠ d := by rintro rfl; rw [J.dk.at'] at hk; cases hk
  have J1 := J.sub (sub_new (o := .cells (scs [x] ++ R)) hk (Heap.sub_rfl _))
  refine ⟨J1.dk.other J1.at' J.jd, hp_same _ _ _, fun s e => ?_, J.yes, .inr ⟨k, cap, R, rfl, hp_ne kj (hp_same _ _ _), hc, hR, kj, kd⟩, J.jd⟩
  have q := J1.slot s e
  exact hp_ne (by rintro rfl; rw [J1.at'] at q; cases q) q
theorem hd_eq (ser : Nat) (nw : Bool) (ix tm : Nat) : [] ++ [ser].flatMap encN ++ encN (if nw = true then 1 else 0) ++ [ix, tm].flatMap encN = hdB ser nw ix tm := by simp [hdB]
theorem pk_len {k : UInt8} {b : List UInt8} (h : b.length ≤ 65536) : (pk k b).length ≤ b.length + 15 := by
  have := encN_10 (n := b.length) (by omega)
  unfold pk
  simp only [List.length_append, List.length_cons, fourB, List.length_nil]
  omega
theorem sub_kp {h h4 : Heap} {l : Nat} {o : Ob} {g4 : G} (hl : h l = none) (k : Kp l (h.upd l o) .full h4 g4) : h.Sub h4 := fun x v e => by
  have hx : x ≠ l := by rintro rfl; rw [hl] at e; cases e
  exact k.keep x v hx (by simp) (hp_ne hx e)
theorem start0_c {h : Heap} {j d : Nat} {s : DB} {I : JI} {gl : G} (ser : Nat) (nw : Bool) (ix tm : Nat) (J : JD h j d s I gl [] (.sl 5 [] .full)) (hm : I.fi + I.mn ≤ 32) (h1 : 1 ≤ I.mn) (hc : s.a.calls + 2 < 1000000000000) (hs : ser < 18446744073709551616) (hi : ix < 18446744073709551616) (ht : tm < 18446744073709551616) :
    CallW Tryz.prog 57 [.ptr j 0, .agg [.int .u64 ser, .bool nw, .int .u64 ix, .int .u64 tm]] h fun r' h' => ∃ g sv', r' = .bool (writeE s I.fi (pk 1 (hdB ser nw ix tm)) g) ∧
      JD h' j d (writeO s I.fi (pk 1 (hdB ser nw ix tm)) g) I gl (if writeE s I.fi (pk 1 (hdB ser nw ix tm)) g = true then [⟨I.fi, ser, nw, ix, tm⟩] else []) sv' := by
  have f0 : (frL I.fi I.mn).getD 0 0 = I.fi := by unfold frL; cases hq : I.mn with | zero => omega | succ n => simp [List.range_succ_eq_map]
  have q1 := encN_10 hs
  have q2 := encN_10 hi
  have q3 := encN_10 ht
  have q4 : (encN (if nw = true then 1 else 0)).length ≤ 10 := encN_10 (by split <;> omega)
  have hB : (hdB ser nw ix tm).length ≤ 40 := by unfold hdB; simp only [List.length_append]; omega
  have hP := pk_len (k := 1) (b := hdB ser nw ix tm) (by omega)
  have fn : (frL I.fi I.mn).getD 0 0 < 32 := by rw [f0]; omega
  refine c57 rfl ?_
  repeat' (first | ((with_reducible apply Nx.mk); conv => whnf) | ((with_reducible apply RdC.i); (next => ((repeat (first | exact JS.at' (by with_reducible assumption) | fail)); (first | done | fail))); (next => first | rfl | fail)) | ((with_reducible apply RdV.i); (next => first | rfl | fail)) | ((with_reducible first | apply brS_i | apply spB_i) <;> intro c <;> (try exact absurd c (by decide)) <;> (try simp only [decide_eq_true_eq, decide_eq_false_iff_not, beq_iff_eq, bne_iff_ne, Bool.not_eq_true', Bool.not_eq_false', beq_eq_false_iff_ne, Bool.not_true, Bool.not_false, reduceCtorEq, ne_eq, bne_eq_false_iff_eq, Int.not_lt, Int.not_le, Decidable.not_not] at c) <;> (try (exfalso; omega))) | ((with_reducible apply RdE.i); (next => first | with_reducible exact cast_ofNat _ | fail); (next => first | with_reducible exact iw_at (by omega) | fail)) | ((with_reducible apply Nm.i); (next => first | with_reducible exact iw_len _ | with_reducible exact List.length_nil | fail)) | ((with_reducible apply New.i); intro l hl) | ((with_reducible apply HN.i); (next => first | rfl | fail)) | ((with_reducible apply Plan.i); (next => kernel_rfl); (next => kernel_rfl)) | refine CallS.gives n99 (free0_g (J.sub (by (repeat (first | exact Heap.sub_rfl _ | fail)))) hm) ?_ | (refine CallS.by' n94 (nats_c (b := []) (g := .full) [ser] _ ⟨by ((repeat (first | exact hp_same _ _ _ | fail)); (first | done | fail)), by simp, by simp⟩ (by simp) (by simp) (by simpa using hs)) ?_; rintro r' h2 ⟨g2, rfl, w2, k2⟩) | (refine CallS.by' n122 (flag_c nw w2 (by simp; omega)) ?_; rintro r' h3 ⟨g3, rfl, w3, k3⟩) | (refine CallS.by' n94 (nats_c [ix, tm] _ w3 (by simp; omega) (by simp) (by intro n hn; simp at hn; omega)) ?_; rintro r' h4 ⟨g4, rfl, w4, k4⟩; rw [hd_eq] at w4; have s4 := sub_kp hl (Kp.trans (Kp.trans k2 w2.at' k3) w3.at' k4); have J4 := J.sub s4) | (refine CallS.givesS n97 (bytes_s w4 (by omega)) ?_; intro g' hg') | refine CallS.gives n96 (wrap_g 1 _ _ (by decide) (by omega)) ?_ | (refine CallS.by' n100 (write_c _ _ (J4.sub (sub_gr0 hg' (Heap.sub_rfl _))) fn (by omega) hc) ?_; rintro r' h5 ⟨g5, rfl, J5⟩) | with_reducible apply And.intro | exact trivial | exact Nat.le_of_ble_eq_true rfl | exact rfl | fail)
  · exfalso; rw [frL_len] at c; omega
  · rw [f0] at c J5
    refine Js.Fin.mk ⟨g5, _, by rw [c], by rw [c]; exact J5⟩
  · rw [f0] at c J5
    conv => whnf
    rw [f0]
    refine ⟨by unfold mostLen; simp, fun q => (by cases q), fun _ k cap rest hk h6 h7 => ?_⟩
    have hR : cap * 5 ≤ (scs [⟨I.fi, ser, nw, ix, tm⟩] ++ rest).length := by
      rw [List.length_append, scs_len, h7]
      simp only [List.length_cons, List.length_nil] at h6 ⊢
      omega
    have J6 := JS.first (R := rest) (cap := cap) ⟨I.fi, ser, nw, ix, tm⟩ J5 hk (by simp only [List.length_cons, List.length_nil] at h6; omega) hR
    repeat' (first | ((with_reducible apply Nx.mk); conv => whnf) | ((with_reducible apply RdH.i); (next => ((repeat (first | exact JS.at' (by with_reducible assumption) | refine hp_new (by with_reducible assumption) ?_ | fail)); (first | done | fail)))) | ((with_reducible apply Up.i); (next => first | rfl | fail)) | fail)
    refine Js.Fin.mk ⟨g5, .sref 5 k 0 1 cap, by rw [c], ?_⟩
    rw [if_pos c]
    exact J6
end J
end

section
/- What files have is what they have behind the tidying of them. -/
namespace J
open Go Go.Proofs Jb Js
set_option maxRecDepth 100000
set_option maxHeartbeats 4000000
theorem natGo_gt {most : Nat} : ∀ {l : List UInt8} {i n m k : Nat}, natGo most l i n = some (m, k) → i < k
  | [], _, _, _, _, h => by cases h
  | c :: r, i, n, m, k, h => by
    unfold natGo at h
    split at h
    · cases h
    · split at h
      · have := natGo_gt h; omega
      · split at h
        · cases h
        · cases h; omega
theorem natGo_agree {most : Nat} : ∀ {l l' : List UInt8} {i n m k : Nat}, natGo most l i n = some (m, k) → (∀ j, j < k - i → l'[j]? = l[j]?) → natGo most l' i n = some (m, k)
  | [], _, _, _, _, _, h, _ => by cases h
  | c :: r, l', i, n, m, k, h, ha => by
    have hk := natGo_gt h
    have h0 := ha 0 (by omega)
    cases l' with
    | nil => simp at h0
    | cons c' r' =>
      simp at h0
      subst h0
      unfold natGo at h ⊢
      split at h
      · cases h
      · rename_i q1
        rw [if_neg q1]
        split at h
        · rename_i q2
          rw [if_pos q2]
          exact natGo_agree h fun j hj => by simpa using ha (j + 1) (by omega)
        · rename_i q2
          rw [if_neg q2]
          exact h
theorem natGo_open {most : Nat} : ∀ {l : List UInt8} {i n m k : Nat}, natGo most l i n = some (m, k) → l.all (fun c => decide (128 ≤ c.toNat)) = false
  | [], _, _, _, _, h => by cases h
  | c :: r, i, n, m, k, h => by
    unfold natGo at h
    split at h
    · cases h
    · split at h
      · simp only [List.all_cons, natGo_open h, Bool.and_false]
      · rename_i q
        simp [q]
theorem tkE_zero {b : List UInt8} (h : tkE b = 0) : b ≠ [] ∧ bat b 0 ≠ 0 ∧ openB (b.drop 1) = false ∧ natX 18446744073709551615 (b.drop 1) = false ∧ tkS b ≤ 65536 ∧ tkS b + 4 ≤ (tkRest b).length ∧
    (b.take (tkFrom b + tkS b) ++ fourB (crcN (b.take (tkFrom b + tkS b))) == b.take (tkFrom b + tkS b + 4)) = true := by
  unfold tkE at h
  split at h; · cases h
  split at h; · cases h
  split at h; · cases h
  split at h; · cases h
  split at h; · cases h
  split at h; · cases h
  split at h
  · simp_all
  · cases h
theorem tk_num {b : List UInt8} (hx : natX 18446744073709551615 (b.drop 1) = false) (hb : b ≠ []) : ∃ k, natGo 18446744073709551615 (b.drop 1) 0 0 = some (tkS b, k) ∧ tkFrom b = 1 + k ∧ (tkRest b).length = b.length - (1 + k) ∧ 1 + k ≤ b.length := by
  cases e : natGo 18446744073709551615 (b.drop 1) 0 0 with
  | none => rw [(nat_none e).2.2.2] at hx; cases hx
  | some p =>
    obtain ⟨n, k⟩ := p
    obtain ⟨e1, e2, _, _⟩ := nat_some e
    have e3 := natGo_some e
    have hl : b.length ≠ 0 := fun q => hb (List.eq_nil_of_length_eq_zero q)
    simp only [List.length_drop, Nat.zero_add] at e3
    have e4 : (tkRest b).length = b.length - (1 + k) := by unfold tkRest; rw [e2]; simp only [List.length_drop]; omega
    refine ⟨k, ?_, ?_, e4, by omega⟩
    · unfold tkS; rw [e1]
    · unfold tkFrom; rw [e4]; omega
theorem tk_pre {b c : List UInt8} (h : tkE b = 0) (hl : tkN b ≤ c.length) (he : c.take (tkN b) = b.take (tkN b)) : tkE c = 0 ∧ tkK c = tkK b ∧ tkN c = tkN b ∧ tkB c = tkB b := by
  obtain ⟨z1, z2, z3, z4, z5, z6, z7⟩ := tkE_zero h
  obtain ⟨k, k1, k2, k3, k4⟩ := tk_num z4 z1
  have hN : tkN b = 1 + k + tkS b + 4 := by unfold tkN; rw [if_pos h, k2]
  have ag : ∀ j, j < tkN b → c[j]? = b[j]? := fun j hj => by
    have := congrArg (fun l => l[j]?) he
    simpa [List.getElem?_take, hj] using this
  have c1 : c ≠ [] := by rintro rfl; simp at hl; omega
  have c2 : bat c 0 = bat b 0 := by unfold bat; rw [List.getD_eq_getElem?_getD, List.getD_eq_getElem?_getD, ag 0 (by omega)]
  have g : natGo 18446744073709551615 (c.drop 1) 0 0 = some (tkS b, k) := natGo_agree k1 fun j hj => by
    simp only [List.getElem?_drop]; exact ag _ (by omega)
  have cx : natX 18446744073709551615 (c.drop 1) = false := (nat_some g).2.2.2
  obtain ⟨k', g1, g2, g3, g4⟩ := tk_num cx c1
  rw [g] at g1
  simp only [Option.some.injEq, Prod.mk.injEq] at g1
  obtain ⟨g0, rfl⟩ := g1
  have hf : tkFrom c = tkFrom b := by omega
  have ht : ∀ m, m ≤ tkN b → c.take m = b.take m := fun m hm => by
    have := congrArg (List.take m) he
    simpa [List.take_take, Nat.min_eq_left hm] using this
  have co : openB (c.drop 1) = false := by unfold openB; rw [natGo_open g]; rfl
  have E : tkE c = 0 := by
    unfold tkE
    rw [if_neg c1, if_neg (by rw [c2]; exact z2), if_neg (by rw [co]; decide), if_neg (by rw [cx]; decide), if_neg (by rw [← g0]; omega), if_neg (by rw [← g0]; omega), hf, ← g0, ht _ (by omega), ht _ (by omega), if_pos z7]
  refine ⟨E, ?_, ?_, ?_⟩
  · unfold tkK; rw [if_pos h, if_pos E, c2]
  · unfold tkN; rw [if_pos h, if_pos E, hf, ← g0]
  · unfold tkB
    rw [if_pos h, if_pos E, hf, ← g0]
    have e1 : ∀ l : List UInt8, (l.drop (tkFrom b)).take (tkS b) = (l.take (tkFrom b + tkS b)).drop (tkFrom b) := fun l => by rw [List.drop_take]; congr 1; omega
    rw [e1, e1, ht _ (by omega)]
def tid (b : List UInt8) : List UInt8 := b.take (endAt b)
theorem endAt_no {b : List UInt8} (h : tkE b ≠ 0) : endAt b = 0 := by unfold endAt; rw [restP_end h]; omega
theorem endAt_ok {b : List UInt8} (h : tkE b = 0) : endAt b = tkN b + endAt (b.drop (tkN b)) := by
  have q := tk_len h
  obtain ⟨h1, h2⟩ := rest_at' (b.drop (tkN b))
  have h3 : (restP (b.drop (tkN b))).length ≤ b.length - tkN b := by rw [h2]; simp only [List.length_drop]; omega
  unfold endAt
  rw [restP_ok h]
  simp only [List.length_drop]
  omega
theorem tid_no {b : List UInt8} (h : tkE b ≠ 0) : tid b = [] := by unfold tid; rw [endAt_no h]; rfl
theorem tid_len (b : List UInt8) : (tid b).length = endAt b := by unfold tid; rw [List.length_take]; have := (rest_at' b).1; omega
theorem tid_pre {b : List UInt8} (h : tkE b = 0) : tkE (tid b) = 0 ∧ tkK (tid b) = tkK b ∧ tkN (tid b) = tkN b ∧ tkB (tid b) = tkB b ∧ (tid b).drop (tkN b) = tid (b.drop (tkN b)) := by
  have e := endAt_ok h
  have q := tk_pre h (c := tid b) (by rw [tid_len]; omega) (by unfold tid; rw [List.take_take]; congr 1; omega)
  refine ⟨q.1, q.2.1, q.2.2.1, q.2.2.2, ?_⟩
  unfold tid
  rw [List.drop_take, e]
  congr 1; omega
theorem tkE_nil' : tkE [] = 31 := rfl
theorem endC_nil : endC [] = 0 := by
  have := (rest_at' []).1
  simp at this
  unfold endC; rw [if_pos (by rw [this]; rfl)]
theorem tid_steps {old : Bool} : ∀ (n : Nat) (b : List UInt8) (s : FS), b.length ≤ n → steps old s (tid b) = steps old s b ∧ endC (tid b) = 0
  | n, b, s, hn => by
    by_cases h : tkE b = 0
    · have q := tk_len h
      obtain ⟨t1, t2, t3, t4, t5⟩ := tid_pre h
      cases n with
      | zero => omega
      | succ n =>
        have ih := fun s => tid_steps (old := old) n (b.drop (tkN b)) s (by simp only [List.length_drop]; omega)
        refine ⟨?_, ?_⟩
        · rw [steps_go t1, steps_go h, t2, t3, t4, t5]
          cases step1 old s (tkK b) (tkB b) with
          | none => rfl
          | some t => exact (ih t).1
        · rw [← endC_go t1, t3, t5]; exact (ih s).2
    · rw [tid_no h, steps_end h, steps_end (by rw [tkE_nil']; decide)]
      exact ⟨rfl, endC_nil⟩
theorem tid_head (b : List UInt8) : fhOk (tid b) = fhOk b ∧ fhSer (tid b) = fhSer b ∧ fhNew (tid b) = fhNew b ∧ fhIx (tid b) = fhIx b ∧ fhTm (tid b) = fhTm b := by
  by_cases h : tkE b = 0
  · obtain ⟨t1, t2, t3, t4, t5⟩ := tid_pre h
    unfold fhOk fhSer fhNew fhIx fhTm
    rw [t1, t2, t4, h]
    exact ⟨rfl, rfl, rfl, rfl, rfl⟩
  · rw [tid_no h]
    unfold fhOk fhSer fhNew fhIx fhTm
    rw [show (tkE b == 0) = false from beq_eq_false_iff_ne.2 h]
    simp only [if_neg h]
    exact ⟨rfl, rfl, rfl, rfl, rfl⟩
theorem steps_head {old : Bool} {s : FS} {b : List UInt8} (h : fhOk b = true) (hs : s.begun = false) : steps old s b =
    if (old || fhNew b) = true then steps old ⟨⟨fhIx b, fhTm b, []⟩, [], true, fhIx b⟩ (b.drop (tkN b))
    else if toOk s.F s.L (fhIx b) (fhTm b) = true then steps old ⟨s.F, toL s.F s.L (fhIx b) (fhTm b), true, fhIx b⟩ (b.drop (tkN b)) else none := by
  have h0 := h
  unfold fhOk at h0
  rw [Bool.and_eq_true, beq_iff_eq] at h0
  obtain ⟨hE, hO⟩ := h0
  have hk : tkK b = 1 := fhOk_k h
  have e1 : fhIx b = hdIx (tkB b) := by unfold fhIx; rw [if_pos hE]
  have e2 : fhTm b = hdTm (tkB b) := by unfold fhTm; rw [if_pos hE]
  have e3 : fhNew b = hdNew (tkB b) := by unfold fhNew; rw [if_pos hE]
  rw [steps_go hE, e1, e2, e3]
  by_cases c1 : (old || hdNew (tkB b)) = true
  · rw [if_pos c1, step_1a hk hO hs c1]
  · rw [Bool.not_eq_true] at c1
    rw [if_neg (by rw [c1]; decide)]
    by_cases c2 : toOk s.F s.L (hdIx (tkB b)) (hdTm (tkB b)) = true
    · rw [if_pos c2, step_1b hk hO hs c1 c2]
    · rw [if_neg c2, step_no1 hk (.inr (.inr (by rw [c1, Bool.not_eq_true _ |>.mp c2]; rfl)))]
theorem step1_begun {old old' : Bool} {s : FS} {k : Nat} {b : List UInt8} (h : s.begun = true) : step1 old s k b = step1 old' s k b := by
  unfold step1
  split
  · simp [h]
  · rfl
theorem step1_keeps {old : Bool} {s t : FS} {k : Nat} {b : List UInt8} (h : s.begun = true) (e : step1 old s k b = some t) : t.begun = true ∧ t.own = s.own ∧ t.F = s.F ∧
    (t.L = adL s.F s.L b ∨ (ctOk s.F s.L s.own b = true ∧ t.L = ctL s.F s.L s.own b)) := by
  unfold step1 at e
  split at e
  · simp [h] at e
  · split at e
    · split at e
      · cases e; exact ⟨h, rfl, rfl, .inl rfl⟩
      · cases e
    · split at e
      · split at e
        · rename_i hc; cases e; exact ⟨h, rfl, rfl, .inr ⟨hc, rfl⟩⟩
        · cases e
      · cases e
theorem steps_begun {old old' : Bool} : ∀ (n : Nat) (b : List UInt8) (s : FS), b.length ≤ n → s.begun = true → steps old s b = steps old' s b
  | n, b, s, hn, h => by
    by_cases hE : tkE b = 0
    · have q := tk_len hE
      rw [steps_go hE, steps_go hE, step1_begun (old' := old') h]
      cases n with
      | zero => omega
      | succ n =>
        cases e : step1 old' s (tkK b) (tkB b) with
        | none => rfl
        | some t => exact steps_begun n _ t (by simp only [List.length_drop]; omega) (step1_keeps h e).1
    · rw [steps_end hE, steps_end hE]
theorem steps_low {old : Bool} : ∀ (n : Nat) (b : List UInt8) (s t : FS), b.length ≤ n → s.begun = true → s.F.ix ≤ s.own → s.own - s.F.ix ≤ s.L.length → steps old s b = some t →
    t.F = s.F ∧ s.own - s.F.ix ≤ t.L.length ∧ t.L.take (s.own - s.F.ix) = s.L.take (s.own - s.F.ix)
  | n, b, s, t, hn, h, h1, h2, e => by
    by_cases hE : tkE b = 0
    · have q := tk_len hE
      rw [steps_go hE] at e
      cases n with
      | zero => omega
      | succ n =>
        cases e1 : step1 old s (tkK b) (tkB b) with
        | none => rw [e1] at e; cases e
        | some u =>
          rw [e1] at e
          obtain ⟨u1, u2, u3, u4⟩ := step1_keeps h e1
          have u5 : s.own - s.F.ix ≤ u.L.length ∧ u.L.take (s.own - s.F.ix) = s.L.take (s.own - s.F.ix) := by
            rcases u4 with u4 | ⟨hc, u4⟩
            · rw [u4]
              unfold adL
              split
              · simp only [List.length_append, List.length_singleton]
                exact ⟨by omega, by rw [List.take_append_of_le_length h2]⟩
              · exact ⟨h2, rfl⟩
            · rw [u4]
              unfold ctL
              rw [if_pos hc]
              unfold ctOk at hc
              simp only [Bool.and_eq_true, beq_iff_eq, decide_eq_true_eq] at hc
              refine ⟨by rw [List.length_take]; omega, ?_⟩
              rw [List.take_take]; congr 1; omega
          have := steps_low n _ u t (by simp only [List.length_drop]; omega) u1 (by rw [u2, u3]; exact h1) (by rw [u2, u3]; exact u5.1) e
          rw [u2, u3] at this
          exact ⟨this.1, this.2.1, by rw [this.2.2, u5.2]⟩
    · rw [steps_end hE] at e; cases e
      exact ⟨rfl, h2, rfl⟩
end J
end

section
/- Which files may be dropped. -/
namespace J
open Go Go.Proofs Jb Js
set_option maxRecDepth 100000
set_option maxHeartbeats 4000000
def Ixs (F : Ent) (L : List Ent) : Prop := ∀ i, i < L.length → (ea L i).ix = F.ix + 1 + i
theorem fI_pos {F : Ent} {L : List Ent} {a b : Nat} (w : Ixs F L) (h1 : F.ix < a) (h2 : a - F.ix - 1 < L.length) (h3 : (ea L (a - F.ix - 1)).tm = b) : fI L a b = a - F.ix - 1 :=
  fI_eq h2 (by rw [w _ h2]; omega) h3 fun k hk => by rw [w k (by omega)]; omega
theorem fI_lt {F : Ent} {L : List Ent} {a b : Nat} (w : Ixs F L) (h : fI L a b < L.length) : F.ix < a ∧ a - F.ix - 1 < L.length ∧ (ea L (a - F.ix - 1)).tm = b := by
  have q := h
  unfold fI at q
  have h1 := List.findIdx_getElem (w := q)
  have h2 := w _ q
  rw [ea_get q] at h2
  simp at h1
  have e : (L.findIdx fun e => e.ix == a && e.tm == b) = a - F.ix - 1 := by omega
  refine ⟨by omega, by omega, ?_⟩
  rw [← e, ea_get q]
  exact h1.2
theorem toOk_iff {F : Ent} {L : List Ent} {a b : Nat} (w : Ixs F L) : toOk F L a b = true ↔ (a = F.ix ∧ b = F.tm) ∨ (F.ix < a ∧ a - F.ix - 1 < L.length ∧ (ea L (a - F.ix - 1)).tm = b) := by
  unfold toOk
  rw [decide_eq_true_eq]
  refine or_congr_right ⟨fI_lt w, fun ⟨h1, h2, h3⟩ => by rw [fI_pos w h1 h2 h3]; exact h2⟩
theorem toL_eq {F : Ent} {L : List Ent} {a b : Nat} (w : Ixs F L) (h : toOk F L a b = true) : toL F L a b = L.take (a - F.ix) := by
  unfold toL
  by_cases c : a = F.ix ∧ b = F.tm
  · rw [if_pos c, c.1, Nat.sub_self]; rfl
  · rw [if_neg c]
    rcases (toOk_iff w).1 h with q | ⟨h1, h2, h3⟩
    · exact (c q).elim
    · rw [fI_pos w h1 h2 h3, if_pos h2]; congr 1; omega
theorem ea_take' {L L2 : List Ent} {p i : Nat} (e : L.take p = L2.take p) (hi : i < p) : ea L i = ea L2 i := by
  have := congrArg (fun l => l[i]?) e
  simp only [List.getElem?_take, if_pos hi] at this
  simp [ea, this]
theorem toOk_take {F : Ent} {L L2 : List Ent} {a b p : Nat} (w : Ixs F L) (w2 : Ixs F L2) (h1 : p ≤ L.length) (h2 : p ≤ L2.length) (e : L.take p = L2.take p) (ha : a - F.ix ≤ p) : toOk F L a b = toOk F L2 a b := by
  rw [Bool.eq_iff_iff, toOk_iff w, toOk_iff w2]
  refine or_congr_right ⟨fun ⟨q1, q2, q3⟩ => ⟨q1, by omega, by rw [← ea_take' e (by omega)]; exact q3⟩, fun ⟨q1, q2, q3⟩ => ⟨q1, by omega, by rw [ea_take' e (by omega)]; exact q3⟩⟩
def fs0 (F : Ent) (L : List Ent) : FS := ⟨F, L, false, 0⟩
theorem steps_new {old : Bool} {F : Ent} {L : List Ent} {b : List UInt8} (h : fhOk b = true) (hn : fhNew b = true) : steps old (fs0 F L) b = steps true (fs0 ⟨0, 0, []⟩ []) b := by
  rw [steps_head h rfl, if_pos (by simp [hn]), steps_head h rfl, if_pos (show (true || fhNew b) = true from rfl)]
  exact steps_begun _ _ _ (Nat.le_refl _) rfl
theorem steps_skip {old : Bool} {F : Ent} {L : List Ent} {t u : FS} {x n : List UInt8} (hx : fhOk x = true) (hn : fhOk n = true) (nn : fhNew n = false) (w : Ixs F L) (ho : old = true ∨ fhNew x = false) (hle : fhIx n ≤ fhIx x)
    (e : steps old (fs0 F L) x = some t) (wt : Ixs t.F t.L) (e2 : steps false (fs0 t.F t.L) n = some u) : steps old (fs0 F L) n = some u := by
  rw [steps_head hx rfl] at e
  rw [steps_head hn rfl, nn, Bool.or_false, if_neg (by decide)] at e2
  cases old with
  | true =>
    rw [if_pos (show (true || fhNew x) = true from rfl)] at e
    have lo := steps_low _ _ _ _ (Nat.le_refl _) rfl (Nat.le_refl _) (by simp) e
    have hF : t.F = ⟨fhIx x, fhTm x, []⟩ := lo.1
    split at e2
    · rename_i ok
      have ok : toOk t.F t.L (fhIx n) (fhTm n) = true := ok
      have tl := toL_eq wt ok
      rcases (toOk_iff wt).1 ok with ⟨q1, q2⟩ | ⟨q1, _⟩
      · rw [hF] at q1 q2
        simp only at q1 q2
        rw [hF] at tl
        simp only [q1, Nat.sub_self, List.take_zero] at tl
        rw [steps_head hn rfl, if_pos (show (true || fhNew n) = true from rfl)]
        simp only [fs0] at e2
        rw [hF, q1, tl] at e2
        rw [q1, q2]
        rw [q1] at *
        rw [← e2]
        exact steps_begun _ _ _ (Nat.le_refl _) rfl
      · rw [hF] at q1; simp only at q1; omega
    · cases e2
  | false =>
    have nx : fhNew x = false := ho.resolve_left (by decide)
    rw [nx, Bool.or_false, if_neg (by decide)] at e
    split at e
    · rename_i ok
      have ok : toOk F L (fhIx x) (fhTm x) = true := ok
      have tl := toL_eq w ok
      have e' : steps false ⟨F, toL F L (fhIx x) (fhTm x), true, fhIx x⟩ (x.drop (tkN x)) = some t := e
      rw [tl] at e'
      have hb : F.ix ≤ fhIx x ∧ fhIx x - F.ix ≤ L.length := by
        rcases (toOk_iff w).1 ok with ⟨q1, _⟩ | ⟨q1, q2, _⟩ <;> omega
      have lo := steps_low _ _ _ _ (Nat.le_refl _) rfl hb.1 (by simp only [List.length_take]; omega) e'
      simp only at lo
      obtain ⟨l1, l2, l3⟩ := lo
      rw [List.take_take, Nat.min_self] at l3
      rw [l1] at wt
      split at e2
      · rename_i ok2
        have ok2 : toOk t.F t.L (fhIx n) (fhTm n) = true := ok2
        rw [l1] at ok2
        have hk := toOk_take (b := fhTm n) wt w l2 hb.2 l3 (show fhIx n - F.ix ≤ fhIx x - F.ix by omega)
        have t2 := toL_eq wt ok2
        rw [hk] at ok2
        have t3 := toL_eq w ok2
        have t4 : t.L.take (fhIx n - F.ix) = L.take (fhIx n - F.ix) := by
          have := congrArg (List.take (fhIx n - F.ix)) l3
          rw [List.take_take, List.take_take, Nat.min_eq_left (by omega)] at this
          exact this
        rw [steps_head hn rfl, nn, Bool.or_false, if_neg (by decide), if_pos (show toOk (fs0 F L).F (fs0 F L).L (fhIx n) (fhTm n) = true from ok2), ← e2]
        simp only [fs0]
        rw [l1, t2, t3, t4]
      · cases e2
    · cases e
def begunL (nw : Nat → Bool) : List Nat → List Nat
  | [] => []
  | x :: r => if r.any nw = true then begunL nw r else x :: r
def idleL (nw : Nat → Bool) (ix : Nat → Nat) : List Nat → List Nat
  | [] => []
  | x :: r => match idleL nw ix r with
    | [] => [x]
    | n :: q => if (nw n || decide (ix n ≤ ix x)) = true then n :: q else x :: n :: q
theorem begunL_sub (nw : Nat → Bool) : ∀ l, (begunL nw l).Sublist l
  | [] => .slnil
  | x :: r => by
    unfold begunL; split
    · exact (begunL_sub nw r).cons x
    · exact List.Sublist.refl _
theorem begunL_tail (nw : Nat → Bool) : ∀ l, ∀ y ∈ (begunL nw l).tail, nw y = false
  | [], y, h => by simp [begunL] at h
  | x :: r, y, h => by
    unfold begunL at h
    split at h
    · exact begunL_tail nw r y h
    · rename_i c
      simp only [List.tail_cons] at h
      cases q : nw y with
      | false => rfl
      | true => exact (c (List.any_eq_true.2 ⟨y, h, q⟩)).elim
theorem idleL_sub (nw : Nat → Bool) (ix : Nat → Nat) : ∀ l, (idleL nw ix l).Sublist l
  | [] => .slnil
  | x :: r => by
    have ih := idleL_sub nw ix r
    unfold idleL
    cases h : idleL nw ix r with
    | nil => exact (List.nil_sublist r).cons_cons x
    | cons n q =>
      rw [h] at ih
      simp only
      split
      · exact ih.cons x
      · exact ih.cons_cons x
theorem idleL_ne (nw : Nat → Bool) (ix : Nat → Nat) (x : Nat) (r : List Nat) : idleL nw ix (x :: r) ≠ [] := by
  unfold idleL
  cases h : idleL nw ix r with
  | nil => simp
  | cons n q => simp only; split <;> simp
theorem begunL_ne (nw : Nat → Bool) : ∀ (x : Nat) (r : List Nat), begunL nw (x :: r) ≠ []
  | x, [] => by simp [begunL]
  | x, y :: r => by
    unfold begunL; split
    · exact begunL_ne nw y r
    · simp
structure OkL (fs : List (List UInt8)) (l : List Nat) : Prop where
  ok : ∀ x ∈ l, fhOk (fa fs x) = true
  fin : ∀ x ∈ l, endC (fa fs x) = 0
theorem OkL.tail {fs : List (List UInt8)} {x : Nat} {r : List Nat} (o : OkL fs (x :: r)) : OkL fs r := ⟨fun y h => o.ok y (by simp [h]), fun y h => o.fin y (by simp [h])⟩
theorem runF_ok {fs : List (List UInt8)} {old : Bool} {F : Ent} {L : List Ent} {x : Nat} {r : List Nat} (o : OkL fs (x :: r)) : runF fs old F L (x :: r) = match steps old (fs0 F L) (fa fs x) with | none => none | some t => runF fs false t.F t.L r := by
  rw [runF_go]
  unfold fs0
  cases steps old ⟨F, L, false, 0⟩ (fa fs x) with
  | none => rfl
  | some t => simp only [o.fin x (by simp)]; rfl
theorem wl_steps {old : Bool} {F : Ent} {L : List Ent} {t : FS} {b : List UInt8} (hF : F.b = []) (w : Ixs F L) (e : steps old (fs0 F L) b = some t) : t.F.b = [] ∧ Ixs t.F t.L := by
  have := Wf.steps _ _ _ _ _ (Nat.le_refl _) (⟨hF, w, Nat.le_refl _, by simp [fs0]⟩ : Wf (fs0 F L) b _) e
  exact ⟨this.nob, this.ixs⟩
theorem run_idle {fs : List (List UInt8)} {out : Ent × List Ent} : ∀ (l : List Nat) (old : Bool) (F : Ent) (L : List Ent), OkL fs l → F.b = [] → Ixs F L → (∀ y ∈ l.tail, fhNew (fa fs y) = false) → (old = true ∨ ∀ y ∈ l, fhNew (fa fs y) = false) →
    runF fs old F L l = some out → runF fs old F L (idleL (fun i => fhNew (fa fs i)) (fun i => fhIx (fa fs i)) l) = some out
  | [], _, _, _, _, _, _, _, _, e => e
  | x :: r, old, F, L, o, hF, w, ht, ho, e => by
    have e0 := e
    rw [runF_ok o] at e
    cases hs : steps old (fs0 F L) (fa fs x) with
    | none => rw [hs] at e; cases e
    | some t =>
      rw [hs] at e
      simp only at e
      obtain ⟨t1, t2⟩ := wl_steps hF w hs
      have ht' : ∀ y ∈ r, fhNew (fa fs y) = false := fun y h => ht y h
      have ih := run_idle r false t.F t.L o.tail t1 t2 (fun y h => ht' y (List.mem_of_mem_tail h)) (.inr ht') e
      have sub := idleL_sub (fun i => fhNew (fa fs i)) (fun i => fhIx (fa fs i)) r
      unfold idleL
      cases hq : idleL (fun i => fhNew (fa fs i)) (fun i => fhIx (fa fs i)) r with
      | nil =>
        rw [hq] at ih
        rw [runF_ok ⟨fun y h => o.ok y (by simp at h; simp [h]), fun y h => o.fin y (by simp at h; simp [h])⟩, hs]
        exact ih
      | cons n q =>
        rw [hq] at ih sub
        have hn : n ∈ r := sub.subset (by simp)
        have oq : OkL fs (n :: q) := ⟨fun y h => o.ok y (by have := sub.subset h; simp [this]), fun y h => o.fin y (by have := sub.subset h; simp [this])⟩
        simp only
        split
        · rename_i c
          rw [ht' n hn, Bool.false_or, decide_eq_true_eq] at c
          rw [runF_ok oq] at ih ⊢
          cases h2 : steps false (fs0 t.F t.L) (fa fs n) with
          | none => rw [h2] at ih; cases ih
          | some u =>
            rw [h2] at ih
            rw [steps_skip (o.ok x (by simp)) (o.ok n (by simp [hn])) (ht' n hn) w (ho.imp_right fun h => h x (by simp)) c hs t2 h2]
            exact ih
        · rw [runF_ok ⟨fun y h => by
            rcases List.mem_cons.1 h with rfl | h
            · exact o.ok _ (by simp)
            · exact oq.ok y h, fun y h => by
            rcases List.mem_cons.1 h with rfl | h
            · exact o.fin _ (by simp)
            · exact oq.fin y h⟩, hs]
          exact ih
theorem run_begun {fs : List (List UInt8)} {out : Ent × List Ent} : ∀ (l : List Nat) (old : Bool) (F : Ent) (L : List Ent), OkL fs l → l.any (fun i => fhNew (fa fs i)) = true → runF fs old F L l = some out →
    ∀ old' F' L', runF fs old' F' L' (begunL (fun i => fhNew (fa fs i)) l) = some out
  | [], _, _, _, _, h, _ => by simp at h
  | x :: r, old, F, L, o, h, e => by
    intro old' F' L'
    unfold begunL
    split
    · rename_i c
      rw [runF_ok o] at e
      cases hs : steps old (fs0 F L) (fa fs x) with
      | none => rw [hs] at e; cases e
      | some t => rw [hs] at e; exact run_begun r false t.F t.L o.tail c e old' F' L'
    · rename_i c
      have hx : fhNew (fa fs x) = true := by
        rw [List.any_cons, Bool.or_eq_true] at h
        exact h.resolve_right c
      rw [runF_ok o, steps_new (o.ok x (by simp)) hx] at e ⊢
      exact e
def keepL (fs : List (List UInt8)) (l : List Nat) : List Nat := idleL (fun i => fhNew (fa fs i)) (fun i => fhIx (fa fs i)) (begunL (fun i => fhNew (fa fs i)) l)
theorem run_keep {fs : List (List UInt8)} {out : Ent × List Ent} {l : List Nat} (o : OkL fs l) (e : runF fs true ⟨0, 0, []⟩ [] l = some out) : runF fs true ⟨0, 0, []⟩ [] (keepL fs l) = some out := by
  have sb := begunL_sub (fun i => fhNew (fa fs i)) l
  have e1 : runF fs true ⟨0, 0, []⟩ [] (begunL (fun i => fhNew (fa fs i)) l) = some out := by
    cases l with
    | nil => exact e
    | cons x r =>
      by_cases c : r.any (fun i => fhNew (fa fs i)) = true
      · exact run_begun _ _ _ _ o (by rw [List.any_cons, c, Bool.or_true]) e _ _ _
      · unfold begunL; rw [if_neg c]; exact e
  exact run_idle _ _ _ _ ⟨fun y h => o.ok y (sb.subset h), fun y h => o.fin y (sb.subset h)⟩ rfl (by intro i h; simp at h) (begunL_tail _ _) (.inl rfl) e1
end J
end

section
/- What is left is scanned as what was there. -/
namespace J
open Go Go.Proofs Jb Js
set_option maxRecDepth 100000
set_option maxHeartbeats 4000000
def Bef (key : Nat → Nat) (a b : Nat) : Prop := key a < key b ∨ (key a = key b ∧ a < b)
theorem Bef.asym {key : Nat → Nat} {a b : Nat} (h : Bef key a b) (h2 : Bef key b a) : False := by unfold Bef at h h2; omega
theorem Bef.irr {key : Nat → Nat} {a : Nat} (h : Bef key a a) : False := h.asym h
theorem insR_pw (key : Nat → Nat) (x : Nat) : ∀ R : List Nat, R.Pairwise (fun a b => Bef key b a) → (∀ y ∈ R, y < x) → (insR key x R).Pairwise (fun a b => Bef key b a)
  | [], _, _ => by simp [insR]
  | y :: r, hp, hx => by
    rw [List.pairwise_cons] at hp
    unfold insR; split
    · rename_i c
      rw [List.pairwise_cons]
      refine ⟨fun z hz => ?_, insR_pw key x r hp.2 fun z hz => hx z (by simp [hz])⟩
      rcases (insR_mem key x z r).1 hz with rfl | hz
      · exact .inl c
      · exact hp.1 z hz
    · rename_i c
      rw [List.pairwise_cons, List.pairwise_cons]
      refine ⟨fun z hz => ?_, hp⟩
      have hzx := hx z hz
      rcases List.mem_cons.1 hz with rfl | hz
      · unfold Bef; omega
      · have := hp.1 z hz
        unfold Bef at this ⊢; omega
theorem sortI_pw (key : Nat → Nat) : ∀ (n : Nat) (l : List Nat), l.length = n → l.Pairwise (· < ·) → (sortI key l).Pairwise (Bef key) := by
  intro n
  induction n with
  | zero => intro l h _; rw [List.length_eq_zero_iff.1 h]; exact .nil
  | succ n ih =>
    intro l h hp
    rcases List.eq_nil_or_concat l with rfl | ⟨l', y, e⟩
    · simp at h
    · rw [List.concat_eq_append] at e; subst e
      simp at h
      rw [List.pairwise_append] at hp
      have := ih l' h hp.1
      rw [sort_snoc, List.pairwise_reverse]
      refine insR_pw key y _ (by rw [List.pairwise_reverse]; exact this) fun z hz => ?_
      rw [List.mem_reverse, sort_mem key z n l' h] at hz
      exact hp.2.2 z hz y (by simp)
theorem ord_pw (fs : List (List UInt8)) : (ord fs).Pairwise (Bef (fk fs)) :=
  sortI_pw _ _ _ rfl (List.Pairwise.filter _ List.pairwise_lt_range)
theorem pw_uniq {key : Nat → Nat} : ∀ {l1 l2 : List Nat}, l1.Pairwise (Bef key) → l2.Pairwise (Bef key) → (∀ x, x ∈ l1 ↔ x ∈ l2) → l1 = l2
  | [], [], _, _, _ => rfl
  | [], b :: l2, _, _, h => by have := (h b).2 (by simp); simp at this
  | a :: l1, [], _, _, h => by have := (h a).1 (by simp); simp at this
  | a :: l1, b :: l2, h1, h2, h => by
    rw [List.pairwise_cons] at h1 h2
    have e : a = b := by
      by_cases e : a = b
      · exact e
      · have q1 : a ∈ l2 := ((List.mem_cons.1 ((h a).1 (by simp))).resolve_left e)
        have q2 : b ∈ l1 := ((List.mem_cons.1 ((h b).2 (by simp))).resolve_left (Ne.symm e))
        exact ((h1.1 b q2).asym (h2.1 a q1)).elim
    subst e
    rw [pw_uniq h1.2 h2.2 fun x => ?_]
    constructor
    · intro hx
      refine (List.mem_cons.1 ((h x).1 (by simp [hx]))).resolve_left ?_
      rintro rfl; exact (h1.1 x hx).irr
    · intro hx
      refine (List.mem_cons.1 ((h x).2 (by simp [hx]))).resolve_left ?_
      rintro rfl; exact (h2.1 x hx).irr
theorem ord_iff {fs : List (List UInt8)} {x : Nat} : x ∈ ord fs ↔ x < fs.length ∧ fo fs x = true := by
  unfold ord ordL
  rw [sort_mem _ _ _ _ rfl, List.mem_filter, List.mem_range]
theorem runF_congr {fs gs : List (List UInt8)} : ∀ (l : List Nat) (old : Bool) (F : Ent) (L : List Ent), (∀ x ∈ l, fa gs x = fa fs x) → runF gs old F L l = runF fs old F L l
  | [], _, _, _, _ => rfl
  | x :: r, old, F, L, h => by
    rw [runF_go, runF_go, h x (by simp)]
    cases steps old ⟨F, L, false, 0⟩ (fa fs x) with
    | none => rfl
    | some t => simp only; rw [runF_congr r false t.F t.L fun y hy => h y (by simp [hy])]
theorem runF_tid {fs gs : List (List UInt8)} {out : Ent × List Ent} : ∀ (l : List Nat) (old : Bool) (F : Ent) (L : List Ent), (∀ x ∈ l, fa gs x = tid (fa fs x)) → runF fs old F L l = some out → runF gs old F L l = some out
  | [], _, _, _, _, e => e
  | x :: r, old, F, L, h, e => by
    have q := fun s => tid_steps (old := old) _ (fa fs x) s (Nat.le_refl _)
    rw [runF_go] at e ⊢
    rw [h x (by simp), (q _).1, (q ⟨F, L, false, 0⟩).2]
    cases hs : steps old ⟨F, L, false, 0⟩ (fa fs x) with
    | none => rw [hs] at e; cases e
    | some t =>
      rw [hs] at e
      simp only at e ⊢
      split at e
      · exact runF_tid r false t.F t.L (fun y hy => h y (by simp [hy])) e
      · cases e
theorem tid_nil : tid [] = [] := by unfold tid; simp
theorem fa_map {fs : List (List UInt8)} (x : Nat) : fa (fs.map tid) x = tid (fa fs x) := by
  unfold fa
  rw [List.getD_eq_getElem?_getD, List.getD_eq_getElem?_getD, List.getElem?_map]
  cases fs[x]? with
  | none => simp [tid_nil]
  | some b => rfl
theorem keep_sub (fs : List (List UInt8)) (l : List Nat) : (keepL fs l).Sublist l := (idleL_sub _ _ _).trans (begunL_sub _ _)
theorem keepL_congr {fs gs : List (List UInt8)} {l : List Nat} (h : ∀ x ∈ l, fhNew (fa fs x) = fhNew (fa gs x) ∧ fhIx (fa fs x) = fhIx (fa gs x)) : keepL fs l = keepL gs l := by
  have b : ∀ l : List Nat, (∀ x ∈ l, fhNew (fa fs x) = fhNew (fa gs x) ∧ fhIx (fa fs x) = fhIx (fa gs x)) → begunL (fun i => fhNew (fa fs i)) l = begunL (fun i => fhNew (fa gs i)) l := by
    intro l
    induction l with
    | nil => intro _; rfl
    | cons x r ih =>
      intro h
      unfold begunL
      have e : r.any (fun i => fhNew (fa fs i)) = r.any (fun i => fhNew (fa gs i)) := by
        rw [Bool.eq_iff_iff, List.any_eq_true, List.any_eq_true]
        exact ⟨fun ⟨y, hy, q⟩ => ⟨y, hy, by rw [← (h y (by simp [hy])).1]; exact q⟩, fun ⟨y, hy, q⟩ => ⟨y, hy, by rw [(h y (by simp [hy])).1]; exact q⟩⟩
      rw [e, ih fun y hy => h y (by simp [hy])]
  have d : ∀ l : List Nat, (∀ x ∈ l, fhNew (fa fs x) = fhNew (fa gs x) ∧ fhIx (fa fs x) = fhIx (fa gs x)) → idleL (fun i => fhNew (fa fs i)) (fun i => fhIx (fa fs i)) l = idleL (fun i => fhNew (fa gs i)) (fun i => fhIx (fa gs i)) l := by
    intro l
    induction l with
    | nil => intro _; rfl
    | cons x r ih =>
      intro h
      unfold idleL
      rw [ih fun y hy => h y (by simp [hy])]
      cases hq : idleL (fun i => fhNew (fa gs i)) (fun i => fhIx (fa gs i)) r with
      | nil => rfl
      | cons n q =>
        have hn : n ∈ r := by
          have := idleL_sub (fun i => fhNew (fa gs i)) (fun i => fhIx (fa gs i)) r
          rw [hq] at this
          exact this.subset (by simp)
        simp only
        rw [(h n (by simp [hn])).1, (h n (by simp [hn])).2, (h x (by simp)).2]
  unfold keepL
  rw [b l h, d _ fun x hx => h x ((begunL_sub _ _).subset hx)]
theorem rescan {fs gs : List (List UInt8)} {F : Ent} {L : List Ent} (e : outF fs = (F, L, 0)) (hl : gs.length = fs.length) (h1 : ∀ x ∈ keepL fs (ord fs), fa gs x = tid (fa fs x)) (h2 : ∀ x, x ∉ keepL fs (ord fs) → fhOk (fa gs x) = false) :
    ord gs = keepL fs (ord fs) ∧ outF gs = (F, L, 0) := by
  have e1 : runF fs true ⟨0, 0, []⟩ [] (ord fs) = some (F, L) := by
    unfold outF at e
    cases h : runF fs true ⟨0, 0, []⟩ [] (ord fs) with
    | none => rw [h] at e; simp at e
    | some p => rw [h] at e; obtain ⟨a, b⟩ := p; simp at e; rw [e.1, e.2]
  have sub := keep_sub fs (ord fs)
  have hok : ∀ x ∈ ord fs, fhOk (fa fs x) = true := fun x hx => (ord_iff.1 hx).2
  have eo : ord gs = keepL fs (ord fs) := by
    refine pw_uniq (key := fk gs) (ord_pw gs) ?_ fun x => ?_
    · refine ((ord_pw fs).sublist sub).imp_of_mem fun {a b} ha hb h => ?_
      have k : ∀ y ∈ keepL fs (ord fs), fk gs y = fk fs y := fun y hy => by unfold fk; rw [h1 y hy]; exact (tid_head _).2.1
      unfold Bef at h ⊢
      rw [k a ha, k b hb]; exact h
    · rw [ord_iff]
      constructor
      · intro ⟨_, h⟩
        by_cases c : x ∈ keepL fs (ord fs)
        · exact c
        · unfold fo at h; rw [h2 x c] at h; cases h
      · intro h
        refine ⟨by rw [hl]; exact (ord_iff.1 (sub.subset h)).1, ?_⟩
        unfold fo; rw [h1 x h, (tid_head _).1]; exact hok x (sub.subset h)
  refine ⟨eo, ?_⟩
  have e2 := runF_tid (gs := fs.map tid) (ord fs) true ⟨0, 0, []⟩ [] (fun x _ => fa_map x) e1
  have ok : OkL (fs.map tid) (ord fs) := ⟨fun x hx => by rw [fa_map, (tid_head _).1]; exact hok x hx, fun x hx => by rw [fa_map]; exact (tid_steps (old := true) _ (fa fs x) ⟨⟨0, 0, []⟩, [], false, 0⟩ (Nat.le_refl _)).2⟩
  have e3 := run_keep ok e2
  rw [keepL_congr (gs := fs) fun x _ => by rw [fa_map]; exact ⟨(tid_head _).2.2.1, (tid_head _).2.2.2.1⟩] at e3
  have e4 : runF gs true ⟨0, 0, []⟩ [] (ord gs) = some (F, L) := by
    rw [eo, ← e3]
    exact runF_congr _ _ _ _ fun x hx => by rw [h1 x hx, fa_map]
  unfold outF; rw [e4]
end J
end

section
/- A journal is opened. -/
namespace J
open Go Go.Proofs Jb Js
set_option maxRecDepth 100000
set_option maxHeartbeats 4000000




theorem c121 {args : List V} {h : Heap} {K : V → Heap → Prop} (hn : Nat.ble args.length Tryz.f121.ntmps = true) (e : Nx (bodyS Tryz.prog ⟨[], [(1, [4, 3, 2, 10], []), (6, [4, 3, 2, 10], [])], false⟩ Tryz.f121 args h K)) : CallW Tryz.prog 121 args h K := CallW.go mix _ Tryz.func121 (Nat.le_of_ble_eq_true hn) rfl e
theorem n121 : enters Tryz.prog 121 = true := by kernel_rfl
theorem c56 {args : List V} {h : Heap} {K : V → Heap → Prop} (hn : Nat.ble args.length Tryz.f56.ntmps = true) (e : Nx (bodyS Tryz.prog ⟨[], [], false⟩ Tryz.f56 args h K)) : CallW Tryz.prog 56 args h K := CallW.go mix _ Tryz.func56 (Nat.le_of_ble_eq_true hn) rfl e
theorem n56 : enters Tryz.prog 56 = true := by kernel_rfl
theorem idxi_g {bl x n cap : Nat} {l : List Nat} {R : List V} {h : Heap} (hb : h bl = some (.cells (iv l ++ R))) (hn : n = l.length) (h1000 : l.length < 1000) :
    Gives Tryz.prog 121 [.sref 1 bl 0 n cap, .int .i64 x] h (.int .i64 (if (l.findIdx fun y => y == x) < l.length then ((l.findIdx fun y => y == x) : Int) else -1)) h := by
  refine c121 rfl ?_
  repeat' (first | ((with_reducible apply Nx.mk); conv => whnf) | fail)
  refine loopS (σ := Nat) (fun i => frm 19 [(0, .sref 1 bl 0 n cap), (1, .int .i64 x), (7, .int .i64 n), (8, .int .i64 i)]) (fun _ => []) (fun i => l.length - i)
    (fun i h' => h' = h ∧ i ≤ l.length ∧ ∀ k, k < i → l.getD k 0 ≠ x) 0 rfl ⟨rfl, by simp, by simp⟩ ?_
  rintro i h1 ⟨rfl, k1, k2⟩
  (try simp only at k1 k2 ⊢)
  have gd : ∀ {k : Nat} (h : k < l.length), l.getD k 0 = l[k] := fun h => by simp [h]
  by_cases hi : i < l.length
  · repeat' (first | ((with_reducible apply Nx.mk); conv => whnf) | ((with_reducible apply RdC.i); (next => ((repeat (first | with_reducible assumption | fail)); (first | done | fail))); (next => first | with_reducible exact iv_at' hi | fail)) | ((with_reducible apply At.i); (next => first | with_reducible rfl | fail); (next => first | omega | fail)) | ((with_reducible first | apply brS_i | apply spB_i) <;> intro c <;> (try exact absurd c (by decide)) <;> (try simp only [decide_eq_true_eq, decide_eq_false_iff_not, beq_iff_eq, bne_iff_ne, Bool.not_eq_true', Bool.not_eq_false', beq_eq_false_iff_ne, Bool.not_true, Bool.not_false, reduceCtorEq, ne_eq, bne_eq_false_iff_eq, Int.not_lt, Int.not_le, Decidable.not_not] at c) <;> (try (exfalso; omega))) | ((with_reducible apply Wr.i); (next => first | with_reducible exact wn_addl (by omega) | fail)) | fail)
    · have e : (l.findIdx fun y => y == x) = i := by
        rw [List.findIdx_eq hi]
        refine ⟨by rw [← gd hi, beq_iff_eq]; omega, fun k hk => ?_⟩
        have := k2 k hk
        rw [gd (by omega)] at this
        simpa using this
      refine Js.Fin.mk ⟨?_, by (repeat (first | exact Heap.sub_rfl _ | fail))⟩
      rw [e, if_pos hi]
      exact .rfl _
    · refine Js.Fin.mk ⟨i + 1, rfl, ⟨rfl, by omega, fun k hk => ?_⟩, by omega⟩
      by_cases e : k = i
      · subst e; omega
      · exact k2 k (by omega)
  · repeat' (first | ((with_reducible apply Nx.mk); conv => whnf) | ((with_reducible first | apply brS_i | apply spB_i) <;> intro c <;> (try exact absurd c (by decide)) <;> (try simp only [decide_eq_true_eq, decide_eq_false_iff_not, beq_iff_eq, bne_iff_ne, Bool.not_eq_true', Bool.not_eq_false', beq_eq_false_iff_ne, Bool.not_true, Bool.not_false, reduceCtorEq, ne_eq, bne_eq_false_iff_eq, Int.not_lt, Int.not_le, Decidable.not_not] at c) <;> (try (exfalso; omega))) | fail)
    refine Js.Fin.mk ⟨?_, by (repeat (first | exact Heap.sub_rfl _ | fail))⟩
    have e : ¬ (l.findIdx fun y => y == x) < l.length := fun q => by
      have h2 := List.findIdx_getElem (w := q)
      have h3 := k2 _ (show (l.findIdx fun y => y == x) < i from by omega)
      rw [gd q] at h3
      exact h3 (by simpa using h2)
    rw [if_neg e]
    exact .rfl _
theorem hasi_g {bl x n cap : Nat} {l : List Nat} {R : List V} {h : Heap} (hb : h bl = some (.cells (iv l ++ R))) (hn : n = l.length) (h1000 : l.length < 1000) :
    Gives Tryz.prog 56 [.sref 1 bl 0 n cap, .int .i64 x] h (.bool (l.any fun y => y == x)) h := by
  refine c56 rfl ?_
  repeat' (first | ((with_reducible apply Nx.mk); conv => whnf) | ((with_reducible apply HN.i); (next => first | rfl | fail)) | refine CallS.gives n121 (idxi_g hb hn h1000) ?_ | fail)
  refine Js.Fin.mk ⟨?_, by (repeat (first | exact Heap.sub_rfl _ | fail))⟩
  rw [show decide (0 ≤ (if (l.findIdx fun y => y == x) < l.length then ((l.findIdx fun y => y == x) : Int) else -1)) = l.any fun y => y == x from by
    rw [Bool.eq_iff_iff, decide_eq_true_eq, List.any_eq_true, ← List.findIdx_lt_length]
    split <;> simp_all]
  exact .rfl _
theorem idxi0_g {x : Nat} {h : Heap} : Gives Tryz.prog 121 [.sref 1 0 0 0 0, .int .i64 x] h (.int .i64 (-1)) h := by
  refine c121 rfl ?_
  repeat' (first | ((with_reducible apply Nx.mk); conv => whnf) | fail)
  refine loopS (σ := Unit) (fun _ => frm 19 [(0, .sref 1 0 0 0 0), (1, .int .i64 x), (7, .int .i64 0), (8, .int .i64 0)]) (fun _ => []) (fun _ => 0) (fun _ h' => h' = h) () rfl rfl ?_
  rintro ⟨⟩ h' rfl
  repeat' (first | ((with_reducible apply Nx.mk); conv => whnf) | ((with_reducible first | apply brS_i | apply spB_i) <;> intro c <;> (try exact absurd c (by decide)) <;> (try simp only [decide_eq_true_eq, decide_eq_false_iff_not, beq_iff_eq, bne_iff_ne, Bool.not_eq_true', Bool.not_eq_false', beq_eq_false_iff_ne, Bool.not_true, Bool.not_false, reduceCtorEq, ne_eq, bne_eq_false_iff_eq, Int.not_lt, Int.not_le, Decidable.not_not] at c) <;> (try (exfalso; omega))) | fail)
  exact Js.Fin.mk ⟨.rfl _, Heap.sub_rfl _⟩
theorem hasi0_g {x : Nat} {h : Heap} : Gives Tryz.prog 56 [.sref 1 0 0 0 0, .int .i64 x] h (.bool false) h := by
  refine c56 rfl ?_
  repeat' (first | ((with_reducible apply Nx.mk); conv => whnf) | ((with_reducible apply HN.i); (next => first | rfl | fail)) | refine CallS.gives n121 (idxi0_g) ?_ | fail)
  exact Js.Fin.mk ⟨.rfl _, Heap.sub_rfl _⟩
theorem rel_nilref {S : Sim} {w : World} {es : Nat} {x : Value} (h : Rel S w (.sl es [] .full) x) : Rel S w (.sref es 0 0 0 0) x := by
  cases h with
  | slnil => exact Rel.srefnil _ _ _ _
  | sl _ _ _ rb o cap xs hes hcap hg _ _ _ =>
    have : cap = 0 := hg
    subst this
    exact Rel.srefnil _ _ _ _
theorem CallW.conv {P : Program} {f : FuncId} {args : List V} {h : Heap} {K : V → Heap → Prop} {l : Nat} {cs cs2 : List V} (e : h l = some (.cells cs)) (hl : cs2.length = cs.length)
    (hc : ∀ (S : Sim) (w : World) (i : Nat) (v u : V) (x : Value), cs[i]? = some v → cs2[i]? = some u → Rel S w v x → Rel S w u x) (c : CallW P f args (h.upd l (.cells cs2)) K) : CallW P f args h K := by
  have bk : ∀ k, Blk (h.upd l (.cells cs2)) k ↔ Blk h k := fun k => by
    unfold Blk
    by_cases hk : k = l
    · subst hk; simp [e]; rfl
    · rw [upd_ne h _ hk]
  have nn : ∀ k, (h.upd l (.cells cs2)) k = none ↔ h k = none := fun k => by
    by_cases hk : k = l
    · subst hk; simp [e]
    · rw [upd_ne h _ hk]
  intro S w xs H R
  have H2 : HR S w (h.upd l (.cells cs2)) := by
    refine ⟨fun k o ho => ?_, H.fresh⟩
    by_cases hk : k = l
    · subst hk
      simp at ho
      subst ho
      obtain ⟨q1, xs, q2, q3, q4⟩ := (H.obs k _ e : CellsRel S w k cs)
      refine (⟨q1, xs, q2, ⟨by rw [q3.1, hl], fun i u x hu hx => ?_⟩, q4⟩ : CellsRel S w k cs2)
      obtain ⟨hi, _⟩ := List.getElem?_eq_some_iff.1 hu
      have hv : cs[i]? = some (cs[i]'(by omega)) := List.getElem?_eq_getElem (by omega)
      exact hc S w i _ u x hv hu (q3.2 i _ x hv hx)
    · rw [upd_ne h _ hk] at ho; exact H.obs k o ho
  refine (c S w xs H2 R).mono fun _ _ ⟨r, x, h', S', e1, k, H', R', L⟩ => ⟨r, x, h', S', e1, k, H', R', ?_⟩
  exact { L with priv := fun rb a b c => L.priv rb a b (fun q => c ((bk rb).1 q)), dom := fun k a b => (bk k).1 (L.dom k a b), all := fun k a b => L.all k a ((nn k).2 b) }
end J
end

section
/- A journal is opened. -/
namespace J
open Go Go.Proofs Jb Js
set_option maxRecDepth 100000
set_option maxHeartbeats 4000000





theorem c18 {args : List V} {h : Heap} {K : V → Heap → Prop} (hn : Nat.ble args.length Tryz.f18.ntmps = true) (e : Nx (bodyS Tryz.prog ⟨[57, 74, 103, 110], [(9, [3, 1, 4, 2, 2, 4, 1, 40, 1, 1, 2, 83], []), (13, [3, 1, 4, 2, 2, 4, 1, 40, 1, 1, 2, 83], []), (18, [0, 1, 2, 1, 4, 2, 2, 2, 1, 1, 1, 40, 1, 27, 3, 56], []), (23, [0, 1, 2, 1, 4, 2, 2, 2, 1, 1, 1, 40, 1, 27, 3, 56], []), (24, [0, 1, 1, 2, 4, 2, 2, 2, 1, 1, 1, 40, 1, 56, 2, 28], []), (28, [0, 1, 1, 2, 4, 2, 2, 2, 1, 1, 1, 40, 1, 56, 2, 28], [])], false⟩ Tryz.f18 args h K)) : CallW Tryz.prog 18 args h K := CallW.go mix _ Tryz.func18 (Nat.le_of_ble_eq_true hn) rfl e
theorem n18 : enters Tryz.prog 18 = true := by kernel_rfl
def dkf (F : List FG) (fi mn : Nat) : List (List UInt8) := (List.range mn).map fun i => (fg F (fi + i)).b
theorem dkf_len (F : List FG) (fi mn : Nat) : (dkf F fi mn).length = mn := by simp [dkf]
theorem dkf_succ (F : List FG) (fi k : Nat) : dkf F fi (k + 1) = dkf F fi k ++ [(fg F (fi + k)).b] := by simp [dkf, List.range_succ]
theorem dkf_fa {F : List FG} {fi mn i : Nat} (h : i < mn) : fa (dkf F fi mn) i = (fg F (fi + i)).b := by simp [fa, dkf, h]
theorem fv_snoc (l : List (List UInt8)) (b : List UInt8) : fv l ++ [[.sl 1 (bs b) .no]] = fv (l ++ [b]) := by simp [fv]
def sgOf (fs : List (List UInt8)) (fi i : Nat) : Sg := ⟨fi + i, fhSer (fa fs i), fhNew (fa fs i), fhIx (fa fs i), fhTm (fa fs i)⟩
def tidyA (fs : List (List UInt8)) (fi : Nat) : Nat → DB → DB
  | 0, s => s
  | k + 1, s => tidyO (tidyA fs fi k s) (fi + k) (fa fs k) ((ord fs).any fun y => y == k)
def startO (fs : List (List UInt8)) (fi : Nat) (s : DB) (g : G) : DB × List Sg :=
  if ord fs = [] then (writeO s fi (pk 1 (hdB 0 false 0 0)) g, if writeE s fi (pk 1 (hdB 0 false 0 0)) g = true then [⟨fi, 0, false, 0, 0⟩] else [])
  else (s, (ord fs).map (sgOf fs fi))
def openO (F : List FG) (a : Arm) (fi mn : Nat) (g : G) : DB × List Sg :=
  idleO (startO (dkf F fi mn) fi (tidyA (dkf F fi mn) fi mn ⟨F, a, false⟩) g).1 (startO (dkf F fi mn) fi (tidyA (dkf F fi mn) fi mn ⟨F, a, false⟩) g).2
def IB (h : Heap) (bi n cap l d : Nat) (o : List Nat) : Prop := (o = [] ∧ bi = 0 ∧ n = 0 ∧ cap = 0) ∨ (n = o.length ∧ ∃ R, h bi = some (.cells (iv o ++ R)) ∧ bi ≠ l ∧ bi ≠ d)
theorem IB.has {h : Heap} {bi n cap l d x : Nat} {o : List Nat} (b : IB h bi n cap l d o) (ho : o.length < 1000) : Gives Tryz.prog 56 [.sref 1 bi 0 n cap, .int .i64 x] h (.bool (o.any fun y => y == x)) h := by
  rcases b with ⟨rfl, rfl, rfl, rfl⟩ | ⟨hn, R, hb, _⟩
  · exact hasi0_g
  · exact hasi_g hb hn ho
theorem IB.kc {h h2 : Heap} {bi n cap l d : Nat} {o : List Nat} (b : IB h bi n cap l d o) (k : KC l d h h2) : IB h2 bi n cap l d o := by
  rcases b with q | ⟨hn, R, hb, h1, h2⟩
  · exact .inl q
  · exact .inr ⟨hn, R, k bi _ h1 h2 hb, h1, h2⟩
structure OG (h : Heap) (l d bi : Nat) (F : List FG) (a : Arm) (I : JI) (gl : G) (bl cap : Nat) (S : List Sg) (o : List Nat) : Prop where
  dk : Dk h d F a
  at' : h l = some (.cells [.ptr d 0, .int .i64 I.fi, .int .i64 I.mn, .int .i64 I.ec, .int .u64 I.E.ix, .int .u64 I.E.tm, .sl 1 [] .full, .sl 3 (es I.L) gl, .sref 5 bl 0 S.length cap, .bool false])
  slot : ∀ s, gl = .own s → h s = some (.grow 3 I.L.length)
  yes : gl ≠ .no
  ld : l ≠ d
  ib : ∃ R, h bi = some (.cells (iv o ++ R)) ∧ bi ≠ l ∧ bi ≠ d
  blk : (S = [] ∧ bl = 0 ∧ cap = 0) ∨ ∃ R, h bl = some (.cells (scs S ++ R)) ∧ S.length ≤ cap ∧ cap * 5 ≤ (scs S ++ R).length ∧ bl ≠ l ∧ bl ≠ d ∧ bl ≠ bi
theorem OG.js {h : Heap} {l d bi : Nat} {F : List FG} {a : Arm} {I : JI} {gl : G} {bl cap : Nat} {S : List Sg} {o : List Nat} (g : OG h l d bi F a I gl bl cap S o) (hS : S ≠ []) : JD h l d ⟨F, a, false⟩ I gl S (.sref 5 bl 0 S.length cap) := by
  refine ⟨g.dk, g.at', g.slot, g.yes, ?_, g.ld⟩
  rcases g.blk with ⟨q, _⟩ | ⟨R, q1, q2, q3, q4, q5, _⟩
  · exact (hS q).elim
  · exact .inr ⟨bl, cap, R, rfl, q1, q2, q3, q4, q5⟩
theorem OG.room {h : Heap} {l d bi : Nat} {F : List FG} {a : Arm} {I : JI} {gl : G} {bl cap : Nat} {S : List Sg} {o : List Nat} (g : OG h l d bi F a I gl bl cap S o) : 0 + cap * 5 ≤ (cellsAt h bl).length := by
  rcases g.blk with ⟨_, _, rfl⟩ | ⟨R, q1, q2, q3, _⟩
  · simp
  · rw [cellsAt_eq q1]; omega
theorem OG.step {h h2 : Heap} {l d bi : Nat} {F : List FG} {a : Arm} {I : JI} {gl : G} {bl cap bl2 off2 cap2 : Nat} {S : List Sg} {o : List Nat} (x : Sg) (g : OG h l d bi F a I gl bl cap S o) (ap : AppTo 5 h bl 0 S.length cap [sc x] bl2 off2 cap2 h2) :
    off2 = 0 ∧ h2 l = some (.cells [.ptr d 0, .int .i64 I.fi, .int .i64 I.mn, .int .i64 I.ec, .int .u64 I.E.ix, .int .u64 I.E.tm, .sl 1 [] .full, .sl 3 (es I.L) gl, .sref 5 bl 0 S.length cap, .bool false]) ∧
      OG (h2.upd l (.cells [.ptr d 0, .int .i64 I.fi, .int .i64 I.mn, .int .i64 I.ec, .int .u64 I.E.ix, .int .u64 I.E.tm, .sl 1 [] .full, .sl 3 (es I.L) gl, .sref 5 bl2 0 (S ++ [x]).length cap2, .bool false])) l d bi F a I gl bl2 cap2 (S ++ [x]) o := by
  obtain ⟨Ri, i1, i2, i3⟩ := g.ib
  have fl : ([sc x] : List (List V)).flatten = scs [x] := rfl
  have sx : scs (S ++ [x]) = scs S ++ scs [x] := (scs_app S [x]).symm
  have main : ∀ (cs : List V), off2 = 0 → h2 = h.upd bl2 (.cells cs) → bl2 ≠ l → bl2 ≠ d → bl2 ≠ bi → (∀ s, gl = .own s → s ≠ bl2) → (∀ i s, (fg F i).g = .own s → s ≠ bl2) → (∃ R, cs = scs (S ++ [x]) ++ R ∧ cap2 * 5 ≤ (scs (S ++ [x]) ++ R).length) → (S ++ [x]).length ≤ cap2 →
      off2 = 0 ∧ h2 l = some (.cells [.ptr d 0, .int .i64 I.fi, .int .i64 I.mn, .int .i64 I.ec, .int .u64 I.E.ix, .int .u64 I.E.tm, .sl 1 [] .full, .sl 3 (es I.L) gl, .sref 5 bl 0 S.length cap, .bool false]) ∧
      OG (h2.upd l (.cells [.ptr d 0, .int .i64 I.fi, .int .i64 I.mn, .int .i64 I.ec, .int .u64 I.E.ix, .int .u64 I.E.tm, .sl 1 [] .full, .sl 3 (es I.L) gl, .sref 5 bl2 0 (S ++ [x]).length cap2, .bool false])) l d bi F a I gl bl2 cap2 (S ++ [x]) o := by
    intro cs e0 e1 n1 n2 n3 n4 n5 ⟨R, e2, e3⟩ hc
    subst e1 e2
    have atl := hp_ne (o := .cells (scs (S ++ [x]) ++ R)) (Ne.symm n1) g.at'
    have dk1 : Dk (h.upd bl2 (.cells (scs (S ++ [x]) ++ R))) d F a := ⟨hp_ne (Ne.symm n2) g.dk.at', g.dk.len, fun i s e => hp_ne (n5 i s e) (g.dk.slot i s e), g.dk.yes, g.dk.one, g.dk.few, g.dk.syn, g.dk.cnt⟩
    refine ⟨e0, atl, ⟨dk1.other atl g.ld, hp_same _ _ _, fun s e => ?_, g.yes, g.ld, ⟨Ri, hp_ne i2 (hp_ne (Ne.symm n3) i1), i2, i3⟩, .inr ⟨R, hp_ne n1 (hp_same _ _ _), hc, e3, n1, n2, n3⟩⟩⟩
    have q := g.slot s e
    exact hp_ne (by rintro rfl; rw [g.at'] at q; cases q) (hp_ne (n4 s e) q)
  rcases ap with ⟨c, rfl, rfl, rfl, rfl⟩ | ⟨c, c2, hn, rfl, rest, hr, rfl⟩
  · simp only [List.length_singleton] at c
    rcases g.blk with ⟨_, _, rfl⟩ | ⟨R, q1, q2, q3, q4, q5, q6⟩
    · omega
    · have hR : 5 ≤ R.length := by rw [List.length_append, scs_len] at q3; omega
      refine main _ rfl rfl q4 q5 q6 (fun s e => by rintro rfl; have := g.slot _ e; rw [q1] at this; cases this) (fun i s e => by rintro rfl; have := g.dk.slot i _ e; rw [q1] at this; cases this) ⟨R.drop 5, ?_, ?_⟩ (by simpa using c)
      · rw [cellsAt_eq q1, fl, Nat.zero_add]
        unfold wrCells
        rw [scs_take S R S.length (Nat.le_refl _), List.take_length, sx]
        have e5 : S.length * 5 + (scs [x]).length = (scs S).length + 5 := by rw [scs_len, scs_len]; simp only [List.length_singleton]; omega
        rw [e5, ← List.drop_drop, List.drop_left]
      · rw [List.length_append, scs_len] at q3
        rw [List.length_append, scs_len, List.length_drop, List.length_append, List.length_singleton]; omega
  · simp only [List.length_singleton] at c c2 hr
    have w : ((cellsAt h bl).drop 0).take (S.length * 5) = scs S := by
      rcases g.blk with ⟨rfl, _, _⟩ | ⟨R, q1, _⟩
      · simp [scs]
      · rw [cellsAt_eq q1, List.drop_zero, scs_take S R _ (Nat.le_refl _), List.take_length]
    have no : ∀ y v, h y = some v → bl2 ≠ y := fun y v e => by rintro rfl; rw [hn] at e; cases e
    refine main _ rfl rfl (no l _ g.at') (no d _ g.dk.at') (no bi _ i1) (fun s e => (no s _ (g.slot s e)).symm) (fun i s e => (no s _ (g.dk.slot i s e)).symm) ⟨rest, ?_, ?_⟩ (by simpa using c2)
    · rw [w, fl, sx]
    · rw [List.length_append, scs_len, hr, List.length_append, List.length_singleton]; omega
theorem fg_ne {F : List FG} {i j : Nat} {x : FG} (h : j ≠ i) : fg (F.set i x) j = fg F j := by unfold fg; simp [List.getElem?_set, Ne.symm h]
theorem drp_ne {F : List FG} {a : Arm} {i j : Nat} (h : j ≠ i) : fg (drpO F a i).1 j = fg F j := by unfold drpO; split; rfl; split; rfl; exact fg_ne h
theorem cut_ne {F : List FG} {a : Arm} {i n j : Nat} (h : j ≠ i) : fg (cutO F a i n).1 j = fg F j := by unfold cutO; split; rfl; split; rfl; exact fg_ne h
theorem syn_ne {F : List FG} {a : Arm} {i j : Nat} (h : j ≠ i) : fg (synO F a i).1 j = fg F j := by unfold synO; split; rfl; split; rfl; exact fg_ne h
theorem tidy_ne {s : DB} {n j : Nat} {b : List UInt8} {u : Bool} (h : j ≠ n) : fg (tidyO s n b u).F j = fg s.F j := by
  unfold tidyO
  split; rfl
  split; exact drp_ne h
  split
  · split
    · simp only [doneB]; rw [syn_ne h, cut_ne h]
    · exact cut_ne h
  · exact syn_ne h
theorem tidy_calls (s : DB) (n : Nat) (b : List UInt8) (u : Bool) : (tidyO s n b u).a.calls ≤ s.a.calls + 2 := by
  have h1 := drp_calls s.F s.a n
  have h2 := cut_calls s.F s.a n (endAt b)
  have h3 := syn_calls s.F s.a n
  have h4 := syn_calls (cutO s.F s.a n (endAt b)).1 (cutO s.F s.a n (endAt b)).2.1 n
  unfold tidyO
  split; omega
  split; simp only [doneB]; omega
  split
  · split <;> simp only [doneB] <;> omega
  · simp only [doneB]; omega
theorem tidyA_ne {fs : List (List UInt8)} {fi : Nat} {s : DB} {j : Nat} : ∀ k, (∀ i, i < k → j ≠ fi + i) → fg (tidyA fs fi k s).F j = fg s.F j
  | 0, _ => rfl
  | k + 1, h => by unfold tidyA; rw [tidy_ne (h k (by omega)), tidyA_ne k fun i hi => h i (by omega)]
theorem tidyA_calls (fs : List (List UInt8)) (fi : Nat) (s : DB) : ∀ k, (tidyA fs fi k s).a.calls ≤ s.a.calls + 2 * k
  | 0 => Nat.le_refl _
  | k + 1 => by unfold tidyA; have := tidy_calls (tidyA fs fi k s) (fi + k) (fa fs k) ((ord fs).any fun y => y == k); have := tidyA_calls fs fi s k; omega
theorem write_calls (s : DB) (n : Nat) (b : List UInt8) (g : G) : (writeO s n b g).a.calls ≤ s.a.calls + 2 := by
  have h1 := app_calls s.F s.a n b g
  have h2 := syn_calls (appO s.F s.a n b g).1 (appO s.F s.a n b g).2.1 n
  unfold writeO; split <;> simp only [doneB] <;> omega
theorem conv_one {A B : List V} {es : Nat} (S : Sim) (w : World) (i : Nat) (v u : V) (x : Value) (h1 : (A ++ V.sl es [] .full :: B)[i]? = some v) (h2 : (A ++ V.sref es 0 0 0 0 :: B)[i]? = some u) (h3 : Rel S w v x) : Rel S w u x := by
  by_cases hi : i < A.length
  · rw [List.getElem?_append_left hi] at h1 h2
    rw [h1] at h2; cases h2; exact h3
  · rw [List.getElem?_append_right (by omega)] at h1 h2
    cases hk : i - A.length with
    | zero =>
      rw [hk] at h1 h2
      simp at h1 h2
      subst h1 h2
      exact rel_nilref h3
    | succ k =>
      rw [hk] at h1 h2
      simp only [List.getElem?_cons_succ] at h1 h2
      rw [h1] at h2; cases h2; exact h3
theorem open_c {h : Heap} {d fi mn ec : Nat} {F : List FG} {a : Arm} (D : Dk h d F a) (hd : a.down = false) (h10 : mn ≤ 10) (h2 : 2 ≤ mn) (hfi : fi ≤ 20) (he : 64 ≤ ec) (he2 : ec ≤ 1048576) (hc : a.calls < 100000000000) :
    CallW Tryz.prog 18 [.ptr d 0, .int .i64 fi, .int .i64 mn, .int .i64 ec] h fun r' h' =>
      ((outF (dkf F fi mn)).2.2 ≠ 0 ∧ r' = .tup [.nilp, .int .i64 (outF (dkf F fi mn)).2.2] ∧ Dk h' d F a) ∨
      ((outF (dkf F fi mn)).2.2 = 0 ∧ ∃ j g gl sv, r' = .tup (if (openO F a fi mn g).1.br = true then [.nilp, .int .i64 70] else [.ptr j 0, .int .i64 0]) ∧
        JD h' j d (openO F a fi mn g).1 ⟨fi, mn, ec, (outF (dkf F fi mn)).1, (outF (dkf F fi mn)).2.1⟩ gl (openO F a fi mn g).2 sv) := by
  have hbig : ∀ b ∈ dkf F fi mn, b.length ≤ 1048576 := by
    intro b hb
    simp only [dkf, List.mem_map] at hb
    obtain ⟨i, _, rfl⟩ := hb
    exact D.few _
  refine c18 rfl ?_
  repeat' (first | ((with_reducible apply Nx.mk); conv => whnf) | ((with_reducible first | apply brS_i | apply spB_i) <;> intro c <;> (try exact absurd c (by decide)) <;> (try simp only [decide_eq_true_eq, decide_eq_false_iff_not, beq_iff_eq, bne_iff_ne, Bool.not_eq_true', Bool.not_eq_false', beq_eq_false_iff_ne, Bool.not_true, Bool.not_false, reduceCtorEq, ne_eq, bne_eq_false_iff_eq, Int.not_lt, Int.not_le, Decidable.not_not] at c) <;> (try (exfalso; omega))) | ((with_reducible apply Wr.i); (next => first | exact wrap_i64 (by omega) (by omega) | fail)) | ((with_reducible apply New.i); intro l hl) | ((with_reducible apply HN.i); (next => first | rfl | fail)) | refine CallS.gives n28 (down_g D) ?_ | with_reducible apply And.intro | exact trivial | fail)
  all_goals try (exfalso; simp_all; done)
  all_goals try (exfalso; omega)
  have hl0 : h l = none := hl
  have D1 : Dk (h.upd l (.cells [.ptr d 0, .int .i64 fi, .int .i64 mn, .int .i64 ec, .int .u64 0, .int .u64 0, .sl 1 [] .full, .sl 3 [] .full, .sl 5 [] .full, .bool false])) d F a := D.sub (sub_new hl (Heap.sub_rfl _))
  refine loopS (σ := Nat × G) (fun s => frm 144 [(0, .ptr d 0), (1, .int .i64 fi), (2, .int .i64 mn), (10, .ptr l 0), (11, .sl 1 (fv (dkf F fi s.1)) s.2), (57, .ptr l 0), (59, .int .i64 mn), (60, .int .i64 s.1)]) (fun _ => []) (fun s => mn - s.1)
    (fun s h' => s.1 ≤ mn ∧ Heap.Sub (h.upd l (.cells [.ptr d 0, .int .i64 fi, .int .i64 mn, .int .i64 ec, .int .u64 0, .int .u64 0, .sl 1 [] .full, .sl 3 [] .full, .sl 5 [] .full, .bool false])) h' ∧ Can s.2 1 (dkf F fi s.1).length h' ∧ ∀ t, s.2 = .own t → (h.upd l (.cells [.ptr d 0, .int .i64 fi, .int .i64 mn, .int .i64 ec, .int .u64 0, .int .u64 0, .sl 1 [] .full, .sl 3 [] .full, .sl 5 [] .full, .bool false])) t = none) (0, .full) rfl ⟨by simp, Heap.sub_rfl _, .inl rfl, by simp⟩ ?_
  generalize hH : h.upd l (.cells [.ptr d 0, .int .i64 fi, .int .i64 mn, .int .i64 ec, .int .u64 0, .int .u64 0, .sl 1 [] .full, .sl 3 [] .full, .sl 5 [] .full, .bool false]) = H at D1 ⊢
  have atH : H l = some (.cells [.ptr d 0, .int .i64 fi, .int .i64 mn, .int .i64 ec, .int .u64 0, .int .u64 0, .sl 1 [] .full, .sl 3 [] .full, .sl 5 [] .full, .bool false]) := by rw [← hH]; exact hp_same _ _ _
  rintro ⟨k, g⟩ h1 ⟨k1, k2, k3, k4⟩
  simp only at k1 k2 k3 k4 ⊢
  have D2 := D1.sub k2
  have hg : g ≠ .no := by rcases k3 with rfl | ⟨s, rfl, _⟩ <;> simp
  by_cases hk : k < mn
  · repeat' (first | ((with_reducible apply Nx.mk); conv => whnf) | ((with_reducible first | apply brS_i | apply spB_i) <;> intro c <;> (try exact absurd c (by decide)) <;> (try simp only [decide_eq_true_eq, decide_eq_false_iff_not, beq_iff_eq, bne_iff_ne, Bool.not_eq_true', Bool.not_eq_false', beq_eq_false_iff_ne, Bool.not_true, Bool.not_false, reduceCtorEq, ne_eq, bne_eq_false_iff_eq, Int.not_lt, Int.not_le, Decidable.not_not] at c) <;> (try (exfalso; omega))) | ((with_reducible apply Nm.i); (next => first | with_reducible exact fv_len _ | with_reducible exact fv_snoc _ _ | rfl | fail)) | ((with_reducible apply Wr.i); (next => first | with_reducible exact wn_addl (by omega) | with_reducible exact wn_add (by omega) | fail)) | ((with_reducible apply App.i); (next => (repeat (first | with_reducible assumption | fail))); intro g' hg') | ((with_reducible apply HN.i); (next => first | rfl | fail)) | refine CallS.gives n53 (GivesS.weak (read_s D2 (by omega))) ?_ | with_reducible apply And.intro | exact trivial | fail)
    · unfold mostLen; rw [dkf_len]; simp only [List.length_singleton]; omega
    · have o1 := own_step k2 k4 hg hg'
      refine Js.Fin.mk ⟨(k + 1, g'), by simp only [dkf_succ] <;> rfl, ⟨by simp only; omega, sub_gr hg' o1 k2, ?_, o1⟩, by simp only; omega⟩
      simp only [dkf_succ, List.length_append]
      exact can_gr hg'
  · obtain rfl : k = mn := by omega
    have lfs := dkf_len F fi k
    have noneOf : ∀ x, h1 x = none → H x = none := fun x e => by
      cases q : H x with
      | none => rfl
      | some o => rw [k2 x o q] at e; cases e
    by_cases hz : ord (dkf F fi k) = []
    · repeat' (first | ((with_reducible apply Nx.mk); conv => whnf) | ((with_reducible apply RdH.i); (next => ((repeat (first | with_reducible assumption | fail)); (first | done | fail)))) | ((with_reducible first | apply brS_i | apply spB_i) <;> intro c <;> (try exact absurd c (by decide)) <;> (try simp only [decide_eq_true_eq, decide_eq_false_iff_not, beq_iff_eq, bne_iff_ne, Bool.not_eq_true', Bool.not_eq_false', beq_eq_false_iff_ne, Bool.not_true, Bool.not_false, reduceCtorEq, ne_eq, bne_eq_false_iff_eq, Int.not_lt, Int.not_le, Decidable.not_not] at c) <;> (try (exfalso; omega))) | ((with_reducible apply Up.i); (next => first | rfl | fail)) | (refine CallS.by' n47 (scan_c (by omega) hbig) ?_; rintro r' h3 ⟨s3, b3, gl, bi, n3, cap3, rfl, P3⟩; have at3 := s3 _ _ (k2 _ _ atH); have D3 := D2.sub s3) | with_reducible apply And.intro | exact trivial | exact Nat.le_of_ble_eq_true rfl | fail)
      · exact Js.Fin.mk (.inl ⟨fun q => c (by omega), rfl, D3⟩)
      have c0 : (outF (dkf F fi k)).2.2 = 0 := by omega
      have hld : l ≠ d := by rintro rfl; rw [D.at'] at hl0; cases hl0
      obtain ⟨q1, q2⟩ := P3.ord c0
      rw [hz] at q1 q2
      have J4 : JD (h3.upd l (.cells [.ptr d 0, .int .i64 fi, .int .i64 k, .int .i64 ec, .int .u64 (outF (dkf F fi k)).1.ix, .int .u64 (outF (dkf F fi k)).1.tm, .sl 1 [] .full, .sl 3 (es (outF (dkf F fi k)).2.1) gl, .sl 5 [] .full, .bool false])) l d ⟨F, a, false⟩ ⟨fi, k, ec, (outF (dkf F fi k)).1, (outF (dkf F fi k)).2.1⟩ gl [] (.sl 5 [] .full) :=
        ⟨D3.other at3 hld, hp_same _ _ _, fun s e => hp_ne (by rintro rfl; have := (P3.slot _ e).1; rw [at3] at this; cases this) (P3.slot s e).1, P3.yes, .inl ⟨rfl, rfl⟩, hld⟩
      simp only [List.length_nil] at q1
      subst q1
      have ib4 : IB (h3.upd l (.cells [.ptr d 0, .int .i64 fi, .int .i64 k, .int .i64 ec, .int .u64 (outF (dkf F fi k)).1.ix, .int .u64 (outF (dkf F fi k)).1.tm, .sl 1 [] .full, .sl 3 (es (outF (dkf F fi k)).2.1) gl, .sl 5 [] .full, .bool false])) bi 0 cap3 l d (ord (dkf F fi k)) := by
        rcases q2 with ⟨_, q3, q4⟩ | ⟨R, q2, q3⟩
        · exact .inl ⟨hz, q3, rfl, q4⟩
        · have bl : bi ≠ l := by rintro rfl; rw [k2 _ _ atH] at q3; cases q3
          have bd : bi ≠ d := by rintro rfl; rw [D2.at'] at q3; cases q3
          exact .inr ⟨by rw [hz]; rfl, R, by rw [hz]; exact hp_ne bl q2, bl, bd⟩
      refine loopS (σ := Unit) (fun _ => frm 144 [(1, .int .i64 fi), (2, .int .i64 k), (10, .ptr l 0), (11, .sl 1 (fv (dkf F fi k)) g), (14, .sref 1 bi 0 0 cap3), (57, .ptr l 0), (85, .sref 1 bi 0 0 cap3), (86, .int .i64 0), (87, .int .i64 0)]) (fun _ => []) (fun _ => 0) (fun _ h' => h' = _) () rfl rfl ?_
      rintro ⟨⟩ h4 rfl
      have hol : (ord (dkf F fi k)).length ≤ 10 := by rw [hz]; simp
      repeat' (first | ((with_reducible apply Nx.mk); conv => whnf) | ((with_reducible first | apply brS_i | apply spB_i) <;> intro c <;> (try exact absurd c (by decide)) <;> (try simp only [decide_eq_true_eq, decide_eq_false_iff_not, beq_iff_eq, bne_iff_ne, Bool.not_eq_true', Bool.not_eq_false', beq_eq_false_iff_ne, Bool.not_true, Bool.not_false, reduceCtorEq, ne_eq, bne_eq_false_iff_eq, Int.not_lt, Int.not_le, Decidable.not_not] at c) <;> (try (exfalso; omega))) | fail)
      have hfl : ∀ i, (fa (dkf F fi k) i).length < 4294967200 := fun i => by have := fa_len hbig i; omega
      refine loopS (σ := Nat) (fun i => frm 144 [(1, .int .i64 fi), (10, .ptr l 0), (11, .sl 1 (fv (dkf F fi k)) g), (14, .sref 1 bi 0 0 cap3), (57, .ptr l 0), (114, .int .i64 k), (115, .int .i64 i)]) (fun _ => []) (fun i => k - i)
        (fun i h' => i ≤ k ∧ JD h' l d (tidyA (dkf F fi k) fi i ⟨F, a, false⟩) ⟨fi, k, ec, (outF (dkf F fi k)).1, (outF (dkf F fi k)).2.1⟩ gl [] (.sl 5 [] .full) ∧ IB h' bi 0 cap3 l d (ord (dkf F fi k))) 0 rfl ⟨by simp, J4, ib4⟩ ?_
      clear J4 ib4
      rintro i h6 ⟨i1, J6, ib6⟩
      (try simp only at i1 J6 ib6 ⊢)
      have qa := tidyA_calls (dkf F fi k) fi ⟨F, a, false⟩ i
      simp only at qa
      by_cases hi : i < k
      · have hend : endAt (fa (dkf F fi k) i) ≤ (fg (tidyA (dkf F fi k) fi i ⟨F, a, false⟩).F (fi + i)).b.length := by
          rw [tidyA_ne i (fun _ _ => by omega), ← dkf_fa hi]; exact (rest_at' _).1
        repeat' (first | ((with_reducible apply Nx.mk); conv => whnf) | ((with_reducible apply RdV.i); (next => first | rfl | fail)) | ((with_reducible first | apply brS_i | apply spB_i) <;> intro c <;> (try exact absurd c (by decide)) <;> (try simp only [decide_eq_true_eq, decide_eq_false_iff_not, beq_iff_eq, bne_iff_ne, Bool.not_eq_true', Bool.not_eq_false', beq_eq_false_iff_ne, Bool.not_true, Bool.not_false, reduceCtorEq, ne_eq, bne_eq_false_iff_eq, Int.not_lt, Int.not_le, Decidable.not_not] at c) <;> (try (exfalso; omega))) | ((with_reducible apply RdE.i); (next => first | with_reducible rfl | fail); (next => first | with_reducible exact fv_at (by omega) | fail)) | ((with_reducible apply Wr.i); (next => first | with_reducible exact wn_addl (by omega) | with_reducible exact wn_add (by omega) | fail)) | ((with_reducible apply HN.i); (next => first | rfl | fail)) | ((with_reducible apply Plan.i); (next => kernel_rfl); (next => kernel_rfl)) | refine CallS.gives n56 (ib6.has (by omega)) ?_ | (refine CallS.by' n55 (tidy_k (fa (dkf F fi k) i) _ _ J6 (by omega) (hfl _) (fun _ => hend) (by omega)) ?_; rintro r' h7 ⟨rfl, J7, K7⟩) | with_reducible apply And.intro | exact EqV.mk rfl | fail)
        exact Js.Fin.mk ⟨i + 1, rfl, ⟨by omega, J7, ib6.kc K7⟩, by omega⟩
      obtain rfl : i = k := by omega
      have wc := fun g => write_calls (tidyA (dkf F fi i) fi i ⟨F, a, false⟩) fi (pk 1 (hdB 0 false 0 0)) g
      repeat' (first | ((with_reducible apply Nx.mk); conv => whnf) | ((with_reducible apply RdC.i); (next => ((repeat (first | exact JS.at' (by with_reducible assumption) | fail)); (first | done | fail))); (next => first | rfl | fail)) | ((with_reducible first | apply brS_i | apply spB_i) <;> intro c <;> (try exact absurd c (by decide)) <;> (try simp only [decide_eq_true_eq, decide_eq_false_iff_not, beq_iff_eq, bne_iff_ne, Bool.not_eq_true', Bool.not_eq_false', beq_eq_false_iff_ne, Bool.not_true, Bool.not_false, reduceCtorEq, ne_eq, bne_eq_false_iff_eq, Int.not_lt, Int.not_le, Decidable.not_not] at c) <;> (try (exfalso; omega))) | (refine CallS.by' n57 (start0_c 0 false 0 0 J6 (by simp only; omega) (by simp only; omega) (by omega) (by decide) (by decide) (by decide)) ?_; rintro r' h8 ⟨g8, sv8, rfl, J8⟩; have w8 := wc g8) | (refine CallS.by' n58 (idle_c J8 (by split <;> simp <;> omega) (by split <;> simp <;> omega) (by split <;> simp)) ?_; rintro r' h9 ⟨rfl, sv9, J9⟩) | with_reducible apply And.intro | exact trivial | fail)
      all_goals have hO : openO F a fi i g8 = idleO (writeO (tidyA (dkf F fi i) fi i ⟨F, a, false⟩) fi (pk 1 (hdB 0 false 0 0)) g8) (if writeE (tidyA (dkf F fi i) fi i ⟨F, a, false⟩) fi (pk 1 (hdB 0 false 0 0)) g8 = true then [⟨fi, 0, false, 0, 0⟩] else []) := by unfold openO startO; rw [if_pos hz]
      · exact Js.Fin.mk (.inr ⟨c0, l, g8, gl, sv9, by rw [hO, if_pos c], by rw [hO]; exact J9⟩)
      · exact Js.Fin.mk (.inr ⟨c0, l, g8, gl, sv9, by rw [hO, if_neg (by rw [c]; decide)], by rw [hO]; exact J9⟩)
    · have atS := k2 _ _ atH
      have hld : l ≠ d := by rintro rfl; rw [D.at'] at hl0; cases hl0
      have D2' := D2.other (cs2 := [.ptr d 0, .int .i64 fi, .int .i64 k, .int .i64 ec, .int .u64 0, .int .u64 0, .sl 1 [] .full, .sl 3 [] .full, .sref 5 0 0 0 0, .bool false]) atS hld
      repeat' (first | ((with_reducible apply Nx.mk); conv => whnf) | ((with_reducible apply RdH.i); (next => ((repeat (first | with_reducible assumption | fail)); (first | done | fail)))) | ((with_reducible first | apply brS_i | apply spB_i) <;> intro c <;> (try exact absurd c (by decide)) <;> (try simp only [decide_eq_true_eq, decide_eq_false_iff_not, beq_iff_eq, bne_iff_ne, Bool.not_eq_true', Bool.not_eq_false', beq_eq_false_iff_ne, Bool.not_true, Bool.not_false, reduceCtorEq, ne_eq, bne_eq_false_iff_eq, Int.not_lt, Int.not_le, Decidable.not_not] at c) <;> (try (exfalso; omega))) | ((with_reducible apply Up.i); (next => first | rfl | fail)) | (refine CallS.by' n47 (CallW.conv (cs2 := [.ptr d 0, .int .i64 fi, .int .i64 k, .int .i64 ec, .int .u64 0, .int .u64 0, .sl 1 [] .full, .sl 3 [] .full, .sref 5 0 0 0 0, .bool false]) atS rfl (conv_one (A := [.ptr d 0, .int .i64 fi, .int .i64 k, .int .i64 ec, .int .u64 0, .int .u64 0, .sl 1 [] .full, .sl 3 [] .full]) (B := [.bool false])) (scan_c (by omega) hbig)) ?_; rintro r' h3 ⟨s3, b3, gl, bi, n3, cap3, rfl, P3⟩; have at3 := s3 _ _ (hp_same _ _ _); have D3 := D2'.sub s3) | with_reducible apply And.intro | exact trivial | exact Nat.le_of_ble_eq_true rfl | fail)
      · exact Js.Fin.mk (.inl ⟨fun q => c (by omega), rfl, D3⟩)
      have c0 : (outF (dkf F fi k)).2.2 = 0 := by omega
      obtain ⟨q1, q2⟩ := P3.ord c0
      rcases q2 with ⟨q, _⟩ | ⟨Ri, q2, q3⟩
      · exact (hz q).elim
      have bil : bi ≠ l := by rintro rfl; rw [hp_same] at q3; cases q3
      have bid : bi ≠ d := by rintro rfl; rw [D2'.at'] at q3; cases q3
      have og0 : OG (h3.upd l (.cells [.ptr d 0, .int .i64 fi, .int .i64 k, .int .i64 ec, .int .u64 (outF (dkf F fi k)).1.ix, .int .u64 (outF (dkf F fi k)).1.tm, .sl 1 [] .full, .sl 3 (es (outF (dkf F fi k)).2.1) gl, .sref 5 0 0 0 0, .bool false])) l d bi F a ⟨fi, k, ec, (outF (dkf F fi k)).1, (outF (dkf F fi k)).2.1⟩ gl 0 0 [] (ord (dkf F fi k)) :=
        ⟨D3.other at3 hld, hp_same _ _ _, fun s e => hp_ne (by rintro rfl; have := (P3.slot _ e).1; rw [at3] at this; cases this) (P3.slot s e).1, P3.yes, hld, ⟨Ri, hp_ne bil q2, bil, bid⟩, .inl ⟨rfl, rfl, rfl⟩⟩
      subst q1
      refine loopS (σ := Nat × Nat × Nat) (fun s => frm 144 [(1, .int .i64 fi), (2, .int .i64 k), (10, .ptr l 0), (11, .sl 1 (fv (dkf F fi k)) g), (14, .sref 1 bi 0 (ord (dkf F fi k)).length cap3), (57, .ptr l 0), (85, .sref 1 bi 0 (ord (dkf F fi k)).length cap3), (86, .int .i64 (ord (dkf F fi k)).length), (87, .int .i64 s.1)]) (fun _ => []) (fun s => (ord (dkf F fi k)).length - s.1)
        (fun s h' => s.1 ≤ (ord (dkf F fi k)).length ∧ OG h' l d bi F a ⟨fi, k, ec, (outF (dkf F fi k)).1, (outF (dkf F fi k)).2.1⟩ gl s.2.1 s.2.2 (((ord (dkf F fi k)).take s.1).map (sgOf (dkf F fi k) fi)) (ord (dkf F fi k))) (0, 0, 0) rfl ⟨by simp, og0⟩ ?_
      clear og0 q2 at3 D3 s3 P3 b3
      rintro ⟨m, bl, cap⟩ h5 ⟨m1, og⟩
      simp only at m1 og ⊢
      obtain ⟨Rj, ib1, ib2, ib3⟩ := og.ib
      have hol : (ord (dkf F fi k)).length ≤ k := by have := sof_len (fs := dkf F fi k) (dkf F fi k).length; rw [lfs] at this; exact (by have e : sof (dkf F fi k) (dkf F fi k).length = ord (dkf F fi k) := rfl; rw [lfs] at e; rw [← e]; exact this)
      by_cases hm : m < (ord (dkf F fi k)).length
      · obtain ⟨a1, _⟩ := ord_at hm
        have hfl : ∀ i, (fa (dkf F fi k) i).length < 4294967200 := fun i => by have := fa_len hbig i; omega
        have hml : (((ord (dkf F fi k)).take m).map (sgOf (dkf F fi k) fi)).length = m := by simp; omega
        repeat' (first | ((with_reducible apply Nx.mk); conv => whnf) | ((with_reducible apply RdC.i); (next => ((repeat (first | with_reducible assumption | exact OG.at' (by with_reducible assumption) | fail)); (first | done | fail))); (next => first | with_reducible exact iv_at' hm | rfl | fail)) | ((with_reducible apply RdV.i); (next => first | rfl | fail)) | ((with_reducible apply At.i); (next => first | with_reducible rfl | fail); (next => first | omega | fail)) | ((with_reducible first | apply brS_i | apply spB_i) <;> intro c <;> (try exact absurd c (by decide)) <;> (try simp only [decide_eq_true_eq, decide_eq_false_iff_not, beq_iff_eq, bne_iff_ne, Bool.not_eq_true', Bool.not_eq_false', beq_eq_false_iff_ne, Bool.not_true, Bool.not_false, reduceCtorEq, ne_eq, bne_eq_false_iff_eq, Int.not_lt, Int.not_le, Decidable.not_not] at c) <;> (try (exfalso; omega))) | ((with_reducible apply RdE.i); (next => first | with_reducible rfl | fail); (next => first | with_reducible exact fv_at (by omega) | fail)) | ((with_reducible apply Wr.i); (next => first | with_reducible exact wn_add (by omega) | fail)) | ((with_reducible apply HN.i); (next => first | rfl | fail)) | ((with_reducible apply Plan.i); (next => kernel_rfl); (next => kernel_rfl)) | refine CallS.gives n54 (headOf_g _ _ (hfl _)) ?_ | with_reducible apply And.intro | exact trivial | with_reducible intro _ | exact Nat.le_of_ble_eq_true rfl | exact rfl | fail)
        · unfold mostLen; simp only [List.length_singleton]; omega
        · exact og.room
        · rename_i ap
          obtain ⟨e0, at6, og2⟩ := og.step (sgOf (dkf F fi k) fi ((ord (dkf F fi k)).getD m 0)) ap
          have ht : ((ord (dkf F fi k)).take m).map (sgOf (dkf F fi k) fi) ++ [sgOf (dkf F fi k) fi ((ord (dkf F fi k)).getD m 0)] = ((ord (dkf F fi k)).take (m + 1)).map (sgOf (dkf F fi k) fi) := by
            rw [List.take_succ_eq_append_getElem hm, List.map_append]; congr 1; simp [hm]
          have hml2 : (((ord (dkf F fi k)).take (m + 1)).map (sgOf (dkf F fi k) fi)).length = m + 1 := by simp; omega
          rw [ht, hml2] at og2
          rw [hml] at at6 ⊢
          subst e0
          repeat' (first | ((with_reducible apply Nx.mk); conv => whnf) | ((with_reducible apply RdH.i); (next => ((repeat (first | with_reducible assumption | fail)); (first | done | fail)))) | ((with_reducible apply Wr.i); (next => first | with_reducible exact wn_addl (by omega) | fail)) | ((with_reducible apply Up.i); (next => first | rfl | fail)) | fail)
          refine Js.Fin.mk ⟨(m + 1, _, _), ?_, ⟨by simp only; omega, og2⟩, by simp only; omega⟩
          rfl
      · obtain rfl : m = (ord (dkf F fi k)).length := by omega
        rw [List.take_length] at og
        have J4 := og.js (by simp [hz])
        have ib4 : IB h5 bi (ord (dkf F fi k)).length cap3 l d (ord (dkf F fi k)) := .inr ⟨rfl, Rj, ib1, ib2, ib3⟩
        repeat' (first | ((with_reducible apply Nx.mk); conv => whnf) | ((with_reducible first | apply brS_i | apply spB_i) <;> intro c <;> (try exact absurd c (by decide)) <;> (try simp only [decide_eq_true_eq, decide_eq_false_iff_not, beq_iff_eq, bne_iff_ne, Bool.not_eq_true', Bool.not_eq_false', beq_eq_false_iff_ne, Bool.not_true, Bool.not_false, reduceCtorEq, ne_eq, bne_eq_false_iff_eq, Int.not_lt, Int.not_le, Decidable.not_not] at c) <;> (try (exfalso; omega))) | fail)
        have hfl : ∀ i, (fa (dkf F fi k) i).length < 4294967200 := fun i => by have := fa_len hbig i; omega
        refine loopS (σ := Nat) (fun i => frm 144 [(1, .int .i64 fi), (10, .ptr l 0), (11, .sl 1 (fv (dkf F fi k)) g), (14, .sref 1 bi 0 (ord (dkf F fi k)).length cap3), (57, .ptr l 0), (114, .int .i64 k), (115, .int .i64 i)]) (fun _ => []) (fun i => k - i)
          (fun i h' => i ≤ k ∧ JD h' l d (tidyA (dkf F fi k) fi i ⟨F, a, false⟩) ⟨fi, k, ec, (outF (dkf F fi k)).1, (outF (dkf F fi k)).2.1⟩ gl ((ord (dkf F fi k)).map (sgOf (dkf F fi k) fi)) (.sref 5 bl 0 ((ord (dkf F fi k)).map (sgOf (dkf F fi k) fi)).length cap) ∧ IB h' bi (ord (dkf F fi k)).length cap3 l d (ord (dkf F fi k))) 0 rfl ⟨by simp, J4, ib4⟩ ?_
        clear J4 ib4
        rintro i h6 ⟨i1, J6, ib6⟩
        (try simp only at i1 J6 ib6 ⊢)
        have qa := tidyA_calls (dkf F fi k) fi ⟨F, a, false⟩ i
        simp only at qa
        by_cases hi : i < k
        · have hend : endAt (fa (dkf F fi k) i) ≤ (fg (tidyA (dkf F fi k) fi i ⟨F, a, false⟩).F (fi + i)).b.length := by
            rw [tidyA_ne i (fun _ _ => by omega), ← dkf_fa hi]; exact (rest_at' _).1
          repeat' (first | ((with_reducible apply Nx.mk); conv => whnf) | ((with_reducible apply RdV.i); (next => first | rfl | fail)) | ((with_reducible first | apply brS_i | apply spB_i) <;> intro c <;> (try exact absurd c (by decide)) <;> (try simp only [decide_eq_true_eq, decide_eq_false_iff_not, beq_iff_eq, bne_iff_ne, Bool.not_eq_true', Bool.not_eq_false', beq_eq_false_iff_ne, Bool.not_true, Bool.not_false, reduceCtorEq, ne_eq, bne_eq_false_iff_eq, Int.not_lt, Int.not_le, Decidable.not_not] at c) <;> (try (exfalso; omega))) | ((with_reducible apply RdE.i); (next => first | with_reducible rfl | fail); (next => first | with_reducible exact fv_at (by omega) | fail)) | ((with_reducible apply Wr.i); (next => first | with_reducible exact wn_addl (by omega) | with_reducible exact wn_add (by omega) | fail)) | ((with_reducible apply HN.i); (next => first | rfl | fail)) | ((with_reducible apply Plan.i); (next => kernel_rfl); (next => kernel_rfl)) | refine CallS.gives n56 (ib6.has (by omega)) ?_ | (refine CallS.by' n55 (tidy_k (fa (dkf F fi k) i) _ _ J6 (by omega) (hfl _) (fun _ => hend) (by omega)) ?_; rintro r' h7 ⟨rfl, J7, K7⟩) | with_reducible apply And.intro | exact EqV.mk rfl | fail)
          exact Js.Fin.mk ⟨i + 1, rfl, ⟨by omega, J7, ib6.kc K7⟩, by omega⟩
        obtain rfl : i = k := by omega
        have hfile : ∀ x ∈ (ord (dkf F fi i)).map (sgOf (dkf F fi i) fi), x.file < 32 := by
          intro x hx
          obtain ⟨y, hy, rfl⟩ := List.mem_map.1 hx
          have := (ord_iff.1 hy).1
          rw [lfs] at this
          simp only [sgOf]; omega
        repeat' (first | ((with_reducible apply Nx.mk); conv => whnf) | ((with_reducible apply RdC.i); (next => ((repeat (first | exact JS.at' (by with_reducible assumption) | fail)); (first | done | fail))); (next => first | rfl | fail)) | ((with_reducible first | apply brS_i | apply spB_i) <;> intro c <;> (try exact absurd c (by decide)) <;> (try simp only [decide_eq_true_eq, decide_eq_false_iff_not, beq_iff_eq, bne_iff_ne, Bool.not_eq_true', Bool.not_eq_false', beq_eq_false_iff_ne, Bool.not_true, Bool.not_false, reduceCtorEq, ne_eq, bne_eq_false_iff_eq, Int.not_lt, Int.not_le, Decidable.not_not] at c) <;> (try (exfalso; omega))) | (refine CallS.by' n58 (idle_c J6 (by rw [List.length_map]; omega) hfile (by rw [List.length_map]; omega)) ?_; rintro r' h9 ⟨rfl, sv9, J9⟩) | with_reducible apply And.intro | exact trivial | fail)
        · exact (hz (List.length_eq_zero_iff.1 (by omega))).elim
        all_goals have hO : openO F a fi i .full = idleO (tidyA (dkf F fi i) fi i ⟨F, a, false⟩) ((ord (dkf F fi i)).map (sgOf (dkf F fi i) fi)) := by unfold openO startO; rw [if_neg hz]
        · exact Js.Fin.mk (.inr ⟨c0, l, .full, gl, sv9, by rw [hO, if_pos c], by rw [hO]; exact J9⟩)
        · exact Js.Fin.mk (.inr ⟨c0, l, .full, gl, sv9, by rw [hO, if_neg (by rw [c]; decide)], by rw [hO]; exact J9⟩)
end J
end

section
/- A disk whose power stays, behind an Open, has what it had. -/
namespace J
open Go Go.Proofs Jb Js
set_option maxRecDepth 100000
set_option maxHeartbeats 4000000
def Un (a : Arm) : Prop := a.on = false ∧ a.down = false
theorem Un.blow {a : Arm} (u : Un a) : (blowA a).1 = false ∧ Un (blowA a).2 := by
  unfold blowA; rw [u.1]
  exact ⟨rfl, rfl, u.2⟩
theorem drp_un {F : List FG} {a : Arm} (i : Nat) (u : Un a) : drpO F a i = (F.set i ⟨[], 0, .full⟩, (blowA a).2, 0) := by unfold drpO; rw [u.2, u.blow.1]; rfl
theorem cut_un {F : List FG} {a : Arm} (i n : Nat) (u : Un a) : cutO F a i n = (F.set i ⟨(fg F i).b.take n, min (fg F i).s n, .full⟩, (blowA a).2, 0) := by unfold cutO; rw [u.2, u.blow.1]; rfl
theorem syn_un {F : List FG} {a : Arm} (i : Nat) (u : Un a) : synO F a i = (F.set i ⟨(fg F i).b, (fg F i).b.length, (fg F i).g⟩, (blowA a).2, 0) := by unfold synO; rw [u.2, u.blow.1]; rfl
theorem app_un {F : List FG} {a : Arm} (i : Nat) (b : List UInt8) (g : G) (u : Un a) (h : (fg F i).b.length + b.length ≤ 1048576) : appO F a i b g = (F.set i ⟨(fg F i).b ++ b, (fg F i).s, g⟩, (blowA a).2, 0) := by unfold appO; rw [u.2, u.blow.1, if_neg (by decide), if_neg (by omega)]; rfl
structure Sx (fs : List (List UInt8)) (fi mn : Nat) (keep : List Nat) (s : DB) : Prop where
  un : Un s.a
  br : s.br = false
  len : s.F.length = 32
  file : ∀ i, i < mn → (fg s.F (fi + i)).b = (if i ∈ keep then tid (fa fs i) else []) ∧ (fg s.F (fi + i)).s = (fg s.F (fi + i)).b.length
theorem Sx.drop {fs : List (List UInt8)} {fi mn x : Nat} {keep keep2 : List Nat} {s : DB} (q : Sx fs fi mn keep s) (hm : fi + mn ≤ 32) (hx : x < mn) (h : ∀ i, i ∈ keep2 ↔ i ∈ keep ∧ i ≠ x) :
    (drpO s.F s.a (fi + x)).2.2 = 0 ∧ Sx fs fi mn keep2 (doneB (drpO s.F s.a (fi + x)) s.br) := by
  rw [drp_un _ q.un]
  refine ⟨rfl, ⟨q.un.blow.2, by simp [doneB, q.br], by simp [doneB, q.len], fun i hi => ?_⟩⟩
  simp only [doneB]
  rw [fg_set (by rw [q.len]; omega)]
  by_cases e : i = x
  · subst e
    rw [if_pos rfl, if_neg (by rw [h]; simp)]
    exact ⟨rfl, rfl⟩
  · rw [if_neg (by omega)]
    have := q.file i hi
    have e2 : i ∈ keep2 ↔ i ∈ keep := by rw [h]; exact ⟨fun q => q.1, fun q => ⟨q, e⟩⟩
    simp only [e2]
    exact this
theorem any_mem {l : List Nat} {k : Nat} : (l.any fun y => y == k) = true ↔ k ∈ l := by rw [List.any_eq_true]; simp
theorem tidyA_x {F : List FG} {a : Arm} {fi mn : Nat} (u : Un a) (hF : F.length = 32) (hm : fi + mn ≤ 32) (hs : ∀ i, (fg F i).s ≤ (fg F i).b.length) : ∀ k, k ≤ mn →
    Un (tidyA (dkf F fi mn) fi k ⟨F, a, false⟩).a ∧ (tidyA (dkf F fi mn) fi k ⟨F, a, false⟩).br = false ∧ (tidyA (dkf F fi mn) fi k ⟨F, a, false⟩).F.length = 32 ∧
      ∀ i, i < k → (fg (tidyA (dkf F fi mn) fi k ⟨F, a, false⟩).F (fi + i)).b = (if i ∈ ord (dkf F fi mn) then tid (fa (dkf F fi mn) i) else []) ∧ (fg (tidyA (dkf F fi mn) fi k ⟨F, a, false⟩).F (fi + i)).s = (fg (tidyA (dkf F fi mn) fi k ⟨F, a, false⟩).F (fi + i)).b.length
  | 0, _ => ⟨u, rfl, hF, fun i h => by omega⟩
  | k + 1, hk => by
    obtain ⟨h1, h2, h3, h4⟩ := tidyA_x (fi := fi) (mn := mn) u hF hm hs k (by omega)
    have hcur : fg (tidyA (dkf F fi mn) fi k ⟨F, a, false⟩).F (fi + k) = fg F (fi + k) := tidyA_ne k fun i hi => by omega
    have hfa : fa (dkf F fi mn) k = (fg F (fi + k)).b := dkf_fa (by omega)
    have hsk := hs (fi + k)
    have hold : ∀ i, i < k → fg (tidyO (tidyA (dkf F fi mn) fi k ⟨F, a, false⟩) (fi + k) (fa (dkf F fi mn) k) ((ord (dkf F fi mn)).any fun y => y == k)).F (fi + i) = fg (tidyA (dkf F fi mn) fi k ⟨F, a, false⟩).F (fi + i) := fun i hi => tidy_ne (by omega)
    unfold tidyA
    generalize tidyA (dkf F fi mn) fi k ⟨F, a, false⟩ = s at h1 h2 h3 h4 hcur hold ⊢
    have hn : fi + k < s.F.length := by rw [h3]; omega
    have fin : ∀ t : DB, t = tidyO s (fi + k) (fa (dkf F fi mn) k) ((ord (dkf F fi mn)).any fun y => y == k) → Un t.a → t.br = false → t.F.length = 32 →
        ((fg t.F (fi + k)).b = (if k ∈ ord (dkf F fi mn) then tid (fa (dkf F fi mn) k) else []) ∧ (fg t.F (fi + k)).s = (fg t.F (fi + k)).b.length) →
        Un (tidyO s (fi + k) (fa (dkf F fi mn) k) ((ord (dkf F fi mn)).any fun y => y == k)).a ∧ (tidyO s (fi + k) (fa (dkf F fi mn) k) ((ord (dkf F fi mn)).any fun y => y == k)).br = false ∧ (tidyO s (fi + k) (fa (dkf F fi mn) k) ((ord (dkf F fi mn)).any fun y => y == k)).F.length = 32 ∧
          ∀ i, i < k + 1 → (fg (tidyO s (fi + k) (fa (dkf F fi mn) k) ((ord (dkf F fi mn)).any fun y => y == k)).F (fi + i)).b = (if i ∈ ord (dkf F fi mn) then tid (fa (dkf F fi mn) i) else []) ∧ (fg (tidyO s (fi + k) (fa (dkf F fi mn) k) ((ord (dkf F fi mn)).any fun y => y == k)).F (fi + i)).s = (fg (tidyO s (fi + k) (fa (dkf F fi mn) k) ((ord (dkf F fi mn)).any fun y => y == k)).F (fi + i)).b.length := by
      rintro t rfl t1 t2 t3 t4
      refine ⟨t1, t2, t3, fun i hi => ?_⟩
      by_cases e : i = k
      · subst e; exact t4
      · rw [hold i (by omega)]; exact h4 i (by omega)
    by_cases c1 : (fa (dkf F fi mn) k).length = 0
    · refine fin s (by unfold tidyO; rw [if_pos (.inr c1)]) h1 h2 h3 ?_
      have hnil : fa (dkf F fi mn) k = [] := List.length_eq_zero_iff.1 c1
      have hno : k ∉ ord (dkf F fi mn) := fun q => by
        have := (ord_iff.1 q).2
        unfold fo at this
        rw [hnil] at this
        cases this
      rw [if_neg hno, hcur, ← hfa, hnil]
      refine ⟨rfl, ?_⟩
      rw [← hfa, hnil] at hsk
      simpa using hsk
    · have n1 : ¬ (s.br = true ∨ (fa (dkf F fi mn) k).length = 0) := by simp [h2, c1]
      by_cases c2 : k ∈ ord (dkf F fi mn)
      · have n2 : ¬ ((ord (dkf F fi mn)).any fun y => y == k) = false := by simp [any_mem.2 c2]
        rw [if_pos c2] at fin
        by_cases c3 : endAt (fa (dkf F fi mn) k) < (fa (dkf F fi mn) k).length
        · refine fin _ (by unfold tidyO; rw [if_neg n1, if_neg n2, if_pos c3, cut_un _ _ h1, if_pos rfl]) ?_ ?_ ?_ ?_
          all_goals simp only [doneB]
          all_goals rw [syn_un _ h1.blow.2]
          · exact h1.blow.2.blow.2
          · simp [h2]
          · simp [h3]
          · simp only
            rw [fg_set (by simpa using hn), if_pos rfl, fg_set hn, if_pos rfl, hcur, hfa]
            exact ⟨rfl, rfl⟩
        · refine fin _ (by unfold tidyO; rw [if_neg n1, if_neg n2, if_neg c3]) ?_ ?_ ?_ ?_
          all_goals simp only [doneB]
          all_goals rw [syn_un _ h1]
          · exact h1.blow.2
          · simp [h2]
          · simp [h3]
          · simp only
            rw [fg_set hn, if_pos rfl, hcur]
            refine ⟨?_, rfl⟩
            have := (rest_at' (fa (dkf F fi mn) k)).1
            unfold tid
            rw [show endAt (fa (dkf F fi mn) k) = (fa (dkf F fi mn) k).length from by omega, List.take_length, hfa]
      · have n2 : ((ord (dkf F fi mn)).any fun y => y == k) = false := by rw [Bool.eq_false_iff]; intro q; exact c2 (any_mem.1 q)
        rw [if_neg c2] at fin
        refine fin _ (by unfold tidyO; rw [if_neg n1, if_pos n2]) ?_ ?_ ?_ ?_
        all_goals simp only [doneB]
        all_goals rw [drp_un _ h1]
        · exact h1.blow.2
        · simp [h2]
        · simp [h3]
        · simp only
          rw [fg_set hn, if_pos rfl]
          exact ⟨rfl, rfl⟩
theorem sga_cons (x : Sg) (r : List Sg) (k : Nat) : sga (x :: r) (k + 1) = sga r k := by simp [sga]
theorem lastN_cons (x : Sg) (r : List Sg) : ∀ k, lastN (x :: r) (k + 1) = if ((List.range (k + 1)).any fun i => (sga r i).new) = true then lastN r k + 1 else 0
  | 0 => by
    unfold lastN
    rw [sga_cons]
    simp [lastN]
  | k + 1 => by
    have ih := lastN_cons x r k
    rw [List.range_succ, List.any_append]
    conv => lhs; unfold lastN
    rw [sga_cons]
    by_cases c : (sga r (k + 1)).new = true
    · rw [if_pos c]
      simp only [List.any_cons, List.any_nil, c, Bool.or_true, Bool.true_or, if_true]
      unfold lastN; rw [if_pos c]
    · rw [if_neg c, ih]
      have e : lastN r (k + 1) = lastN r k := by conv => lhs; unfold lastN
                                                 rw [if_neg c]
      rw [e]
      simp only [List.any_cons, List.any_nil, Bool.not_eq_true _ |>.mp c, Bool.or_false]
theorem sga_map {l : List Nat} {sg : Nat → Sg} {i : Nat} (h : i < l.length) : sga (l.map sg) i = sg (l.getD i 0) := by simp [sga, h]
theorem range_any {l : List Nat} {p : Nat → Bool} : ((List.range l.length).any fun i => p (l.getD i 0)) = l.any p := by
  rw [Bool.eq_iff_iff, List.any_eq_true, List.any_eq_true]
  constructor
  · rintro ⟨i, hi, q⟩
    rw [List.mem_range] at hi
    exact ⟨l.getD i 0, by simp [hi], q⟩
  · rintro ⟨x, hx, q⟩
    obtain ⟨i, hi, rfl⟩ := List.mem_iff_getElem.1 hx
    exact ⟨i, List.mem_range.2 hi, by simpa [hi] using q⟩
theorem begun_drop (sg : Nat → Sg) : ∀ l : List Nat, l ≠ [] → begunL (fun i => (sg i).new) l = l.drop (lastN (l.map sg) (l.length - 1))
  | [], h => (h rfl).elim
  | [x], _ => rfl
  | x :: y :: r, _ => by
    have ih := begun_drop sg (y :: r) (by simp)
    have e : ((List.range ((y :: r).length - 1 + 1)).any fun i => (sga ((y :: r).map sg) i).new) = (y :: r).any fun i => (sg i).new := by
      rw [← range_any (l := y :: r) (p := fun i => (sg i).new), show (y :: r).length - 1 + 1 = (y :: r).length from rfl]
      rw [Bool.eq_iff_iff, List.any_eq_true, List.any_eq_true]
      constructor <;> (rintro ⟨i, hi, q⟩; refine ⟨i, hi, ?_⟩; rw [List.mem_range] at hi; first | (rw [sga_map hi] at q; exact q) | (rw [sga_map hi]; exact q))
    have k := lastN_cons (sg x) ((y :: r).map sg) ((y :: r).length - 1)
    rw [e] at k
    rw [List.map_cons, show (x :: y :: r).length - 1 = (y :: r).length - 1 + 1 from rfl, k]
    unfold begunL
    by_cases c : ((y :: r).any fun i => (sg i).new) = true
    · rw [if_pos c, if_pos c, ih]; rfl
    · rw [if_neg c, if_neg c]; rfl
theorem begO_x {fs : List (List UInt8)} {fi mn : Nat} (hm : fi + mn ≤ 32) : ∀ (k : Nat) (l : List Nat) (s : DB), Sx fs fi mn l s → l.Nodup → (∀ x ∈ l, x < mn) → k ≤ l.length - 1 →
    ∃ s', begO k s (l.map (sgOf fs fi)) = (s', (l.drop k).map (sgOf fs fi)) ∧ Sx fs fi mn (l.drop k) s'
  | 0, l, s, q, _, _, _ => ⟨s, rfl, q⟩
  | k + 1, [], s, q, _, _, h => by simp at h
  | k + 1, x :: r, s, q, nd, hx, h => by
    rw [List.nodup_cons] at nd
    simp only [List.length_cons] at h
    obtain ⟨h1, h2⟩ := q.drop (keep2 := r) hm (hx x (by simp)) fun i => by
      constructor
      · intro hi; exact ⟨by simp [hi], fun e => nd.1 (by rw [← e]; exact hi)⟩
      · rintro ⟨a, b⟩; exact (List.mem_cons.1 a).resolve_left b
    obtain ⟨s', e, q2⟩ := begO_x hm k r _ h2 nd.2 (fun y hy => hx y (by simp [hy])) (by omega)
    refine ⟨s', ?_, q2⟩
    rw [begO_go]
    have e1 : (sga ((x :: r).map (sgOf fs fi)) 0).file = fi + x := rfl
    rw [e1, if_pos h1]
    exact e
def stepL (nw : Nat → Bool) (ix : Nat → Nat) (x : Nat) (t : List Nat) : List Nat := match t with
  | [] => [x]
  | n :: q => if (nw n || decide (ix n ≤ ix x)) = true then n :: q else x :: n :: q
theorem idleL_fold (nw : Nat → Bool) (ix : Nat → Nat) : ∀ l, idleL nw ix l = l.foldr (stepL nw ix) []
  | [] => rfl
  | x :: r => by
    have ih := idleL_fold nw ix r
    unfold idleL
    rw [List.foldr_cons, ← ih]
    cases idleL nw ix r <;> rfl
theorem sg_at (fs : List (List UInt8)) (fi : Nat) (A : List Nat) (x : Nat) (B : List Nat) : sga ((A ++ x :: B).map (sgOf fs fi)) A.length = sgOf fs fi x := by
  rw [sga_map (by simp)]; simp
theorem idlO_x {fs : List (List UInt8)} {fi mn : Nat} (hm : fi + mn ≤ 32) : ∀ (k : Nat) (A B : List Nat) (s : DB), A.length = k → B ≠ [] → Sx fs fi mn (A ++ B) s → (A ++ B).Nodup → (∀ x ∈ A ++ B, x < mn) →
    ∃ s', idlO k s ((A ++ B).map (sgOf fs fi)) = (s', (A.foldr (stepL (fun i => fhNew (fa fs i)) (fun i => fhIx (fa fs i))) B).map (sgOf fs fi)) ∧ Sx fs fi mn (A.foldr (stepL (fun i => fhNew (fa fs i)) (fun i => fhIx (fa fs i))) B) s'
  | 0, A, B, s, hA, hB, q, nd, hx => by
    rw [List.length_eq_zero_iff.1 hA] at q ⊢
    exact ⟨s, rfl, q⟩
  | k + 1, A, B, s, hA, hB, q, nd, hx => by
    rcases List.eq_nil_or_concat A with rfl | ⟨A', x, e⟩
    · simp at hA
    rw [List.concat_eq_append] at e
    subst e
    simp only [List.length_append, List.length_singleton] at hA
    obtain ⟨n, Q, rfl⟩ : ∃ n Q, B = n :: Q := by cases B with | nil => exact (hB rfl).elim | cons n Q => exact ⟨n, Q, rfl⟩
    have ek : A'.length = k := by omega
    have e0 : A' ++ [x] ++ n :: Q = A' ++ x :: n :: Q := by simp
    rw [e0] at q nd hx ⊢
    have g1 : sga ((A' ++ x :: n :: Q).map (sgOf fs fi)) k = sgOf fs fi x := by rw [← ek]; exact sg_at fs fi A' x (n :: Q)
    have g2 : sga ((A' ++ x :: n :: Q).map (sgOf fs fi)) (k + 1) = sgOf fs fi n := by
      have := sg_at fs fi (A' ++ [x]) n Q
      rw [show A' ++ [x] ++ n :: Q = A' ++ x :: n :: Q from by simp, List.length_append, List.length_singleton, ek] at this
      exact this
    have ndx := nd
    rw [List.nodup_append] at ndx
    obtain ⟨d1, d2, d3⟩ := ndx
    rw [List.nodup_cons] at d2
    rw [idlO_go, if_neg (by rw [q.br]; decide), g1, g2, List.foldr_append, List.foldr_cons, List.foldr_nil]
    by_cases c : (sgOf fs fi n).new = true ∨ (sgOf fs fi n).ix ≤ (sgOf fs fi x).ix
    · have c' : (fhNew (fa fs n) || decide (fhIx (fa fs n) ≤ fhIx (fa fs x))) = true := by rw [Bool.or_eq_true, decide_eq_true_eq]; exact c
      have es : stepL (fun i => fhNew (fa fs i)) (fun i => fhIx (fa fs i)) x (n :: Q) = n :: Q := if_pos c'
      rw [if_pos c, es]
      obtain ⟨h1, h2⟩ := q.drop (keep2 := A' ++ n :: Q) hm (hx x (by simp)) fun i => by
        constructor
        · intro hi
          refine ⟨by simp only [List.mem_append, List.mem_cons] at hi ⊢; rcases hi with h | h | h <;> simp [h], ?_⟩
          rintro rfl
          rcases List.mem_append.1 hi with h | h
          · exact d3 i h i (by simp) rfl
          · exact d2.1 h
        · rintro ⟨a, b⟩
          simp only [List.mem_append, List.mem_cons] at a ⊢
          rcases a with h | h | h | h
          · simp [h]
          · exact (b h).elim
          · simp [h]
          · simp [h]
      have ef : (sgOf fs fi x).file = fi + x := rfl
      rw [ef, if_pos h1]
      have ee : ((A' ++ x :: n :: Q).map (sgOf fs fi)).eraseIdx k = (A' ++ n :: Q).map (sgOf fs fi) := by
        rw [← ek, List.map_append, List.eraseIdx_append_of_length_le (by simp)]
        simp
      rw [ee]
      refine idlO_x hm k A' (n :: Q) _ ek (by simp) h2 ?_ fun y hy => hx y (by simp only [List.mem_append, List.mem_cons] at hy ⊢; rcases hy with h | h | h <;> simp [h])
      rw [List.nodup_append]
      exact ⟨d1, d2.2, fun a ha b hb => d3 a ha b (by simp only [List.mem_cons] at hb ⊢; rcases hb with h | h <;> simp [h])⟩
    · have c' : ¬ (fhNew (fa fs n) || decide (fhIx (fa fs n) ≤ fhIx (fa fs x))) = true := by rw [Bool.or_eq_true, decide_eq_true_eq]; exact c
      have es : stepL (fun i => fhNew (fa fs i)) (fun i => fhIx (fa fs i)) x (n :: Q) = x :: n :: Q := if_neg c'
      rw [if_neg c, es]
      exact idlO_x hm k A' (x :: n :: Q) s ek (by simp) q nd hx
theorem idle_x {fs : List (List UInt8)} {fi mn : Nat} {l : List Nat} {s : DB} (hm : fi + mn ≤ 32) (q : Sx fs fi mn l s) (nd : l.Nodup) (hx : ∀ x ∈ l, x < mn) (hl : l ≠ []) : Sx fs fi mn (keepL fs l) (idleO s (l.map (sgOf fs fi))).1 := by
  have hb := begun_drop (sgOf fs fi) l hl
  obtain ⟨s1, e1, q1⟩ := begO_x hm (lastN (l.map (sgOf fs fi)) (l.length - 1)) l s q nd hx (by have := lastN_le (l.map (sgOf fs fi)) (l.length - 1); omega)
  have hb' : l.drop (lastN (l.map (sgOf fs fi)) (l.length - 1)) = begunL (fun i => fhNew (fa fs i)) l := hb.symm
  rw [hb'] at e1 q1
  have sub := begunL_sub (fun i => fhNew (fa fs i)) l
  unfold idleO
  rw [List.length_map, e1, if_neg (by simp only; rw [q1.br]; decide)]
  simp only [List.length_map]
  have hne : begunL (fun i => fhNew (fa fs i)) l ≠ [] := by cases l with | nil => exact (hl rfl).elim | cons x r => exact begunL_ne _ x r
  unfold keepL
  generalize begunL (fun i => fhNew (fa fs i)) l = m at *
  rcases List.eq_nil_or_concat m with rfl | ⟨A, z, e⟩
  · exact (hne rfl).elim
  rw [List.concat_eq_append] at e
  subst e
  obtain ⟨s2, e2, q2⟩ := idlO_x hm A.length A [z] s1 rfl (by simp) q1 (nd.sublist sub) fun y hy => hx y (sub.subset hy)
  rw [idleL_fold, List.foldr_append]
  have el : (A ++ [z]).length - 1 = A.length := by simp
  rw [el, e2]
  exact q2
end J
end

section
/- Behind an Open the disk has what it had. -/
namespace J
open Go Go.Proofs Jb Js
set_option maxRecDepth 100000
set_option maxHeartbeats 4000000
def hb0 : List UInt8 := [1, 4, 0, 0, 0, 0] ++ fourB (crcN [1, 4, 0, 0, 0, 0])
theorem hb0_eq : pk 1 (hdB 0 false 0 0) = hb0 := by
  have e0 : encN 0 = [0] := encN_lo (by decide)
  have e4 : encN 4 = [4] := encN_lo (by decide)
  have h : hdB 0 false 0 0 = [0, 0, 0, 0] := by unfold hdB; simp [e0]
  unfold pk
  rw [h]
  simp only [List.length_cons, List.length_nil, Nat.zero_add, Nat.reduceAdd, e4]
  rfl
theorem hb0_ok : fhOk hb0 = true := by kernel_rfl
theorem hb0_at : fhIx hb0 = 0 ∧ fhTm hb0 = 0 := ⟨by kernel_rfl, by kernel_rfl⟩
theorem hb0_len : hb0.length = 10 := by kernel_rfl
theorem hb0_n : tkN hb0 = 10 := by kernel_rfl
theorem hb0_e : tkE hb0 = 0 := by kernel_rfl
theorem hb0_steps : steps true ⟨⟨0, 0, []⟩, [], false, 0⟩ hb0 = some ⟨⟨0, 0, []⟩, [], true, 0⟩ := by
  rw [steps_head hb0_ok rfl, if_pos (show (true || fhNew hb0) = true from rfl), hb0_at.1, hb0_at.2, hb0_n]
  have e : hb0.drop 10 = [] := List.drop_eq_nil_of_le (by rw [hb0_len]; exact Nat.le_refl _)
  rw [e, steps_end (by rw [tkE_nil']; decide)]
theorem hb0_end : endC hb0 = 0 := by
  rw [← endC_go hb0_e, hb0_n]
  have e : hb0.drop 10 = [] := List.drop_eq_nil_of_le (by rw [hb0_len]; exact Nat.le_refl _)
  rw [e]; exact endC_nil
theorem fhOk_nil : fhOk [] = false := rfl
theorem fa_out {fs : List (List UInt8)} {x : Nat} (h : fs.length ≤ x) : fa fs x = [] := by unfold fa; simp [h]
theorem ord_nodup (fs : List (List UInt8)) : (ord fs).Nodup := (ord_pw fs).imp fun {a b} h e => by subst e; exact h.irr
theorem open_x {F : List FG} {a : Arm} {fi mn : Nat} {g : G} {E : Ent} {L : List Ent} (u : Un a) (hF : F.length = 32) (hs : ∀ i, (fg F i).s ≤ (fg F i).b.length) (h2 : 2 ≤ mn) (h10 : mn ≤ 10) (hfi : fi ≤ 20) (e : outF (dkf F fi mn) = (E, L, 0)) :
    (openO F a fi mn g).1.br = false ∧ outF (dkf (openO F a fi mn g).1.F fi mn) = (E, L, 0) ∧ ord (dkf (openO F a fi mn g).1.F fi mn) ≠ [] ∧
      (∀ i, i < mn → (fg (openO F a fi mn g).1.F (fi + i)).s = (fg (openO F a fi mn g).1.F (fi + i)).b.length) ∧ Un (openO F a fi mn g).1.a := by
  have hm : fi + mn ≤ 32 := by omega
  obtain ⟨t1, t2, t3, t4⟩ := tidyA_x (fi := fi) (mn := mn) u hF hm hs mn (Nat.le_refl _)
  have T : Sx (dkf F fi mn) fi mn (ord (dkf F fi mn)) (tidyA (dkf F fi mn) fi mn ⟨F, a, false⟩) := ⟨t1, t2, t3, t4⟩
  unfold openO startO
  generalize tidyA (dkf F fi mn) fi mn ⟨F, a, false⟩ = s1 at T t1 t2 t3 t4 ⊢
  by_cases hz : ord (dkf F fi mn) = []
  · rw [if_pos hz, hb0_eq]
    have hcur : (fg s1.F fi).b = [] := by have := (t4 0 (by omega)).1; rw [hz] at this; simpa using this
    have hcs : (fg s1.F fi).s = 0 := by have := (t4 0 (by omega)).2; rw [Nat.add_zero, hcur] at this; simpa using this
    have hfn : fi < s1.F.length := by rw [t3]; omega
    have ea := app_un (F := s1.F) fi hb0 g t1 (by rw [hcur, hb0_len]; decide)
    have ew : writeO s1 fi hb0 g = ⟨(s1.F.set fi ⟨(fg s1.F fi).b ++ hb0, (fg s1.F fi).s, g⟩).set fi ⟨(fg s1.F fi).b ++ hb0, ((fg s1.F fi).b ++ hb0).length, g⟩, (blowA (blowA s1.a).2).2, false⟩ := by
      unfold writeO
      rw [ea]
      simp only [if_true, doneB]
      rw [syn_un _ t1.blow.2]
      simp only
      rw [fg_set hfn, if_pos rfl, t2]
      rfl
    have ee : writeE s1 fi hb0 g = true := by unfold writeE; rw [ea]; simp only; rw [syn_un _ t1.blow.2]; rfl
    rw [ee]
    simp only [if_true]
    have ei : idleO (writeO s1 fi hb0 g) [⟨fi, 0, false, 0, 0⟩] = (writeO s1 fi hb0 g, [⟨fi, 0, false, 0, 0⟩]) := by
      unfold idleO
      rw [ew]
      rfl
    rw [ei, ew]
    simp only
    rw [hcur, List.nil_append, List.set_set]
    have gf : ∀ i, i < mn → (fg (s1.F.set fi ⟨hb0, hb0.length, g⟩) (fi + i)).b = (if i = 0 then hb0 else []) ∧ (fg (s1.F.set fi ⟨hb0, hb0.length, g⟩) (fi + i)).s = (fg (s1.F.set fi ⟨hb0, hb0.length, g⟩) (fi + i)).b.length := by
      intro i hi
      rw [fg_set hfn]
      by_cases c : i = 0
      · subst c; simp
      · rw [if_neg (by omega), if_neg c]
        have := t4 i hi
        rw [hz] at this
        simp only [List.not_mem_nil, if_false] at this
        exact this
    generalize s1.F.set fi ⟨hb0, hb0.length, g⟩ = F2 at gf ⊢
    have hfa : ∀ i, fa (dkf F2 fi mn) i = if i = 0 then hb0 else [] := fun i => by
      by_cases c : i < mn
      · rw [dkf_fa c]; exact (gf i c).1
      · rw [fa_out (by rw [dkf_len]; omega), if_neg (by omega)]
    have ho : ord (dkf F2 fi mn) = [0] := by
      refine pw_uniq (ord_pw _) (List.pairwise_singleton _ _) fun x => ?_
      rw [ord_iff, dkf_len, List.mem_singleton]
      unfold fo
      rw [hfa]
      constructor
      · rintro ⟨_, q⟩
        by_cases c : x = 0
        · exact c
        · rw [if_neg c, fhOk_nil] at q; cases q
      · rintro rfl
        rw [if_pos rfl]
        exact ⟨by omega, hb0_ok⟩
    have eo : E = ⟨0, 0, []⟩ ∧ L = [] := by
      unfold outF at e
      rw [hz] at e
      simp only [runF, Prod.mk.injEq] at e
      exact ⟨e.1.symm, e.2.1.symm⟩
    refine ⟨trivial, ?_, by rw [ho]; simp, fun i hi => (gf i hi).2, t1.blow.2.blow.2⟩
    unfold outF
    rw [ho, runF_go, hfa, if_pos rfl, hb0_steps, hb0_end, eo.1, eo.2]
    rfl
  · rw [if_neg hz]
    have q := idle_x hm T (ord_nodup _) (fun x hx => by have := (ord_iff.1 hx).1; rw [dkf_len] at this; exact this) hz
    simp only
    generalize (idleO s1 ((ord (dkf F fi mn)).map (sgOf (dkf F fi mn) fi))).1 = s2 at q ⊢
    have r := rescan (gs := dkf s2.F fi mn) e (by rw [dkf_len, dkf_len]) (fun x hx => by
        have hxm := (ord_iff.1 ((keep_sub _ _).subset hx)).1
        rw [dkf_len] at hxm
        rw [dkf_fa hxm, (q.file x hxm).1, if_pos hx]) (fun x hx => by
        by_cases c : x < mn
        · rw [dkf_fa c, (q.file x c).1, if_neg hx]; rfl
        · rw [fa_out (by rw [dkf_len]; omega)]; rfl)
    refine ⟨q.br, r.2, ?_, fun i hi => (q.file i hi).2, q.un⟩
    rw [r.1]
    unfold keepL
    cases hb : begunL (fun i => fhNew (fa (dkf F fi mn) i)) (ord (dkf F fi mn)) with
    | nil =>
      cases ho : ord (dkf F fi mn) with
      | nil => exact (hz ho).elim
      | cons x t => rw [ho] at hb; exact (begunL_ne _ x t hb).elim
    | cons x t => exact idleL_ne _ _ x t
end J
end
