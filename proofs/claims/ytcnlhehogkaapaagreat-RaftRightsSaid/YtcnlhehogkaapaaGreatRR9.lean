/- Proved here: of RR9, that what the Go functions of this part compute is as their contracts say (texts Ua, Ub, Ud, Uc, Ue), for every input; no condition beyond those that each theorem states. -/
import Derived.Test.YtcnlhehogkaapaaGreatRR8
import Derived.Test.YtcnlhehogkaapaaGreatRows
import Derived.Test.YtcnlhehogkaapaaGreatRR7
import Derived.Deep.DeepHandedRow
set_option linter.all false
section
/- bytes.Clone of nothing; the lives of raft; chance.Below of no source. -/
namespace Go.Proofs.YtcnlhehogkaapaaGreat
open Go Jb Jt
set_option maxRecDepth 100000

theorem mix : Tryz.prog.follows .mixedOrders = true := by kernel_rfl

def cloneHook : Hook := fun f args h nx =>
  match Nat.beq f 94, args with
  | true, [.sl 1 [] .full] => some (.sl 1 [] .full, h, nx)
  | true, [.sl 1 [] .no] => some (.sl 1 [] .full, h, nx)
  | _, _ => none

def cf0 : Cfg := { esc := [], wipes := [] }
theorem clone_wp (g : G) (h : Heap) (K : V → Heap → Prop) : bodyW Tryz.prog cf0 (Tryz.prog.funcs.getD 94 default) [.sl 1 [] g] h K =
    (∀ b : Bool, (([] : List (List V)) ≠ [] → b = false) → brW b (K (.sl 1 [] .full) h) (True ∧ 0 + 0 ≤ mostLen ∧ K (.sl 1 [] .full) h)) := by kernel_rfl
theorem getD94 : Tryz.prog.funcs.getD 94 default = Tryz.f94 := by kernel_rfl

theorem clone_call (g : G) (h : Heap) : CallW Tryz.prog 94 [.sl 1 [] g] h fun u h' => u = .sl 1 [] .full ∧ h' = h := by
  refine CallW.body mix cf0 Tryz.func94 (Nat.le_of_ble_eq_true (by kernel_rfl)) ?_
  rw [← getD94, clone_wp]
  intro b _
  cases b
  · exact ⟨trivial, by decide, rfl, rfl⟩
  · exact ⟨rfl, rfl⟩


theorem clone_ok : HookOk Tryz.prog cloneHook := by
  intro f args H nx v H' nx' hr
  have main : f = 94 → ∀ g, args = [.sl 1 [] g] → v = .sl 1 [] .full → H' = H → nx' = nx → ∀ ρ args' h, VL ρ args args' → HX ρ H nx h →
      AnyW Tryz.prog f args' h fun u h' => ∃ ρ', Sub ρ ρ' ∧ VR ρ' v u ∧ HX ρ' H' nx' h' := by
    rintro rfl g rfl rfl rfl rfl
    intro ρ args' h ha X
    have : args' = [.sl 1 [] g] := by
      cases args' with
      | nil => have := ha.1; simp at this
      | cons u r =>
        obtain ⟨h1, h2⟩ := ha.tail
        have hr : r = [] := List.length_eq_zero_iff.1 (by simpa using h2.1)
        obtain ⟨l', rfl, hl, _⟩ := h1.sl_inv
        have hl' : l' = [] := List.length_eq_zero_iff.1 (by simpa using hl.1)
        rw [hr, hl']
    rw [this]
    refine AnyW.call (by kernel_rfl) ((clone_call g h).mono ?_)
    rintro u h' ⟨rfl, rfl⟩
    exact ⟨ρ, Sub.refl _, .ofVLL (by simp) .nil, X⟩
  unfold cloneHook at hr
  split at hr
  · rename_i e; cases hr; exact main (Nat.eq_of_beq_eq_true e) _ rfl rfl rfl rfl
  · rename_i e; cases hr; exact main (Nat.eq_of_beq_eq_true e) _ rfl rfl rfl rfl
  · cases hr


theorem lives_tree : prune (((callX Tryz.prog cloneHook noL 100000 60).call 63 [] .nil 1).bind fun r => .ret r.1) [] = .ret (.bool true) := by kernel_rfl
theorem lives_call : CallW Tryz.prog 63 [] nilH fun u _ => u = .bool true :=
  law_of mix clone_ok noL_ok (by kernel_rfl) lives_tree (w := nums []) rfl ⟨rfl, fun i v u h => by simp at h⟩ nilH
end Go.Proofs.YtcnlhehogkaapaaGreat
end

section
/- chance.Below of no source tells 0. -/
namespace Go.Proofs.YtcnlhehogkaapaaGreat
open Go Jb Jt
set_option maxRecDepth 100000

def loops : Code → List Code
  | .seq a b => loops a ++ loops b
  | .cond _ a b => loops a ++ loops b
  | .block _ c => loops c
  | .loop c => c :: loops c
  | .scope c => loops c
  | _ => []
theorem subLoop_mem {c' : Code} : ∀ {c : Code}, subLoop c' c → c' ∈ loops c := by
  intro c
  induction c with
  | seq a b ia ib => intro h; rcases h with h | h; exact List.mem_append.2 (.inl (ia h)); exact List.mem_append.2 (.inr (ib h))
  | cond _ a b ia ib => intro h; rcases h with h | h; exact List.mem_append.2 (.inl (ia h)); exact List.mem_append.2 (.inr (ib h))
  | block _ c ic => exact fun h => ic h
  | scope c ic => exact fun h => ic h
  | loop c ic => intro h; rcases h with h | h; exact h ▸ List.mem_cons_self; exact List.mem_cons_of_mem _ (ic h)
  | _ => exact fun h => h.elim

noncomputable def B245 : Code := bodyOf Tryz.f245
noncomputable def L245 : Code := (loops B245).headD .skip
theorem loops245 : loops B245 = [L245] := by kernel_rfl

noncomputable def lkSome : LHook := fun f id s =>
  match Nat.beq f 245 && Nat.beq id 3, s.h, s.tm.get 4, s.tm.get 5 with
  | true, .nil, some (.int .u64 x), some (.fn (.func k) [.nilp] []) =>
    (match s.tm.get 8, s.tm.get 9 with
     | some v8, some (.int .i64 i) => (match symI v8, x == 0 && i == 0 && Nat.beq k 268 && Nat.beq s.nx 1 with
        | some (.i64, .tup [.int .i64 c, _, _]), true => (match c == 4 with | true => some (.exit 0, ⟨T.put (some (.int .u64 0)) .nil 4, .nil, 1⟩) | false => none)
        | _, _ => none)
     | _, _ => none)
  | _, _, _, _ => none

noncomputable def TM : T V := T.put (some (.int .u64 0)) (T.put (some (.fn (.func 268) [.nilp] [])) (T.put (some (mkI .i64 (.ptr 1 0))) (T.put (some (mkI .i64 (.ptr 0 0))) .nil 9) 8) 5) 4
theorem TM_get {t : Nat} {v : V} (h : TM.get t = some v) : t = 4 ∧ v = .int .u64 0 ∨ t = 5 ∧ v = .fn (.func 268) [.nilp] [] ∨ t = 8 ∧ v = mkI .i64 (.ptr 1 0) ∨ t = 9 ∧ v = mkI .i64 (.ptr 0 0) := by
  unfold TM at h
  rw [T.get_put, T.get_put, T.get_put, T.get_put] at h
  split at h
  · rename_i e; cases h; exact .inl ⟨e, rfl⟩
  split at h
  · rename_i e; cases h; exact .inr (.inl ⟨e, rfl⟩)
  split at h
  · rename_i e; cases h; exact .inr (.inr (.inl ⟨e, rfl⟩))
  split at h
  · rename_i e; cases h; exact .inr (.inr (.inr ⟨e, rfl⟩))
  · rw [T.get_nil] at h; cases h

noncomputable def E0 : Env := callX Tryz.prog noHook noL 100 5
noncomputable def R : Tr (Ex × St) := exX Tryz.prog E0 245 (slots Tryz.prog B245) false 19 100 L245 ⟨TM, .nil, 1⟩
def stT : Tr (Ex × St) → St
  | .node _ (.ret a) _ => a.2
  | _ => ⟨.nil, .nil, 0⟩
def stE : Tr (Ex × St) → St
  | .node _ _ (.ret a) => a.2
  | _ => ⟨.nil, .nil, 0⟩
theorem R_eq : R = .node ⟨.lss, .ptr 0 0, .ptr 1 0⟩ (.ret (.normal, stT R)) (.ret (.exit 0, stE R)) := by kernel_rfl
theorem R4 : (stT R).tm.get 4 = some (.int .u64 0) := by kernel_rfl
theorem R5 : (stT R).tm.get 5 = some (.fn (.func 268) [.nilp] []) := by kernel_rfl
theorem R8 : (stT R).tm.get 8 = some (mkI .i64 (.ptr 1 0)) := by kernel_rfl
theorem R9 : (stT R).tm.get 9 = some (mkI .i64 (.tup [.int .i64 1, .ptr 0 0, .int .i64 1])) := by kernel_rfl
theorem R4e : (stE R).tm.get 4 = some (.int .u64 0) := by kernel_rfl

theorem num_inv {ρ : Locs} {k : IntKind} {e u : V} (h : VR ρ (mkI k e) u) : u = .int k (denI ρ.vals e) := by
  unfold mkI at h
  cases h with
  | iface _ _ _ ht => rw [unk_big] at ht; cases ht
  | num => rfl

/-- Two numbers: the round, the bound. -/
def two (N : Int) (i : Nat) : Vals := nums [(i : Int), N]

theorem lk_ok : LHookOk Tryz.prog lkSome := by
  intro f fn c hf hc s e s' c' hs hl ρ h fr X F Q hK
  unfold lkSome at hl
  split at hl
  case h_2 => cases hl
  rename_i x k hb hh h4 h5
  split at hl
  case h_2 => cases hl
  rename_i v8 i h8 h9
  split at hl
  case h_2 => cases hl
  rename_i cc a b hsy hck
  split at hl
  case h_2 => cases hl
  rename_i hc4
  cases hl
  simp only [Bool.and_eq_true] at hb hck
  obtain ⟨⟨⟨hx, hi⟩, hk⟩, hnx⟩ := hck
  cases eq_of_beq hx
  cases eq_of_beq hi
  cases eq_of_beq hc4
  cases Nat.eq_of_beq_eq_true hk
  have hnx := Nat.eq_of_beq_eq_true hnx
  cases Nat.eq_of_beq_eq_true hb.1
  rw [Tryz.func245] at hf
  cases hf
  have hB : c = B245 := by unfold B245 bodyOf; rw [hc]
  subst hB
  have hL : c' = L245 := by
    have := subLoop_mem hs
    rw [loops245] at this
    simpa using this
  subst hL
  rw [hh, hnx] at X
  have h0 : ∀ k, ρ k = none := fun k => by
    cases k with
    | zero => exact X.zero
    | succ k => exact (X.fresh (k + 1) (by omega)).1
  -- the bound
  let N : Int := denI ρ.vals (.tup [.int .i64 4, a, b])
  have hN : N ≤ 9223372036854775807 := by
    show denI ρ.vals (.tup [.int .i64 4, a, b]) ≤ _
    have : denI ρ.vals (.tup [.int .i64 4, a, b]) = IntKind.i64.wrap ((denI ρ.vals a).tdiv (denI ρ.vals b)) := by
      cases a <;> simp [denI, opI]
    rw [this, IntKind.wrap_i64]
    omega
  unfold wpA
  have F0 : FX ⟨fun _ => none, two N 0⟩ TM Tryz.f245.ntmps fr := F.weaken fun t v' ht => by
    rcases TM_get ht with ⟨rfl, rfl⟩ | ⟨rfl, rfl⟩ | ⟨rfl, rfl⟩ | ⟨rfl, rfl⟩
    · exact ⟨_, h4, fun u hu => by cases hu; exact .int _ _⟩
    · refine ⟨_, h5, fun u hu => ?_⟩
      cases hu with
      | fn _ _ a' _ b' l1 l2 ha hb' =>
        obtain rfl : b' = [] := List.length_eq_zero_iff.1 (by simpa using l2)
        match a', l1 with
        | [y], _ =>
          cases ha 0 _ y rfl rfl
          exact .fn _ _ _ _ _ rfl rfl (fun i v u hv hu => by
            cases i with
            | zero => simp at hv hu; subst hv hu; exact .nilp
            | succ i => simp at hv) (fun i v u hv => by simp at hv)
    · refine ⟨_, h8, fun u hu => ?_⟩
      rw [symI_sound hsy hu]
      exact mkI_of (ρ := ⟨fun _ => none, two N 0⟩) (by simp [denI, two, nums]; rfl)
    · exact ⟨_, h9, fun u hu => by cases hu; exact mkI_of (ρ := ⟨fun _ => none, two N 0⟩) (by simp [denI, two, nums])⟩
  refine loop_nil (P := Tryz.prog) (E := E0) (fid := 245) (call_ok mix no_ok noL_ok 100 5) (slots_dyn _) rfl (fuel := 100) (fun _ _ _ _ _ hr => by cases hr) (two N) TM (fun i => (N - i).toNat) (fun i => (i : Int) ≤ N ∨ i = 0) ?_ 0 (.inr rfl) ⟨fun _ => none, two N 0⟩ fr h rfl (fun _ => rfl) F0
  intro i hi
  have den0 : denI (two N i) (.ptr 0 0) = i := by simp [denI, two, nums]
  have den1 : denI (two N i) (.ptr 1 0) = N := by simp [denI, two, nums]
  have hR : (exX Tryz.prog E0 245 (slots Tryz.prog B245) false Tryz.f245.ntmps 100 L245 ⟨TM, .nil, 1⟩) = R := by unfold R; rw [Tryz.ntmps245]
  rw [hR, R_eq]
  simp only [Tr.at, Fact.is, den0, den1]
  by_cases hlt : (i : Int) < N
  · rw [decide_eq_true hlt]
    refine ⟨_, _, rfl, i + 1, .inl (by omega), by omega, fun t v' ht => ?_⟩
    rcases TM_get ht with ⟨rfl, rfl⟩ | ⟨rfl, rfl⟩ | ⟨rfl, rfl⟩ | ⟨rfl, rfl⟩
    · exact ⟨_, R4, fun ρ ρ' u _ _ hu => by cases hu; exact .int _ _⟩
    · refine ⟨_, R5, fun ρ ρ' u _ _ hu => ?_⟩
      cases hu with
      | fn _ _ a' _ b' l1 l2 ha hb' =>
        obtain rfl : b' = [] := List.length_eq_zero_iff.1 (by simpa using l2)
        match a', l1 with
        | [y], _ =>
          cases ha 0 _ y rfl rfl
          exact .fn _ _ _ _ _ rfl rfl (fun i v u hv hu => by
            cases i with
            | zero => simp at hv hu; subst hv hu; exact .nilp
            | succ i => simp at hv) (fun i v u hv => by simp at hv)
    · refine ⟨_, R8, fun ρ ρ' u h1 h2 hu => ?_⟩
      rw [num_inv hu]
      exact mkI_of (by rw [h1, h2]; simp [denI, two, nums])
    · refine ⟨_, R9, fun ρ ρ' u h1 h2 hu => ?_⟩
      rw [num_inv hu]
      refine mkI_of ?_
      rw [h1, h2]
      simp only [denI, opI, two, nums, List.getD_cons_zero]
      rw [IntKind.wrap_i64]
      omega
  · rw [decide_eq_false hlt]
    refine ⟨_, _, rfl, fun ρ1 fr' h' hv F' => ?_⟩
    refine hK ρ fr' h' (Sub.refl _) (HX.empty ρ h0 h') (F'.weaken fun t v' ht => ?_)
    rw [T.get_put] at ht
    split at ht
    · rename_i e
      subst e
      cases ht
      exact ⟨_, R4e, fun u hu => by cases hu; exact .int _ _⟩
    · rw [T.get_nil] at ht; cases ht

def belowTree : Tr V :=
 (.node ⟨.lss, (.ptr 0 0), (.int .u64 2)⟩
 (.ret (.int .u64 0))
 (.node ⟨.geq, (.tup [(.int .u64 2), (.ptr 0 0), (.int .u64 1)]), (.int .u64 4294967296)⟩
  (.node ⟨.geq, (.tup [(.int .u64 11), (.tup [(.int .u64 2), (.ptr 0 0), (.int .u64 1)]), (.int .u64 32)]), (.int .u64 65536)⟩
   (.node ⟨.geq, (.tup [(.int .u64 11), (.tup [(.int .u64 11), (.tup [(.int .u64 2), (.ptr 0 0), (.int .u64 1)]), (.int .u64 32)]), (.int .u64 16)]), (.int .u64 256)⟩
    (.node ⟨.leq, (.int .i64 0), (.tup [(.int .u8 20), (.tup [(.int .u64 11), (.tup [(.int .u64 11), (.tup [(.int .u64 11), (.tup [(.int .u64 2), (.ptr 0 0), (.int .u64 1)]), (.int .u64 32)]), (.int .u64 16)]), (.int .u64 8)]), (.int .i64 0)])⟩
     (.node ⟨.lss, (.tup [(.int .u8 20), (.tup [(.int .u64 11), (.tup [(.int .u64 11), (.tup [(.int .u64 11), (.tup [(.int .u64 2), (.ptr 0 0), (.int .u64 1)]), (.int .u64 32)]), (.int .u64 16)]), (.int .u64 8)]), (.int .i64 0)]), (.int .i64 256)⟩
      (.node ⟨.neq, (.ptr 0 0), (.int .i64 0)⟩
       (.ret (mkI .u64 (.tup [(.int .u64 5), (.int .u64 0), (.ptr 0 0)])))
       .fail)
      .fail)
     .fail)
    (.node ⟨.leq, (.int .i64 0), (.tup [(.int .u8 20), (.tup [(.int .u64 11), (.tup [(.int .u64 11), (.tup [(.int .u64 2), (.ptr 0 0), (.int .u64 1)]), (.int .u64 32)]), (.int .u64 16)]), (.int .i64 0)])⟩
     (.node ⟨.lss, (.tup [(.int .u8 20), (.tup [(.int .u64 11), (.tup [(.int .u64 11), (.tup [(.int .u64 2), (.ptr 0 0), (.int .u64 1)]), (.int .u64 32)]), (.int .u64 16)]), (.int .i64 0)]), (.int .i64 256)⟩
      (.node ⟨.neq, (.ptr 0 0), (.int .i64 0)⟩
       (.ret (mkI .u64 (.tup [(.int .u64 5), (.int .u64 0), (.ptr 0 0)])))
       .fail)
      .fail)
     .fail))
   (.node ⟨.geq, (.tup [(.int .u64 11), (.tup [(.int .u64 2), (.ptr 0 0), (.int .u64 1)]), (.int .u64 32)]), (.int .u64 256)⟩
    (.node ⟨.leq, (.int .i64 0), (.tup [(.int .u8 20), (.tup [(.int .u64 11), (.tup [(.int .u64 11), (.tup [(.int .u64 2), (.ptr 0 0), (.int .u64 1)]), (.int .u64 32)]), (.int .u64 8)]), (.int .i64 0)])⟩
     (.node ⟨.lss, (.tup [(.int .u8 20), (.tup [(.int .u64 11), (.tup [(.int .u64 11), (.tup [(.int .u64 2), (.ptr 0 0), (.int .u64 1)]), (.int .u64 32)]), (.int .u64 8)]), (.int .i64 0)]), (.int .i64 256)⟩
      (.node ⟨.neq, (.ptr 0 0), (.int .i64 0)⟩
       (.ret (mkI .u64 (.tup [(.int .u64 5), (.int .u64 0), (.ptr 0 0)])))
       .fail)
      .fail)
     .fail)
    (.node ⟨.leq, (.int .i64 0), (.tup [(.int .u8 20), (.tup [(.int .u64 11), (.tup [(.int .u64 2), (.ptr 0 0), (.int .u64 1)]), (.int .u64 32)]), (.int .i64 0)])⟩
     (.node ⟨.lss, (.tup [(.int .u8 20), (.tup [(.int .u64 11), (.tup [(.int .u64 2), (.ptr 0 0), (.int .u64 1)]), (.int .u64 32)]), (.int .i64 0)]), (.int .i64 256)⟩
      (.node ⟨.neq, (.ptr 0 0), (.int .i64 0)⟩
       (.ret (mkI .u64 (.tup [(.int .u64 5), (.int .u64 0), (.ptr 0 0)])))
       .fail)
      .fail)
     .fail)))
  (.node ⟨.geq, (.tup [(.int .u64 2), (.ptr 0 0), (.int .u64 1)]), (.int .u64 65536)⟩
   (.node ⟨.geq, (.tup [(.int .u64 11), (.tup [(.int .u64 2), (.ptr 0 0), (.int .u64 1)]), (.int .u64 16)]), (.int .u64 256)⟩
    (.node ⟨.leq, (.int .i64 0), (.tup [(.int .u8 20), (.tup [(.int .u64 11), (.tup [(.int .u64 11), (.tup [(.int .u64 2), (.ptr 0 0), (.int .u64 1)]), (.int .u64 16)]), (.int .u64 8)]), (.int .i64 0)])⟩
     (.node ⟨.lss, (.tup [(.int .u8 20), (.tup [(.int .u64 11), (.tup [(.int .u64 11), (.tup [(.int .u64 2), (.ptr 0 0), (.int .u64 1)]), (.int .u64 16)]), (.int .u64 8)]), (.int .i64 0)]), (.int .i64 256)⟩
      (.node ⟨.neq, (.ptr 0 0), (.int .i64 0)⟩
       (.ret (mkI .u64 (.tup [(.int .u64 5), (.int .u64 0), (.ptr 0 0)])))
       .fail)
      .fail)
     .fail)
    (.node ⟨.leq, (.int .i64 0), (.tup [(.int .u8 20), (.tup [(.int .u64 11), (.tup [(.int .u64 2), (.ptr 0 0), (.int .u64 1)]), (.int .u64 16)]), (.int .i64 0)])⟩
     (.node ⟨.lss, (.tup [(.int .u8 20), (.tup [(.int .u64 11), (.tup [(.int .u64 2), (.ptr 0 0), (.int .u64 1)]), (.int .u64 16)]), (.int .i64 0)]), (.int .i64 256)⟩
      (.node ⟨.neq, (.ptr 0 0), (.int .i64 0)⟩
       (.ret (mkI .u64 (.tup [(.int .u64 5), (.int .u64 0), (.ptr 0 0)])))
       .fail)
      .fail)
     .fail))
   (.node ⟨.geq, (.tup [(.int .u64 2), (.ptr 0 0), (.int .u64 1)]), (.int .u64 256)⟩
    (.node ⟨.leq, (.int .i64 0), (.tup [(.int .u8 20), (.tup [(.int .u64 11), (.tup [(.int .u64 2), (.ptr 0 0), (.int .u64 1)]), (.int .u64 8)]), (.int .i64 0)])⟩
     (.node ⟨.lss, (.tup [(.int .u8 20), (.tup [(.int .u64 11), (.tup [(.int .u64 2), (.ptr 0 0), (.int .u64 1)]), (.int .u64 8)]), (.int .i64 0)]), (.int .i64 256)⟩
      (.node ⟨.neq, (.ptr 0 0), (.int .i64 0)⟩
       (.ret (mkI .u64 (.tup [(.int .u64 5), (.int .u64 0), (.ptr 0 0)])))
       .fail)
      .fail)
     .fail)
    (.node ⟨.leq, (.int .i64 0), (.tup [(.int .u8 20), (.tup [(.int .u64 2), (.ptr 0 0), (.int .u64 1)]), (.int .i64 0)])⟩
     (.node ⟨.lss, (.tup [(.int .u8 20), (.tup [(.int .u64 2), (.ptr 0 0), (.int .u64 1)]), (.int .i64 0)]), (.int .i64 256)⟩
      (.node ⟨.neq, (.ptr 0 0), (.int .i64 0)⟩
       (.ret (mkI .u64 (.tup [(.int .u64 5), (.int .u64 0), (.ptr 0 0)])))
       .fail)
      .fail)
     .fail)))))

theorem below_tree : prune (((callX Tryz.prog noHook lkSome 1000 20).call 201 [.nilp, mkI .u64 (.ptr 0 0)] .nil 1).bind fun r => .ret r.1) [] = belowTree := by kernel_rfl
end Go.Proofs.YtcnlhehogkaapaaGreat
end

section
/- chance.Below of no source, as it is called. -/
namespace Go.Proofs.YtcnlhehogkaapaaGreat
open Go Jb Jt
set_option maxRecDepth 100000

/-- A tree of which every leaf that is reached is good. -/
structure Good (w : Vals) (p : V → Prop) (t : Tr V) : Prop where
  ex : ∃ v, t.at w = some v ∧ p v
theorem good_ret {w : Vals} {p : V → Prop} {v : V} (h : p v) : Good w p (.ret v) := ⟨⟨v, rfl, h⟩⟩
theorem good_node {w : Vals} {p : V → Prop} {f : Fact} {t e : Tr V} (ht : f.is w = true → Good w p t) (he : f.is w = false → Good w p e) : Good w p (.node f t e) := by
  cases hf : f.is w with
  | true => obtain ⟨v, h1, h2⟩ := (ht hf).ex; exact ⟨⟨v, by simp only [Tr.at, hf]; exact h1, h2⟩⟩
  | false => obtain ⟨v, h1, h2⟩ := (he hf).ex; exact ⟨⟨v, by simp only [Tr.at, hf]; exact h1, h2⟩⟩
theorem good_must {w : Vals} {p : V → Prop} {f : Fact} {t e : Tr V} (hf : f.is w = true) (ht : Good w p t) : Good w p (.node f t e) := good_node (fun _ => ht) (fun h => by rw [hf] at h; cases h)

theorem u8_range (z : Int) : 0 ≤ IntKind.u8.wrap z ∧ IntKind.u8.wrap z < 256 := by
  have : IntKind.u8.wrap z = z % 256 := by simp [IntKind.wrap, IntKind.bits, IntKind.signed]
  rw [this]; omega
theorem u64_range (z : Int) : 0 ≤ IntKind.u64.wrap z ∧ IntKind.u64.wrap z < 18446744073709551616 := by
  have : IntKind.u64.wrap z = z % 18446744073709551616 := by simp [IntKind.wrap, IntKind.bits, IntKind.signed]
  rw [this]; omega
theorem den20 (w : Vals) (k : IntKind) (e z : V) : denI w (.tup [.int k 20, e, z]) = k.wrap (denI w e) := by cases e <;> simp [denI, opI]
theorem u8_lo {w : Vals} {e z : V} : Fact.is w ⟨.leq, .int .i64 0, .tup [.int .u8 20, e, z]⟩ = true := by
  simp only [Fact.is]
  rw [den20]
  exact decide_eq_true (u8_range _).1
theorem u8_hi {w : Vals} {e z : V} : Fact.is w ⟨.lss, .tup [.int .u8 20, e, z], .int .i64 256⟩ = true := by
  simp only [Fact.is]
  rw [den20]
  exact decide_eq_true (u8_range _).2

theorem good_lo {w : Vals} {p : V → Prop} {e z : V} {t x : Tr V} (ht : Good w p t) : Good w p (.node ⟨.leq, .int .i64 0, .tup [.int .u8 20, e, z]⟩ t x) := good_must u8_lo ht
theorem good_hi {w : Vals} {p : V → Prop} {e z : V} {t x : Tr V} (ht : Good w p t) : Good w p (.node ⟨.lss, .tup [.int .u8 20, e, z], .int .i64 256⟩ t x) := good_must u8_hi ht
theorem good_nz {n : Int} {p : V → Prop} {t x : Tr V} (h : n ≠ 0) (ht : Good (nums [n]) p t) : Good (nums [n]) p (.node ⟨.neq, .ptr 0 0, .int .i64 0⟩ t x) := good_must (by simp [Fact.is, denI, nums, h]) ht

theorem below_good {n : Int} (h0 : 0 ≤ n) : Good (nums [n]) (fun v => ∀ ρ u, ρ.vals = nums [n] → VR ρ v u → u = .int .u64 0) belowTree := by
  have leaf : Good (nums [n]) (fun v => ∀ ρ u, ρ.vals = nums [n] → VR ρ v u → u = .int .u64 0) (.ret (.int .u64 0)) := good_ret fun ρ u _ h => by cases h; rfl
  unfold belowTree
  refine good_node (fun _ => leaf) fun hn => ?_
  have hn : ¬ n < 2 := by simpa [Fact.is, denI, nums] using hn
  have nz : n ≠ 0 := by omega
  have rem : Good (nums [n]) (fun v => ∀ ρ u, ρ.vals = nums [n] → VR ρ v u → u = .int .u64 0) (.ret (mkI .u64 (.tup [.int .u64 5, .int .u64 0, .ptr 0 0]))) := good_ret fun ρ u hv h => by
    rw [num_inv h, hv]
    simp [denI, opI]
  repeat' first
    | exact rem
    | refine good_lo ?_
    | refine good_hi ?_
    | refine good_nz nz ?_
    | refine good_node (fun _ => ?_) (fun _ => ?_)

theorem below_call {n : Int} (h0 : 0 ≤ n) : AnyW Tryz.prog 201 [.nilp, .int .u64 n] nilH fun u _ => u = .int .u64 0 := by
  obtain ⟨v, h1, h2⟩ := (below_good h0).ex
  have h1 : (((callX Tryz.prog noHook lkSome 1000 20).call 201 [.nilp, mkI .u64 (.ptr 0 0)] .nil 1).bind fun r => Tr.ret r.1).at (nums [n]) = some v := by
    rw [← prune_at (nums [n]) _ [] (fun _ h => by cases h), below_tree, h1]
  rw [at_bind] at h1
  split at h1
  case h_2 => cases h1
  rename_i r hr
  obtain ⟨v', H, nx⟩ := r
  cases h1
  refine AnyW.call (by kernel_rfl) ((given mix no_ok lk_ok (by kernel_rfl) (ρ := locs (nums [n])) hr (fun _ => rfl) (.cons .nilp (.cons (arg_int (by simp [denI, nums])) .nil)) nilH).mono ?_)
  rintro u h' ⟨ρ', S, hv⟩
  exact h2 ρ' u S.vals hv

end Go.Proofs.YtcnlhehogkaapaaGreat
end

section
/- RaftRights, run. -/
namespace Go.Proofs.YtcnlhehogkaapaaGreat
open Go Jb Jt
set_option maxRecDepth 100000

def belowHook : Hook := fun f args h nx =>
  match Nat.beq f 201, args with
  | true, [.nilp, .iface t (.tup [.int .u64 _, .tup [.int .u64 c, a, b]])] => (match unk t && c == 20 with | true => some (.int .u64 0, h, nx) | false => none)
  | _, _ => none

theorem below_ok : HookOk Tryz.prog belowHook := by
  intro f args H nx v H' nx' hr ρ args' h ha X
  unfold belowHook at hr
  split at hr
  case h_2 => cases hr
  rename_i t z c a b hk
  split at hr
  case h_2 => cases hr
  rename_i hc
  cases hr
  simp only [Bool.and_eq_true] at hc
  cases eq_of_beq hc.2
  cases Nat.eq_of_beq_eq_true hk
  have : ∃ n, 0 ≤ n ∧ args' = [.nilp, .int .u64 n] := by
    match args', ha.1 with
    | [x, y], _ =>
      have e0 := ha.2 0 _ x rfl rfl
      have e1 := ha.2 1 _ y rfl rfl
      cases e0
      cases e1 with
      | iface _ _ _ ht => rw [hc.1] at ht; cases ht
      | num => exact ⟨_, by rw [den20]; exact (u64_range _).1, rfl⟩
  obtain ⟨n, hn, rfl⟩ := this
  refine (AnyW.alone (below_call hn) h).mono ?_
  rintro u h' ⟨rfl, h0, rfl⟩
  exact ⟨ρ, Sub.refl _, .int _ _, X.blks⟩

def hooks : Hook := orHook cloneHook (orHook (boolHook 63 true) belowHook)
theorem hooks_ok : HookOk Tryz.prog hooks := or_ok clone_ok (or_ok (bool_ok (AnyW.call (by kernel_rfl) lives_call)) below_ok)

noncomputable def T0 : Tr V := ((callX Tryz.prog hooks noL 100000 60).call 12 [.agg [mkI .i64 (.ptr 0 0), mkI .i64 (.ptr 1 0), mkI .i64 (.ptr 2 0), mkI .i64 (.ptr 3 0), mkI .i64 (.ptr 4 0)], mkI .i64 (.ptr 5 0)] .nil 1).bind fun r => .ret r.1

theorem T0_0 : prune T0 [(⟨.geq, (.ptr 4 0), (.int .i64 1)⟩, true), (⟨.lss, (.ptr 3 0), (.ptr 1 0)⟩, true), (⟨.geq, (.ptr 3 0), (.int .i64 1)⟩, true), (⟨.leq, (.ptr 2 0), (.int .i64 10000)⟩, true), (⟨.geq, (.ptr 2 0), (.int .i64 1)⟩, true), (⟨.leq, (.ptr 1 0), (.int .i64 10000)⟩, true), (⟨.geq, (.ptr 1 0), (.int .i64 2)⟩, true), (⟨.leq, (.ptr 0 0), (.int .i64 7)⟩, true), (⟨.geq, (.ptr 0 0), (.int .i64 1)⟩, true)] =
 (.node ⟨.leq, (.ptr 4 0), (.int .i64 32)⟩
 (.node ⟨.leq, (.ptr 3 0), (.tup [(.int .i64 2), (.ptr 1 0), (.int .i64 1)])⟩
  (.node ⟨.lss, (.ptr 5 0), (.int .i64 0)⟩
   (.ret (.bool true))
   (.node ⟨.geq, (.ptr 5 0), (.ptr 0 0)⟩
    (.ret (.bool true))
    (.ret (.bool true))))
  (.ret (.bool false)))
 (.node ⟨.leq, (.ptr 3 0), (.tup [(.int .i64 2), (.ptr 1 0), (.int .i64 1)])⟩
  (.ret (.bool true))
  (.ret (.bool true)))) := by kernel_rfl
theorem T0_1 : prune T0 [(⟨.geq, (.ptr 4 0), (.int .i64 1)⟩, false), (⟨.lss, (.ptr 3 0), (.ptr 1 0)⟩, true), (⟨.geq, (.ptr 3 0), (.int .i64 1)⟩, true), (⟨.leq, (.ptr 2 0), (.int .i64 10000)⟩, true), (⟨.geq, (.ptr 2 0), (.int .i64 1)⟩, true), (⟨.leq, (.ptr 1 0), (.int .i64 10000)⟩, true), (⟨.geq, (.ptr 1 0), (.int .i64 2)⟩, true), (⟨.leq, (.ptr 0 0), (.int .i64 7)⟩, true), (⟨.geq, (.ptr 0 0), (.int .i64 1)⟩, true)] =
 (.node ⟨.leq, (.ptr 3 0), (.tup [(.int .i64 2), (.ptr 1 0), (.int .i64 1)])⟩
 (.ret (.bool true))
 (.ret (.bool true))) := by kernel_rfl
theorem T0_2 : prune T0 [(⟨.lss, (.ptr 3 0), (.ptr 1 0)⟩, false), (⟨.geq, (.ptr 3 0), (.int .i64 1)⟩, true), (⟨.leq, (.ptr 2 0), (.int .i64 10000)⟩, true), (⟨.geq, (.ptr 2 0), (.int .i64 1)⟩, true), (⟨.leq, (.ptr 1 0), (.int .i64 10000)⟩, true), (⟨.geq, (.ptr 1 0), (.int .i64 2)⟩, true), (⟨.leq, (.ptr 0 0), (.int .i64 7)⟩, true), (⟨.geq, (.ptr 0 0), (.int .i64 1)⟩, true)] =
 (.node ⟨.leq, (.ptr 3 0), (.tup [(.int .i64 2), (.ptr 1 0), (.int .i64 1)])⟩
 (.node ⟨.geq, (.ptr 4 0), (.int .i64 1)⟩
  (.node ⟨.leq, (.ptr 4 0), (.int .i64 32)⟩
   (.node ⟨.lss, (.ptr 5 0), (.int .i64 0)⟩
    (.ret (.bool false))
    (.node ⟨.geq, (.ptr 5 0), (.ptr 0 0)⟩
     (.ret (.bool false))
     (.ret (.bool false))))
   (.ret (.bool true)))
  (.ret (.bool true)))
 (.ret (.bool true))) := by kernel_rfl
theorem T0_3 : prune T0 [(⟨.geq, (.ptr 3 0), (.int .i64 1)⟩, false), (⟨.leq, (.ptr 2 0), (.int .i64 10000)⟩, true), (⟨.geq, (.ptr 2 0), (.int .i64 1)⟩, true), (⟨.leq, (.ptr 1 0), (.int .i64 10000)⟩, true), (⟨.geq, (.ptr 1 0), (.int .i64 2)⟩, true), (⟨.leq, (.ptr 0 0), (.int .i64 7)⟩, true), (⟨.geq, (.ptr 0 0), (.int .i64 1)⟩, true)] =
 (.ret (.bool true)) := by kernel_rfl
theorem T0_4 : prune T0 [(⟨.leq, (.ptr 2 0), (.int .i64 10000)⟩, false), (⟨.geq, (.ptr 2 0), (.int .i64 1)⟩, true), (⟨.leq, (.ptr 1 0), (.int .i64 10000)⟩, true), (⟨.geq, (.ptr 1 0), (.int .i64 2)⟩, true), (⟨.leq, (.ptr 0 0), (.int .i64 7)⟩, true), (⟨.geq, (.ptr 0 0), (.int .i64 1)⟩, true)] =
 (.ret (.bool true)) := by kernel_rfl
theorem T0_5 : prune T0 [(⟨.geq, (.ptr 2 0), (.int .i64 1)⟩, false), (⟨.leq, (.ptr 1 0), (.int .i64 10000)⟩, true), (⟨.geq, (.ptr 1 0), (.int .i64 2)⟩, true), (⟨.leq, (.ptr 0 0), (.int .i64 7)⟩, true), (⟨.geq, (.ptr 0 0), (.int .i64 1)⟩, true)] =
 (.ret (.bool true)) := by kernel_rfl
theorem T0_6 : prune T0 [(⟨.leq, (.ptr 1 0), (.int .i64 10000)⟩, false), (⟨.geq, (.ptr 1 0), (.int .i64 2)⟩, true), (⟨.leq, (.ptr 0 0), (.int .i64 7)⟩, true), (⟨.geq, (.ptr 0 0), (.int .i64 1)⟩, true)] =
 (.ret (.bool true)) := by kernel_rfl
theorem T0_7 : prune T0 [(⟨.geq, (.ptr 1 0), (.int .i64 2)⟩, false), (⟨.leq, (.ptr 0 0), (.int .i64 7)⟩, true), (⟨.geq, (.ptr 0 0), (.int .i64 1)⟩, true)] =
 (.ret (.bool true)) := by kernel_rfl
theorem T0_8 : prune T0 [(⟨.leq, (.ptr 0 0), (.int .i64 7)⟩, false), (⟨.geq, (.ptr 0 0), (.int .i64 1)⟩, true)] =
 (.node ⟨.geq, (.ptr 1 0), (.int .i64 2)⟩
 (.node ⟨.leq, (.ptr 1 0), (.int .i64 10000)⟩
  (.node ⟨.geq, (.ptr 2 0), (.int .i64 1)⟩
   (.node ⟨.leq, (.ptr 2 0), (.int .i64 10000)⟩
    (.node ⟨.geq, (.ptr 3 0), (.int .i64 1)⟩
     (.node ⟨.leq, (.ptr 3 0), (.tup [(.int .i64 2), (.ptr 1 0), (.int .i64 1)])⟩
      (.ret (.bool true))
      (.ret (.bool true)))
     (.ret (.bool true)))
    (.ret (.bool true)))
   (.ret (.bool true)))
  (.ret (.bool true)))
 (.ret (.bool true))) := by kernel_rfl
theorem T0_9 : prune T0 [(⟨.geq, (.ptr 0 0), (.int .i64 1)⟩, false)] =
 (.node ⟨.geq, (.ptr 1 0), (.int .i64 2)⟩
 (.node ⟨.leq, (.ptr 1 0), (.int .i64 10000)⟩
  (.node ⟨.geq, (.ptr 2 0), (.int .i64 1)⟩
   (.node ⟨.leq, (.ptr 2 0), (.int .i64 10000)⟩
    (.node ⟨.geq, (.ptr 3 0), (.int .i64 1)⟩
     (.node ⟨.leq, (.ptr 3 0), (.tup [(.int .i64 2), (.ptr 1 0), (.int .i64 1)])⟩
      (.ret (.bool true))
      (.ret (.bool true)))
     (.ret (.bool true)))
    (.ret (.bool true)))
   (.ret (.bool true)))
  (.ret (.bool true)))
 (.ret (.bool true))) := by kernel_rfl

theorem at_node {w : Vals} {f : Fact} {t e : Tr V} {r : Option V} (ht : f.is w = true → t.at w = r) (he : f.is w = false → e.at w = r) : (Tr.node f t e).at w = r := by
  cases hf : f.is w with
  | true => simp only [Tr.at, hf]; exact ht hf
  | false => simp only [Tr.at, hf]; exact he hf
theorem leafT {w : Vals} {kn : List (Fact × Bool)} {S : Tr V} (h : prune T0 kn = S) (hk : ∀ g ∈ kn, g.1.is w = g.2) (hs : S.at w = some (.bool true)) : T0.at w = some (.bool true) := by
  rw [← prune_at w T0 kn hk, h, hs]
theorem fm0 {p : Fact × Bool → Prop} : ∀ g ∈ ([] : List (Fact × Bool)), p g := fun _ h => by cases h
theorem fm {p : Fact × Bool → Prop} {a : Fact × Bool} {l : List (Fact × Bool)} (h : p a) (t : ∀ g ∈ l, p g) : ∀ g ∈ a :: l, p g := fun g hg => by
  rcases List.mem_cons.1 hg with rfl | hg
  · exact h
  · exact t g hg
theorem byF {w : Vals} (f : Fact) {p : Prop} (ht : f.is w = true → p) (he : f.is w = false → p) : p := by
  cases hf : f.is w with
  | true => exact ht hf
  | false => exact he hf

theorem rights_at (a b c d e i : Int) : T0.at (nums [a, b, c, d, e, i]) = some (.bool true) := by
  have w1 : ∀ n, IntKind.i64.wrap n = (n + 9223372036854775808) % 18446744073709551616 - 9223372036854775808 := IntKind.wrap_i64
  exact (byF ⟨.geq, (.ptr 0 0), (.int .i64 1)⟩ (fun h1 => (byF ⟨.leq, (.ptr 0 0), (.int .i64 7)⟩ (fun h2 => (byF ⟨.geq, (.ptr 1 0), (.int .i64 2)⟩ (fun h3 => (byF ⟨.leq, (.ptr 1 0), (.int .i64 10000)⟩ (fun h4 => (byF ⟨.geq, (.ptr 2 0), (.int .i64 1)⟩ (fun h5 => (byF ⟨.leq, (.ptr 2 0), (.int .i64 10000)⟩ (fun h6 => (byF ⟨.geq, (.ptr 3 0), (.int .i64 1)⟩ (fun h7 => (byF ⟨.lss, (.ptr 3 0), (.ptr 1 0)⟩ (fun h8 => (byF ⟨.geq, (.ptr 4 0), (.int .i64 1)⟩ (fun h9 => (leafT T0_0 (fm h9 (fm h8 (fm h7 (fm h6 (fm h5 (fm h4 (fm h3 (fm h2 (fm h1 fm0))))))))) (by
      simp only [Fact.is, denI, opI, nums, List.getD_cons_zero, List.getD_cons_succ, decide_eq_true_eq, decide_eq_false_iff_not] at *
      repeat' first
        | rfl
        | (refine at_node (fun h => ?_) (fun h => ?_) <;> simp only [Fact.is, denI, opI, nums, List.getD_cons_zero, List.getD_cons_succ, decide_eq_true_eq, decide_eq_false_iff_not, w1] at h)
      all_goals (exfalso; omega))))
   (fun h9 => (leafT T0_1 (fm h9 (fm h8 (fm h7 (fm h6 (fm h5 (fm h4 (fm h3 (fm h2 (fm h1 fm0))))))))) (by
      simp only [Fact.is, denI, opI, nums, List.getD_cons_zero, List.getD_cons_succ, decide_eq_true_eq, decide_eq_false_iff_not] at *
      repeat' first
        | rfl
        | (refine at_node (fun h => ?_) (fun h => ?_) <;> simp only [Fact.is, denI, opI, nums, List.getD_cons_zero, List.getD_cons_succ, decide_eq_true_eq, decide_eq_false_iff_not, w1] at h)
      all_goals (exfalso; omega))))))
   (fun h8 => (leafT T0_2 (fm h8 (fm h7 (fm h6 (fm h5 (fm h4 (fm h3 (fm h2 (fm h1 fm0)))))))) (by
      simp only [Fact.is, denI, opI, nums, List.getD_cons_zero, List.getD_cons_succ, decide_eq_true_eq, decide_eq_false_iff_not] at *
      repeat' first
        | rfl
        | (refine at_node (fun h => ?_) (fun h => ?_) <;> simp only [Fact.is, denI, opI, nums, List.getD_cons_zero, List.getD_cons_succ, decide_eq_true_eq, decide_eq_false_iff_not, w1] at h)
      all_goals (exfalso; omega))))))
   (fun h7 => (leafT T0_3 (fm h7 (fm h6 (fm h5 (fm h4 (fm h3 (fm h2 (fm h1 fm0))))))) (by
      simp only [Fact.is, denI, opI, nums, List.getD_cons_zero, List.getD_cons_succ, decide_eq_true_eq, decide_eq_false_iff_not] at *
      repeat' first
        | rfl
        | (refine at_node (fun h => ?_) (fun h => ?_) <;> simp only [Fact.is, denI, opI, nums, List.getD_cons_zero, List.getD_cons_succ, decide_eq_true_eq, decide_eq_false_iff_not, w1] at h)
      all_goals (exfalso; omega))))))
   (fun h6 => (leafT T0_4 (fm h6 (fm h5 (fm h4 (fm h3 (fm h2 (fm h1 fm0)))))) (by
      simp only [Fact.is, denI, opI, nums, List.getD_cons_zero, List.getD_cons_succ, decide_eq_true_eq, decide_eq_false_iff_not] at *
      repeat' first
        | rfl
        | (refine at_node (fun h => ?_) (fun h => ?_) <;> simp only [Fact.is, denI, opI, nums, List.getD_cons_zero, List.getD_cons_succ, decide_eq_true_eq, decide_eq_false_iff_not, w1] at h)
      all_goals (exfalso; omega))))))
   (fun h5 => (leafT T0_5 (fm h5 (fm h4 (fm h3 (fm h2 (fm h1 fm0))))) (by
      simp only [Fact.is, denI, opI, nums, List.getD_cons_zero, List.getD_cons_succ, decide_eq_true_eq, decide_eq_false_iff_not] at *
      repeat' first
        | rfl
        | (refine at_node (fun h => ?_) (fun h => ?_) <;> simp only [Fact.is, denI, opI, nums, List.getD_cons_zero, List.getD_cons_succ, decide_eq_true_eq, decide_eq_false_iff_not, w1] at h)
      all_goals (exfalso; omega))))))
   (fun h4 => (leafT T0_6 (fm h4 (fm h3 (fm h2 (fm h1 fm0)))) (by
      simp only [Fact.is, denI, opI, nums, List.getD_cons_zero, List.getD_cons_succ, decide_eq_true_eq, decide_eq_false_iff_not] at *
      repeat' first
        | rfl
        | (refine at_node (fun h => ?_) (fun h => ?_) <;> simp only [Fact.is, denI, opI, nums, List.getD_cons_zero, List.getD_cons_succ, decide_eq_true_eq, decide_eq_false_iff_not, w1] at h)
      all_goals (exfalso; omega))))))
   (fun h3 => (leafT T0_7 (fm h3 (fm h2 (fm h1 fm0))) (by
      simp only [Fact.is, denI, opI, nums, List.getD_cons_zero, List.getD_cons_succ, decide_eq_true_eq, decide_eq_false_iff_not] at *
      repeat' first
        | rfl
        | (refine at_node (fun h => ?_) (fun h => ?_) <;> simp only [Fact.is, denI, opI, nums, List.getD_cons_zero, List.getD_cons_succ, decide_eq_true_eq, decide_eq_false_iff_not, w1] at h)
      all_goals (exfalso; omega))))))
   (fun h2 => (leafT T0_8 (fm h2 (fm h1 fm0)) (by
      simp only [Fact.is, denI, opI, nums, List.getD_cons_zero, List.getD_cons_succ, decide_eq_true_eq, decide_eq_false_iff_not] at *
      repeat' first
        | rfl
        | (refine at_node (fun h => ?_) (fun h => ?_) <;> simp only [Fact.is, denI, opI, nums, List.getD_cons_zero, List.getD_cons_succ, decide_eq_true_eq, decide_eq_false_iff_not, w1] at h)
      all_goals (exfalso; omega))))))
   (fun h1 => (leafT T0_9 (fm h1 fm0) (by
      simp only [Fact.is, denI, opI, nums, List.getD_cons_zero, List.getD_cons_succ, decide_eq_true_eq, decide_eq_false_iff_not] at *
      repeat' first
        | rfl
        | (refine at_node (fun h => ?_) (fun h => ?_) <;> simp only [Fact.is, denI, opI, nums, List.getD_cons_zero, List.getD_cons_succ, decide_eq_true_eq, decide_eq_false_iff_not, w1] at h)
      all_goals (exfalso; omega)))))

theorem rights_call (a b c d e i : Int) (h : Heap) : CallW Tryz.prog 12 [.agg [.int .i64 a, .int .i64 b, .int .i64 c, .int .i64 d, .int .i64 e], .int .i64 i] h fun u _ => u = .bool true := by
  have hx : ∀ (j : Nat) (n : Int), denI (nums [a, b, c, d, e, i]) (.ptr j 0) = n → VR (locs (nums [a, b, c, d, e, i])) (mkI .i64 (.ptr j 0)) (.int .i64 n) := fun j n hj => arg_int hj
  have : VL (locs (nums [a, b, c, d, e, i])) [mkI .i64 (.ptr 0 0), mkI .i64 (.ptr 1 0), mkI .i64 (.ptr 2 0), mkI .i64 (.ptr 3 0), mkI .i64 (.ptr 4 0)] [.int .i64 a, .int .i64 b, .int .i64 c, .int .i64 d, .int .i64 e] :=
    .cons (hx 0 a rfl) (.cons (hx 1 b rfl) (.cons (hx 2 c rfl) (.cons (hx 3 d rfl) (.cons (hx 4 e rfl) .nil))))
  exact law_of2 mix hooks_ok noL_ok (by kernel_rfl) (rights_at a b c d e i) (.cons (.agg _ _ this.1 this.2) (.cons (hx 5 i rfl) .nil)) h
end Go.Proofs.YtcnlhehogkaapaaGreat
end

section
/- What holds of the program as a whole. -/
namespace Go.Proofs.YtcnlhehogkaapaaGreat
open Go Go.ChangeShapes Go.WideShapes Go.ChangeAt Go.RowKit Jb
set_option maxRecDepth 100000
theorem own : ownKnob Tryz.prog.godebug = none := by kernel_rfl
theorem laid : laidOutB Tryz.prog = true := by kernel_rfl
theorem rowed : mapsRowed Tryz.prog = true := by kernel_rfl
end Go.Proofs.YtcnlhehogkaapaaGreat
end
