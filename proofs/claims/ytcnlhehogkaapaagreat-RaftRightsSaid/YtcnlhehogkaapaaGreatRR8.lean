/- Proved here: of RR8, that what the Go functions of this part compute is as their contracts say (texts JtI), for every input; no condition beyond those that each theorem states. -/
import Derived.Test.YtcnlhehogkaapaaGreatRR5
import Derived.Test.YtcnlhehogkaapaaGreatRR7
import Derived.Laws.Externs
import Derived.KernelRfl
set_option linter.all false
section
/- What is asked twice; what calls leave alone; functions that are not run. -/
namespace Jt
open Go Go.ChangeShapes Jb

/-! What was asked once is not asked again. -/
def opEq : BinOp → BinOp → Bool
  | .eql, .eql | .neq, .neq | .lss, .lss | .leq, .leq | .gtr, .gtr | .geq, .geq => true
  | _, _ => false
def Fact.same (f g : Fact) : Bool := opEq f.op g.op && eqV f.a g.a && eqV f.b g.b
def lookF (f : Fact) : List (Fact × Bool) → Option Bool
  | [] => none
  | g :: r => match f.same g.1 with | true => some g.2 | false => lookF f r

noncomputable def prune {α : Type} (t : Tr α) : List (Fact × Bool) → Tr α :=
  Tr.rec (motive := fun _ => List (Fact × Bool) → Tr α) (fun a _ => .ret a)
    (fun f _ _ t e kn => match lookF f kn with
      | some true => t kn
      | some false => e kn
      | none => .node f (t ((f, true) :: kn)) (e ((f, false) :: kn))) (fun _ => .fail) t

theorem Fact.same_eq {f g : Fact} (h : f.same g = true) (w : Vals) : f.is w = g.is w := by
  obtain ⟨o, a, b⟩ := f
  obtain ⟨o', a', b'⟩ := g
  simp only [Fact.same, Bool.and_eq_true] at h
  obtain ⟨⟨h1, h2⟩, h3⟩ := h
  cases eqV_eq _ _ h2
  cases eqV_eq _ _ h3
  cases o <;> cases o' <;> simp [opEq] at h1 <;> rfl

theorem lookF_is {f : Fact} {w : Vals} {b : Bool} : ∀ {kn : List (Fact × Bool)}, (∀ g ∈ kn, g.1.is w = g.2) → lookF f kn = some b → f.is w = b
  | [], _, h => by cases h
  | g :: r, hk, h => by
    simp only [lookF] at h
    split at h
    · rename_i hs; cases h; rw [Fact.same_eq hs w]; exact hk g List.mem_cons_self
    · exact lookF_is (fun x hx => hk x (List.mem_cons_of_mem _ hx)) h

theorem prune_at {α : Type} (w : Vals) (t : Tr α) : ∀ (kn : List (Fact × Bool)), (∀ g ∈ kn, g.1.is w = g.2) → (prune t kn).at w = t.at w := by
  induction t with
  | ret a => exact fun _ _ => rfl
  | fail => exact fun _ _ => rfl
  | node f t e it ie =>
    intro kn hk
    have e1 : prune (.node f t e) kn = match lookF f kn with | some true => prune t kn | some false => prune e kn | none => .node f (prune t ((f, true) :: kn)) (prune e ((f, false) :: kn)) := rfl
    rw [e1]
    simp only [Tr.at]
    split
    · rename_i hl; rw [lookF_is hk hl]; exact it kn hk
    · rename_i hl; rw [lookF_is hk hl]; exact ie kn hk
    · simp only [Tr.at]
      split
      · rename_i hf
        exact it _ fun g hg => by
          rcases List.mem_cons.1 hg with rfl | hg
          · exact hf
          · exact hk g hg
      · rename_i hf
        exact ie _ fun g hg => by
          rcases List.mem_cons.1 hg with rfl | hg
          · exact hf
          · exact hk g hg

/-! What a call does not know of, it leaves alone. -/
section
variable {P : Program}
def nilH : Heap := fun _ => none
/-- The blocks of a heap alone. -/
def Heap.blks (h : Heap) : Heap := fun l => match h l with | some o => (match o.blk with | true => some o | false => none) | none => none
theorem blks_some {h : Heap} {l : Nat} {o : Ob} (e : Heap.blks h l = some o) : h l = some o ∧ o.blk = true := by
  unfold Heap.blks at e
  split at e
  · split at e
    · rename_i hb; cases e; exact ⟨by assumption, hb⟩
    · cases e
  · cases e

theorem le_alone {S S' : Sim} {w w' : World} {h h' : Heap} (H : HR S w h) (H' : HR S' w' h') (L : Le (fun _ => False) nilH S w h' S' w') :
    HR S' w' (Heap.blks h) ∧ Le (fun _ => False) h S w (Heap.blks h) S' w' := by
  have nb : ∀ l, ¬ Blk nilH l := fun l ⟨o, e, _⟩ => by cases e
  refine ⟨⟨fun l o hl => ?_, H'.fresh⟩, { toExt := L.toExt, os := L.os, tape := L.tape, output := L.output, size := L.size, un := L.un, stays := L.stays, priv := fun rb e hL hh => L.priv rb e hL (nb rb), dom := fun k hk ⟨o, h1, h2⟩ => ?_, all := fun k hk e => ?_ }⟩
  · obtain ⟨h1, h2⟩ := blks_some hl
    have := H.obs l o h1
    cases o with
    | cells cs =>
      obtain ⟨ho, xs, ⟨e, fz, hb, hf⟩, hr, h1⟩ := (show CellsRel S w l cs from this)
      obtain ⟨g1, g2⟩ := L.priv l ho (fun f => f) (nb l)
      exact ⟨g2, xs, ⟨e, fz, by rw [g1]; exact hb, hf⟩, hr.mono L.toExt, h1⟩
    | grow es n => cases h2
    | obj q =>
      obtain ⟨ho, o, hb, hq⟩ := (show ObjRel S w l q from this)
      obtain ⟨g1, g2⟩ := L.priv l ho (fun f => f) (nb l)
      exact ⟨g2, o, by rw [g1]; exact hb, hq.mono L.toExt⟩
  · obtain ⟨h3, h4⟩ := blks_some h1
    exact ⟨o, h3, h4⟩
  · unfold Heap.blks; rw [e]

theorem AnyW.alone {f : FuncId} {args : List V} {K : V → Heap → Prop} (c : AnyW P f args nilH K) (h : Heap) : AnyW P f args h fun r h' => h' = Heap.blks h ∧ ∃ h0, K r h0 := by
  unfold AnyW at *
  have less : ∀ {S w}, HR S w h → HR S w nilH := fun H => ⟨fun l o e => (by cases e), H.fresh⟩
  split at c
  · intro S w xs H R
    refine (c S w xs (less H) R).mono ?_
    rintro e w' ⟨r, x, h', S', he, k, H', R', L⟩
    obtain ⟨a1, a2⟩ := le_alone H H' L
    exact ⟨r, x, _, S', he, ⟨rfl, h', k⟩, a1, R', a2⟩
  · intro S w xs H R
    obtain ⟨r, x, w', h', S', he, k, H', R', L⟩ := c S w xs (less H) R
    obtain ⟨a1, a2⟩ := le_alone H H' L
    exact ⟨r, x, w', _, S', he, ⟨rfl, h', k⟩, a1, R', a2⟩

theorem HX.blks {ρ : Locs} {H : T Xb} {nx : Nat} {h : Heap} (X : HX ρ H nx h) : HX ρ H nx (Heap.blks h) where
  pos := X.pos
  zero := X.zero
  fresh := X.fresh
  at_ := fun k xb e => by
    obtain ⟨L, o, h1, h2, h3⟩ := X.at_ k xb e
    refine ⟨L, o, h1, ?_, h3⟩
    have : o.blk = true := by cases xb <;> cases o <;> first | rfl | (simp [ObX] at h3)
    unfold Heap.blks
    rw [h2]
    simp only [this]
  inj := X.inj

/-! Functions that are not run. -/
def orHook (a b : Hook) : Hook := fun f args h nx => match a f args h nx with | some r => some r | none => b f args h nx
theorem or_ok {a b : Hook} (ha : HookOk P a) (hb : HookOk P b) : HookOk P (orHook a b) := by
  intro f args H nx v H' nx' hr
  unfold orHook at hr
  split at hr
  · rename_i r hh; cases hr; exact ha _ _ _ _ _ _ _ hh
  · exact hb _ _ _ _ _ _ _ hr
def noHook : Hook := fun _ _ _ _ => none
theorem no_ok : HookOk P noHook := fun _ _ _ _ _ _ _ hr => by cases hr

/-- A function without arguments, that answers always the same bool. -/
def boolHook (k : FuncId) (b : Bool) : Hook := fun f args h nx =>
  match Nat.beq f k, args with
  | true, [] => some (.bool b, h, nx)
  | _, _ => none
theorem bool_ok {k : FuncId} {b : Bool} (c : AnyW P k [] nilH fun u _ => u = .bool b) : HookOk P (boolHook k b) := by
  intro f args H nx v H' nx' hr ρ args' h ha X
  unfold boolHook at hr
  split at hr
  case h_2 => cases hr
  rename_i hk
  cases hr
  cases Nat.eq_of_beq_eq_true hk
  have : args' = [] := List.length_eq_zero_iff.1 (by simpa using ha.1)
  subst this
  refine (AnyW.alone c h).mono ?_
  rintro u h' ⟨rfl, h0, rfl⟩
  exact ⟨ρ, Sub.refl _, .bool _, X.blks⟩

/-- What is given: so many numbers, no slices. -/
def nums (l : List Int) : Vals := ⟨fun i => l.getD i 0, fun _ => ([], .no)⟩
def locs (w : Vals) : Locs := ⟨fun _ => none, w⟩

theorem arg_int {w : Vals} {k : IntKind} {e : V} {n : Int} (h : denI w e = n) : VR (locs w) (mkI k e) (.int k n) := mkI_of (ρ := locs w) h

/-- A law that is run: what its tree says. -/
theorem law_of2 (hmix : P.follows .mixedOrders = true) {hk : Hook} (ok : HookOk P hk) {lk : LHook} (lok : LHookOk P lk) {fuel d : Nat} {f : FuncId} (he : enters P f = true) {args : List V}
    {w : Vals} {b : Bool} (h1 : (((callX P hk lk fuel d).call f args .nil 1).bind fun r => Tr.ret r.1).at w = some (.bool b)) {args' : List V} (ha : VL (locs w) args args') (h : Heap) : CallW P f args' h fun u _ => u = .bool b := by
  rw [at_bind] at h1
  split at h1
  case h_2 => cases h1
  rename_i r hr'
  obtain ⟨v, H, nx⟩ := r
  cases h1
  refine (given hmix ok lok he (ρ := locs w) hr' (fun _ => rfl) ha h).mono ?_
  rintro u h' ⟨ρ', _, hv⟩
  cases hv
  rfl

/-- A law that is run: what its tree says. -/
theorem law_of (hmix : P.follows .mixedOrders = true) {hk : Hook} (ok : HookOk P hk) {lk : LHook} (lok : LHookOk P lk) {fuel d : Nat} {f : FuncId} (he : enters P f = true) {args : List V} {t : Tr V} (hr : prune (((callX P hk lk fuel d).call f args .nil 1).bind fun r => .ret r.1) [] = t)
    {w : Vals} {b : Bool} (hb : t.at w = some (.bool b)) {args' : List V} (ha : VL (locs w) args args') (h : Heap) : CallW P f args' h fun u _ => u = .bool b := by
  have h1 : (((callX P hk lk fuel d).call f args .nil 1).bind fun r => Tr.ret r.1).at w = some (.bool b) := by
    rw [← prune_at w _ [] (fun _ h => by cases h), hr, hb]
  rw [at_bind] at h1
  split at h1
  case h_2 => cases h1
  rename_i r hr'
  obtain ⟨v, H, nx⟩ := r
  cases h1
  refine (given hmix ok lok he (ρ := locs w) hr' (fun _ => rfl) ha h).mono ?_
  rintro u h' ⟨ρ', _, hv⟩
  cases hv
  rfl
end
end Jt
namespace Jt
open Go Jb
section
variable {P : Program}

theorem FX.weaken {ρ ρ' : Locs} {tm tm' : T V} {n : Nat} {fr : Fr} (F : FX ρ tm n fr) (h : ∀ t v', tm'.get t = some v' → ∃ v, tm.get t = some v ∧ ∀ u, VR ρ v u → VR ρ' v' u) : FX ρ' tm' n fr where
  len := F.len
  lc := F.lc
  at_ := fun t v' e => by
    obtain ⟨v, h1, h2⟩ := h t v' e
    obtain ⟨u, h3, h4⟩ := F.at_ t v h1
    exact ⟨u, h3, h2 u h4⟩

/-- A loop that knows of no block. 'w': the values that the numbers of its frame have, round by round. -/
theorem loop_nil {E : Env} {fid : FuncId} (O : EnvOk P E) {g : Cfg} (hm : hasN g.esc 999999 = true) (hw : g.wipes = []) {fuel n : Nat} {c : Code} (hl : LoopsOk P E fid n g c) {σ : Type} (w : σ → Vals) (TM : T V) (m : σ → Nat) (Inv : σ → Prop) {Q : Ex → Fr → Heap → Prop}
    (step : ∀ x, Inv x → ∃ e s', (exX P E fid g.esc g.rnd n fuel c { tm := TM, h := .nil, nx := 1 }).at (w x) = some (e, s') ∧
      match e with
      | .normal => ∃ y, Inv y ∧ m y < m x ∧ ∀ t v', TM.get t = some v' → ∃ v, s'.tm.get t = some v ∧ ∀ ρ ρ' u, ρ.vals = w x → ρ'.vals = w y → VR ρ v u → VR ρ' v' u
      | e => ∀ ρ fr h, ρ.vals = w x → FX ρ s'.tm n fr → Q e fr h) :
    ∀ x, Inv x → ∀ ρ fr h, ρ.vals = w x → (∀ k, ρ k = none) → FX ρ TM n fr → LoopI (fun fr h Q => wpA P g c fr h Q) Q fr h := by
  intro x
  induction hk : m x using Nat.strongRecOn generalizing x with
  | _ k ih =>
    intro hI ρ fr h hv h0 F
    obtain ⟨e, s', hr, hs⟩ := step x hI
    refine LoopI.mk fr h (fun fr' h' => LoopI (fun fr h Q => wpA P g c fr h Q) Q fr' h') ?_ fun _ _ i => i
    refine ex_sound O g hm hw c hl (s := { tm := TM, h := .nil, nx := 1 }) (HX.empty ρ h0 h) F (by rw [hv]; exact hr) fun ρ' fr' h' S X' F' => ?_
    have hv' : ρ'.vals = w x := by rw [S.vals, hv]
    cases e with
    | normal =>
      obtain ⟨y, hy, hlt, hT⟩ := hs
      refine ih (m y) (by omega) y rfl hy ⟨fun _ => none, w y⟩ fr' h' rfl (fun _ => rfl) (F'.weaken fun t v' e => ?_)
      obtain ⟨v, h1, h2⟩ := hT t v' e
      exact ⟨v, h1, fun u hu => h2 ρ' _ u hv' rfl hu⟩
    | exit i => exact hs ρ' fr' h' hv' F'
    | goto i => exact hs ρ' fr' h' hv' F'
    | ret => exact hs ρ' fr' h' hv' F'
end
end Jt
end
