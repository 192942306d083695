/- Proved here: of JO5, that what the Go functions of this part compute is as their contracts say (texts JbRa), for every input; no condition beyond those that each theorem states. -/
import Derived.Test.YtoimhhmlkbdodaaGreatJO3
import Derived.RangeFuncIn
set_option linter.all false
section
/- A round of a range over a function. -/
namespace Jb
open Go Go.RowKit

def setTm (ps : List Nat) (args : List V) (tm : List V) : List V := (ps.zip args).foldl (fun tm e => tm.set e.1 e.2) tm

def roundK (l : Nat) (K : V → Heap → Prop) (e : Ex) (_ : Fr) (h : Heap) : Prop :=
  match h l with
  | some (.obj (.loop _ ps tm asg body)) => (match e with
    | .normal => K (.bool true) (h.upd l (.obj (.loop .ready ps tm asg body)))
    | .exit i => K (.bool false) (h.upd l (.obj (.loop (.done (.exit i)) ps tm asg body)))
    | .goto i => K (.bool false) (h.upd l (.obj (.loop (.done (.goto i)) ps tm asg body)))
    | .ret => K (.bool false) (h.upd l (.obj (.loop (.done .ret) ps tm asg body))))
  | _ => False

def roundW (P : Program) (g : Cfg) (l : Nat) (args : List V) (h : Heap) (K : V → Heap → Prop) : Prop :=
  match h l with
  | some (.obj (.loop .ready ps tm asg body)) => ps.length = args.length ∧
    wpA P g asg { tm := setTm ps args tm, lc := [] } h fun e fr h1 => match e, h1 l with
      | .normal, some (.obj (.loop .ready ps' tm' asg' body')) => wpA P g body fr (h1.upd l (.obj (.loop .busy ps' tm' asg' body'))) (roundK l K)
      | _, _ => False
  | _ => False

section
variable {P : Program} {S : Sim} {w : World} {h : Heap} {lm : Nat → Option Nat} {B : Nat} {fr : Fr} {a : Act} {esc : List Nat} {cf : Cfg}

theorem set_rel {vs : List V} {ts : Array Value} (hr : RelL S w vs ts.toList) : ∀ (ps : List Nat) (args : List V) (xs : List Value), RelL S w args xs → ps.length = args.length →
    RelL S w (setTm ps args vs) ((ps.zip xs).foldl (fun ts e => ts.setIfInBounds e.1 e.2) ts).toList := by
  intro ps
  induction ps generalizing vs ts with
  | nil => intro args xs _ _; simpa [setTm] using hr
  | cons p ps ih =>
    intro args xs ha hl
    cases args with
    | nil => simp at hl
    | cons v args =>
      cases xs with
      | nil => have := ha.1; simp at this
      | cons x xs =>
        obtain ⟨h1, h2⟩ := ha.tail
        have := ih (vs := vs.set p v) (ts := ts.setIfInBounds p x) (by simpa using hr.set p h1) args xs h2 (by simpa using hl)
        simpa [setTm] using this

theorem round0_rel {vs : List V} {ts : Array Value} (hr : RelL S w vs ts.toList) : FR w.heap.size S w h { tm := vs, lc := [] } (fun _ => none) { tmps := ts, defers := [] } :=
  { size := by have := hr.1; simpa using this
    tm := fun i v hv => by
      simp only at hv
      have hi : i < ts.size := by have := hr.1; have := (List.getElem?_eq_some_iff.1 hv).1; simp at *; omega
      have e : ts.getD i Go.undef = ts[i] := by simp [Array.getD, hi]
      simp only
      rw [e]
      exact .of_rel (hr.2 i v _ hv (by simp [hi]))
    vars := fun _ he => by simp at he
    inj := fun _ _ _ e => by cases e
    lb := fun _ _ e => by cases e
    lo := fun _ _ e => by cases e
    nd := by simp
    dfs := ⟨(fun d hd => by cases hd), List.Pairwise.nil⟩ }

theorem yield_sound (hd : Draws P cf.esc) (hr0 : cf.rnd = true) {l : Nat} {args : List V} {h : Heap} {K : V → Heap → Prop} (hK : roundW P cf l args h K) : YieldW P l args h K := by
  intro S w xs H hr
  unfold roundW at hK
  split at hK
  case h_2 => exact hK.elim
  rename_i ps tm asg body hl
  obtain ⟨hlen, hK⟩ := hK
  obtain ⟨_, o, ho, r, rfl, hp, ha, hb, htm, hst⟩ := H.obs l _ hl
  subst ha
  subst hb
  have hps : ps.length = r.params.size := by rw [← hp]; simp
  have hsz : xs.toArray.size = r.params.size := by
    have := hr.1
    simp only [List.size_toArray]
    omega
  have hy := run_yield (P := P) ho hsz
  refine ⟨_, _, _, _, hy, ?_⟩
  have hrel := set_rel htm ps args xs hr hlen
  have htm' : (r.params.zip xs.toArray).foldl (fun tmps (t, a) => tmps.setIfInBounds t a) r.tmps = (ps.zip xs).foldl (fun ts e => ts.setIfInBounds e.1 e.2) r.tmps := by
    rw [← hp, ← Array.foldl_toList]
    simp
  rw [htm']
  have F0 := round0_rel (h := h) hrel
  refine roundIn_of_wpIn trivial (wpA_sound hd (ro := some l) hr0 r.assign H F0 (Nat.le_refl _) hK ?_)
  intro e S1 w1 h1 fr1 lm1 a1 hk H1 F1 L1
  split at hk
  case h_2 => exact hk.elim
  rename_i ps' tm' asg' body' hl1
  obtain ⟨_, o1, ho1, r1, rfl, hp1, ha1, hb1, htm1, hst1⟩ := H1.obs l _ hl1
  obtain ⟨H2, L2⟩ := obj_turn H1 hl1 (.loop { r1 with state := .busy }) (q' := .loop .busy ps' tm' asg' body') ⟨_, rfl, hp1, ha1, hb1, htm1, trivial⟩
  refine ⟨_, run_beginRound ho1 hst1.1, ?_⟩
  have L12 := Le.trans H L1 (L2.weaken (fun rb => w.heap.size ≤ rb))
  have F2 := F1.le H1 L2
  refine wpA_sound hd (ro := some l) hr0 r.body H2 F2 L12.size hk ?_
  intro e S3 w3 h3 fr3 lm3 a3 hk3 H3 F3 L3
  have L13 := Le.trans H L12 L3
  unfold roundK at hk3
  split at hk3
  case h_2 => exact hk3.elim
  rename_i st3 ps3 tm3 asg3 body3 hl3
  obtain ⟨_, o3, ho3, r3, rfl, hp3, ha3, hb3, htm3, _⟩ := H3.obs l _ hl3
  have fin : ∀ (jump : Option Code) (st : LSt) (b : Bool), b = jump.isNone → st.rel { r3 with state := if jump.isNone then .ready else .done, pending := jump } → K (.bool b) (h3.upd l (.obj (.loop st ps3 tm3 asg3 body3))) →
      ∃ v w', (Instr.endRound l jump).run P w3 = .ok v w' ∧ ∃ r x h' S', Ending.returned v = .returned x ∧ K r h' ∧ HR S' w' h' ∧ Rel S' w' r x ∧ Le (fun _ => False) h S w h' S' w' := by
    intro jump st b hb hs hk
    obtain ⟨H4, L4⟩ := obj_turn H3 hl3 (.loop { r3 with state := if jump.isNone then .ready else .done, pending := jump }) (q' := .loop st ps3 tm3 asg3 body3) ⟨_, rfl, hp3, ha3, hb3, htm3, hs⟩
    exact ⟨_, _, run_endRound jump ho3, _, _, _, _, rfl, hk, H4, by rw [hb]; exact .bool _, (Le.trans H L13 (L4.weaken _)).narrow H⟩
  cases e with
  | normal => exact fin none .ready true rfl ⟨rfl, rfl⟩ hk3
  | exit i => exact fin (some (.exit i)) (.done (.exit i)) false rfl ⟨rfl, rfl⟩ hk3
  | goto i => exact fin (some (.goto i)) (.done (.goto i)) false rfl ⟨rfl, rfl⟩ hk3
  | ret => exact fin (some .ret) (.done .ret) false rfl ⟨rfl, rfl⟩ hk3
end

theorem YieldW.round {P : Program} (hmix : P.follows .mixedOrders = true) (cf : Cfg) {l : Nat} {args : List V} {h : Heap} {K : V → Heap → Prop} (hK : roundW P cf l args h K) (hr0 : cf.rnd = true := by rfl) : YieldW P l args h K :=
  yield_sound (draws_sound hmix) hr0 hK
end Jb
end
