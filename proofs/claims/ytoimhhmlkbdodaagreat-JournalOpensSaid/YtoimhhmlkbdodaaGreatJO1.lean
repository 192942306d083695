/- Proved here: of JO1, that what the Go functions of this part compute is as their contracts say (texts JbA, JbB, JbC, JbD, JbE, JbF, JbG, JbGb, JbH, JbI, JbIa), for every input; no condition beyond those that each theorem states. -/
import Derived.Calls
import Derived.CallsIn
import Derived.OrdersIn
import Derived.RangeFuncLeaves
import Derived.Still
import Derived.Laws.Cells
import Derived.Laws.World
import Derived.Below
import Derived.Laws.StructEq
import Derived.Laws.Strings
import Derived.Lib.ConvBytes
import Derived.Laws.BytesString
import Derived.MapKept
import Derived.RangeFuncRecord
set_option linter.all false
section
/- Values, heaps and the relation to real worlds: the words of the library Jb. -/
namespace Jb
open Go

inductive G where
  | full
  | own (s : Nat)
  | no
  deriving Inhabited

inductive V where
  | undef
  | bool (b : Bool)
  | int (k : IntKind) (n : Int)
  | str (s : ByteArray)
  | nilp
  | ptr (l off : Nat)
  | lp (d off : Nat)
  | cptr (cs : List V) (off : Nat)
  | sl (es : Nat) (l : List (List V)) (g : G)
  | sref (es l off len cap : Nat)
  | map (r : Option Nat)
  | fn (f : Fn) (first caps : List V)
  | nilfn
  | iface (t : TypeId) (v : V)
  | nilif
  | agg (cs : List V)
  | tup (vs : List V)
  | opt (b : Bool) (v : V)
  deriving Inhabited

inductive LSt where
  | ready
  | busy
  | done (e : Code)

inductive OQ where
  | loop (st : LSt) (ps : List Nat) (tm : List V) (asg body : Code)
  | map (es : List (V × V))

inductive Ob where
  | cells (cs : List V)
  | grow (es n : Nat)
  | obj (q : OQ)

instance : Inhabited Ob := ⟨.grow 0 0⟩

def Ob.blk : Ob → Bool
  | .grow _ _ => false
  | _ => true

abbrev Heap := Nat → Option Ob

def Heap.upd (h : Heap) (l : Nat) (o : Ob) : Heap := fun x => if x = l then some o else h x

inductive Own where
  | cell
  | stamp (s lo : Nat)

def Heap.del (h : Heap) (l : Nat) : Heap := fun x => if x = l then none else h x

structure Sim where
  own : Nat → Option Own
  top : Nat → Option Nat
  sig : Nat → Nat × Nat × Nat

def Sim.stable (S : Sim) (rb off : Nat) : Prop :=
  match S.own rb with
  | none => True
  | some .cell => False
  | some (.stamp _ lo) => off < lo

def Keeps (S : Sim) (w : World) (rb off : Nat) (x : Value) : Prop := S.stable rb off ∧ w.cell? ⟨rb, off, none⟩ = some x ∧ x.oneCell' = true

def Claim (S : Sim) (g : G) (n rb o cap : Nat) : Prop :=
  match g with
  | .full => cap = n
  | .no => True
  | .own s => ∃ m, S.top s = some m ∧ n ≤ m ∧ (n = m → S.sig s = (rb, o, cap))

inductive Rel (S : Sim) (w : World) : V → Value → Prop where
  | undef (x : Value) : Rel S w .undef x
  | bool (b : Bool) : Rel S w (.bool b) (.bool b)
  | int (k : IntKind) (n : Int) : Rel S w (.int k n) (.int k n)
  | str (s : ByteArray) : Rel S w (.str s) (.string s)
  | nilp : Rel S w .nilp (.pointer none)
  | ptr (l off : Nat) : Rel S w (.ptr l off) (.pointer (some ⟨l, off, none⟩))
  | cptr (cs : List V) (off rb o : Nat) (xs : Nat → Value) (hk : ∀ (i : Nat) (c : V), cs[i]? = some c → Keeps S w rb (o + i) (xs i))
      (hr : ∀ (i : Nat) (c : V), cs[i]? = some c → Rel S w c (xs i)) : Rel S w (.cptr cs off) (.pointer (some ⟨rb, o + off, none⟩))
  | slnil (es : Nat) (g : G) (hg : ∀ s, g ≠ .own s) (b : Option Addr := none) : Rel S w (.sl es [] g) (.slice b 0 0)
  | sl (es : Nat) (l : List (List V)) (g : G) (rb o cap : Nat) (xs : Nat → Nat → Value) (hes : 0 < es) (hcap : l.length ≤ cap)
      (hg : Claim S g l.length rb o cap) (hlen : ∀ (i : Nat) (e : List V), l[i]? = some e → e.length = es)
      (hk : ∀ (i : Nat) (e : List V), l[i]? = some e → ∀ (j : Nat) (c : V), e[j]? = some c → Keeps S w rb (o + i * es + j) (xs i j))
      (hr : ∀ (i : Nat) (e : List V), l[i]? = some e → ∀ (j : Nat) (c : V), e[j]? = some c → Rel S w c (xs i j)) :
      Rel S w (.sl es l g) (.slice (some ⟨rb, o, none⟩) l.length cap)
  | sref (es l off len cap : Nat) (hcap : len ≤ cap) : Rel S w (.sref es l off len cap) (.slice (some ⟨l, off, none⟩) len cap)
  | srefnil (es l off : Nat) (b : Option Addr) : Rel S w (.sref es l off 0 0) (.slice b 0 0)
  | map (r : Option Nat) : Rel S w (.map r) (.map r)
  | fn (f : Fn) (first caps : List V) (xs ys : List Value) (h1 : xs.length = first.length) (h2 : ys.length = caps.length)
      (hx : ∀ (i : Nat) (v : V) (x : Value), first[i]? = some v → xs[i]? = some x → Rel S w v x) (hy : ∀ (i : Nat) (v : V) (x : Value), caps[i]? = some v → ys[i]? = some x → Rel S w v x) :
      Rel S w (.fn f first caps) (.func f xs.toArray ys.toArray)
  | nilfn : Rel S w .nilfn .nilFunc
  | iface (t : TypeId) (v : V) (x : Value) (h : Rel S w v x) : Rel S w (.iface t v) (.iface t x)
  | nilif : Rel S w .nilif .nilIface
  | agg (cs : List V) (xs : List Value) (hl : xs.length = cs.length) (ho : ∀ x ∈ xs, x.oneCell' = true) (h : ∀ (i : Nat) (v : V) (x : Value), cs[i]? = some v → xs[i]? = some x → Rel S w v x) :
      Rel S w (.agg cs) (.agg xs.toArray)
  | tup (cs : List V) (xs : List Value) (hl : xs.length = cs.length) (h : ∀ (i : Nat) (v : V) (x : Value), cs[i]? = some v → xs[i]? = some x → Rel S w v x) :
      Rel S w (.tup cs) (.tuple xs.toArray)

structure Ext (S : Sim) (w : World) (S' : Sim) (w' : World) : Prop where
  keeps : ∀ rb off x, Keeps S w rb off x → Keeps S' w' rb off x
  top : ∀ s m, S.top s = some m → ∃ m', S'.top s = some m' ∧ m ≤ m' ∧ (m' = m → S'.sig s = S.sig s)

theorem Ext.refl (S : Sim) (w : World) : Ext S w S w := ⟨fun _ _ _ h => h, fun _ m h => ⟨m, h, Nat.le_refl _, fun _ => rfl⟩⟩

theorem Ext.trans {S S1 S2 : Sim} {w w1 w2 : World} (a : Ext S w S1 w1) (b : Ext S1 w1 S2 w2) : Ext S w S2 w2 := by
  refine ⟨fun rb off x h => b.keeps _ _ _ (a.keeps _ _ _ h), fun s m h => ?_⟩
  obtain ⟨m1, h1, l1, e1⟩ := a.top s m h
  obtain ⟨m2, h2, l2, e2⟩ := b.top s m1 h1
  refine ⟨m2, h2, by omega, fun e => ?_⟩
  rw [e2 (by omega), e1 (by omega)]

theorem Claim.mono {S S' : Sim} {w w' : World} (E : Ext S w S' w') {g : G} {n rb o cap : Nat} (h : Claim S g n rb o cap) : Claim S' g n rb o cap := by
  cases g with
  | full => exact h
  | no => exact h
  | own s =>
    obtain ⟨m, hm, hle, hs⟩ := h
    obtain ⟨m', hm', hle', hs'⟩ := E.top s m hm
    exact ⟨m', hm', by omega, fun e => by rw [hs' (by omega), hs (by omega)]⟩

theorem Rel.mono {S S' : Sim} {w w' : World} (E : Ext S w S' w') {v : V} {x : Value} (h : Rel S w v x) : Rel S' w' v x := by
  induction h with
  | undef x => exact .undef x
  | bool b => exact .bool b
  | int k n => exact .int k n
  | str s => exact .str s
  | nilp => exact .nilp
  | ptr l off => exact .ptr l off
  | cptr cs off rb o xs hk _ ih => exact .cptr cs off rb o xs (fun i c h => E.keeps _ _ _ (hk i c h)) ih
  | slnil es g hg b => exact .slnil es g hg b
  | sl es l g rb o cap xs hes hcap hg hlen hk _ ih => exact .sl es l g rb o cap xs hes hcap (hg.mono E) hlen (fun i e h j c h' => E.keeps _ _ _ (hk i e h j c h')) ih
  | sref es l off len cap h => exact .sref es l off len cap h
  | srefnil es l off b => exact .srefnil es l off b
  | map r => exact .map r
  | fn f first caps xs ys h1 h2 _ _ ih1 ih2 => exact .fn f first caps xs ys h1 h2 ih1 ih2
  | nilfn => exact .nilfn
  | iface t v x _ ih => exact .iface t v x ih
  | nilif => exact .nilif
  | agg cs xs hl ho _ ih => exact .agg cs xs hl ho ih
  | tup cs xs hl _ ih => exact .tup cs xs hl ih

def RelL (S : Sim) (w : World) (vs : List V) (xs : List Value) : Prop := xs.length = vs.length ∧ ∀ (i : Nat) (v : V) (x : Value), vs[i]? = some v → xs[i]? = some x → Rel S w v x

theorem RelL.mono {S S' : Sim} {w w' : World} (E : Ext S w S' w') {vs : List V} {xs : List Value} (h : RelL S w vs xs) : RelL S' w' vs xs :=
  ⟨h.1, fun i v x hv hx => (h.2 i v x hv hx).mono E⟩

theorem RelL.nil {S : Sim} {w : World} : RelL S w [] [] := ⟨rfl, fun i v x hv => by simp at hv⟩

theorem RelL.cons {S : Sim} {w : World} {v : V} {x : Value} {vs : List V} {xs : List Value} (h : Rel S w v x) (t : RelL S w vs xs) : RelL S w (v :: vs) (x :: xs) := by
  refine ⟨by simp [t.1], fun i u y hu hy => ?_⟩
  cases i with
  | zero => simp at hu hy; subst hu; subst hy; exact h
  | succ i => simp at hu hy; exact t.2 i u y hu hy

theorem RelL.append {S : Sim} {w : World} {vs us : List V} {xs ys : List Value} (h : RelL S w vs xs) (t : RelL S w us ys) : RelL S w (vs ++ us) (xs ++ ys) := by
  refine ⟨by simp [h.1, t.1], fun i u y hu hy => ?_⟩
  by_cases hi : i < vs.length
  · rw [List.getElem?_append_left hi] at hu
    rw [List.getElem?_append_left (by rw [h.1]; exact hi)] at hy
    exact h.2 i u y hu hy
  · rw [List.getElem?_append_right (by omega)] at hu
    rw [List.getElem?_append_right (by rw [h.1]; omega), h.1] at hy
    exact t.2 _ u y hu hy

theorem RelL.drop {S : Sim} {w : World} {vs : List V} {xs : List Value} (h : RelL S w vs xs) (n : Nat) : RelL S w (vs.drop n) (xs.drop n) := by
  refine ⟨by simp [h.1], fun i u y hu hy => ?_⟩
  rw [List.getElem?_drop] at hu hy
  exact h.2 _ u y hu hy

theorem RelL.take {S : Sim} {w : World} {vs : List V} {xs : List Value} (h : RelL S w vs xs) (n : Nat) : RelL S w (vs.take n) (xs.take n) := by
  refine ⟨by simp [h.1], fun i u y hu hy => ?_⟩
  rw [List.getElem?_take] at hu hy
  split at hu
  · rename_i hi; rw [if_pos hi] at hy; exact h.2 _ u y hu hy
  · cases hu

theorem RelL.set {S : Sim} {w : World} {vs : List V} {xs : List Value} (h : RelL S w vs xs) (n : Nat) {v : V} {x : Value} (hv : Rel S w v x) : RelL S w (vs.set n v) (xs.set n x) := by
  refine ⟨by simp [h.1], fun i u y hu hy => ?_⟩
  rw [List.getElem?_set] at hu hy
  by_cases hi : n = i
  · rw [if_pos hi] at hu hy
    split at hu
    · split at hy
      · cases hu; cases hy; exact hv
      · cases hy
    · cases hu
  · rw [if_neg hi] at hu hy
    exact h.2 _ u y hu hy

theorem Rel.agg_inv {S : Sim} {w : World} {cs : List V} {x : Value} (h : Rel S w (.agg cs) x) : ∃ xs, x = .agg xs.toArray ∧ RelL S w cs xs ∧ ∀ x ∈ xs, x.oneCell' = true := by
  cases h with
  | agg _ xs hl ho h => exact ⟨xs, rfl, ⟨hl, h⟩, ho⟩

theorem Rel.tup_inv {S : Sim} {w : World} {cs : List V} {x : Value} (h : Rel S w (.tup cs) x) : ∃ xs, x = .tuple xs.toArray ∧ RelL S w cs xs := by
  cases h with
  | tup _ xs hl h => exact ⟨xs, rfl, hl, h⟩

def Free (fz : Nat × Nat) (n : Nat) : Prop := fz.1 = fz.2 ∨ n ≤ fz.1

theorem Free.not {fz : Nat × Nat} {n : Nat} (h : Free fz n) {off : Nat} (ho : off < n) : ¬ (fz.1 ≤ off ∧ off < fz.2) := by
  rcases h with h | h <;> omega

def Block (w : World) (l : Nat) (c : Array Value) : Prop := ∃ e fz, w.heap[l]? = some (.cells c e fz) ∧ Free fz c.size

def CellsRel (S : Sim) (w : World) (l : Nat) (cs : List V) : Prop := S.own l = some .cell ∧ ∃ xs : List Value, Block w l xs.toArray ∧ RelL S w cs xs ∧ ∀ x ∈ xs, x.oneCell' = true

def GrowRel (S : Sim) (w : World) (s es n : Nat) : Prop :=
  S.top s = some n ∧ 0 < es ∧ ∃ rb o cap, S.sig s = (rb, o, cap) ∧ n ≤ cap ∧ S.own rb = some (.stamp s (o + n * es)) ∧ ∃ c, Block w rb c ∧ o + cap * es ≤ c.size

def LSt.rel (st : LSt) (r : Loop) : Prop :=
  match st with
  | .ready => r.state = .ready ∧ r.pending = none
  | .busy => True
  | .done e => r.state = .done ∧ r.pending = some e

def OQRel (S : Sim) (w : World) (q : OQ) (o : Obj) : Prop :=
  match q with
  | .loop st ps tm asg body => ∃ r : Loop, o = .loop r ∧ r.params.toList = ps ∧ r.assign = asg ∧ r.body = body ∧ RelL S w tm r.tmps.toList ∧ st.rel r
  | .map es => ∃ (ents : Array MapEntry) (clock : Nat), o = .map ents clock ∧ ents.size = es.length ∧
      ∀ (i : Nat) (k v : V) (e : MapEntry), es[i]? = some (k, v) → ents[i]? = some e → Rel S w k e.key ∧ Rel S w v e.val

def ObjRel (S : Sim) (w : World) (l : Nat) (q : OQ) : Prop := S.own l = some .cell ∧ ∃ o, w.heap[l]? = some o ∧ OQRel S w q o

def ObRel (S : Sim) (w : World) (l : Nat) : Ob → Prop
  | .cells cs => CellsRel S w l cs
  | .grow es n => GrowRel S w l es n
  | .obj q => ObjRel S w l q

theorem OQRel.mono {S S' : Sim} {w w' : World} (E : Ext S w S' w') {q : OQ} {o : Obj} (h : OQRel S w q o) : OQRel S' w' q o := by
  cases q with
  | loop st ps tm asg body =>
    obtain ⟨r, h1, h2, h3, h4, h5, h6⟩ := h
    exact ⟨r, h1, h2, h3, h4, h5.mono E, h6⟩
  | map es =>
    obtain ⟨ents, clock, h1, h2, h3⟩ := h
    exact ⟨ents, clock, h1, h2, fun i k v e a b => ⟨(h3 i k v e a b).1.mono E, (h3 i k v e a b).2.mono E⟩⟩

theorem ObjRel.same {S S' : Sim} {w w' : World} (E : Ext S w S' w') {l : Nat} {q : OQ} (ho : S'.own l = some .cell) (hb : w'.heap[l]? = w.heap[l]?) (h : ObjRel S w l q) : ObjRel S' w' l q := by
  obtain ⟨_, o, h2, h3⟩ := h
  exact ⟨ho, o, by rw [hb]; exact h2, h3.mono E⟩

def Blk (h : Heap) (l : Nat) : Prop := ∃ o, h l = some o ∧ o.blk = true

structure HR (S : Sim) (w : World) (h : Heap) : Prop where
  obs : ∀ l o, h l = some o → ObRel S w l o
  fresh : ∀ l, w.heap.size ≤ l → S.own l = none ∧ S.top l = none

structure Le (L : Nat → Prop) (h : Heap) (S : Sim) (w : World) (h' : Heap) (S' : Sim) (w' : World) : Prop extends Ext S w S' w' where
  os : w'.os = w.os
  tape : w'.tape = w.tape
  output : w'.output = w.output
  size : w.heap.size ≤ w'.heap.size
  un : ∀ rb, rb < w.heap.size → S.own rb = none → w'.heap[rb]? = w.heap[rb]? ∧ S'.own rb = none
  priv : ∀ rb, S.own rb = some .cell → ¬ L rb → ¬ Blk h rb → w'.heap[rb]? = w.heap[rb]? ∧ S'.own rb = some .cell
  dom : ∀ l, l < w.heap.size → Blk h' l → Blk h l
  all : ∀ l, l < w.heap.size → h l = none → h' l = none
  stays : ∀ rb, S.own rb = some .cell → S'.own rb = some .cell

theorem Le.refl (L : Nat → Prop) (h : Heap) (S : Sim) (w : World) : Le L h S w h S w :=
  { toExt := .refl S w, os := rfl, tape := rfl, output := rfl, size := Nat.le_refl _, un := fun _ _ e => ⟨rfl, e⟩, priv := fun _ e _ _ => ⟨rfl, e⟩,
    dom := fun _ _ e => e, all := fun _ _ e => e, stays := fun _ e => e }

theorem HR.lt {S : Sim} {w : World} {h : Heap} (H : HR S w h) {rb : Nat} {o : Own} (e : S.own rb = some o) : rb < w.heap.size := by
  rcases Nat.lt_or_ge rb w.heap.size with h1 | h1
  · exact h1
  · rw [(H.fresh rb h1).1] at e; cases e

theorem Le.trans {L : Nat → Prop} {h h1 h2 : Heap} {S S1 S2 : Sim} {w w1 w2 : World} (H : HR S w h) (a : Le L h S w h1 S1 w1) (b : Le L h1 S1 w1 h2 S2 w2) : Le L h S w h2 S2 w2 :=
  { toExt := a.toExt.trans b.toExt, os := b.os.trans a.os, tape := b.tape.trans a.tape, output := b.output.trans a.output, size := Nat.le_trans a.size b.size
    un := fun rb hlt e => by
      obtain ⟨e1, o1⟩ := a.un rb hlt e
      obtain ⟨e2, o2⟩ := b.un rb (Nat.lt_of_lt_of_le hlt a.size) o1
      exact ⟨e2.trans e1, o2⟩
    priv := fun rb e hL hh => by
      obtain ⟨e1, o1⟩ := a.priv rb e hL hh
      obtain ⟨e2, o2⟩ := b.priv rb o1 hL (fun hb => hh (a.dom rb (H.lt e) hb))
      exact ⟨e2.trans e1, o2⟩
    dom := fun l hlt e => a.dom l hlt (b.dom l (Nat.lt_of_lt_of_le hlt a.size) e)
    all := fun l hlt e => b.all l (Nat.lt_of_lt_of_le hlt a.size) (a.all l hlt e)
    stays := fun rb e => b.stays rb (a.stays rb e) }

def CallW (P : Program) (f : FuncId) (args : List V) (h : Heap) (K : V → Heap → Prop) : Prop :=
  ∀ (S : Sim) (w : World) (xs : List Value), HR S w h → RelL S w args xs →
    Calls P f xs.toArray w fun e w' => ∃ r x h' S', e = .returned x ∧ K r h' ∧ HR S' w' h' ∧ Rel S' w' r x ∧ Le (fun _ => False) h S w h' S' w'

theorem CallW.mono {P : Program} {f : FuncId} {args : List V} {h : Heap} {K K' : V → Heap → Prop} (c : CallW P f args h K) (m : ∀ r h', K r h' → K' r h') : CallW P f args h K' :=
  fun S w xs H R => (c S w xs H R).mono fun _ _ ⟨r, x, h', S', e, k, H', R', L⟩ => ⟨r, x, h', S', e, m r h' k, H', R', L⟩

def ExtW (P : Program) (f : FuncId) (args : List V) (h : Heap) (K : V → Heap → Prop) : Prop :=
  ∀ (S : Sim) (w : World) (xs : List Value), HR S w h → RelL S w args xs →
    ∃ r x w' h' S', (callFunc f xs.toArray).run P w = .ok (.value x) w' ∧ K r h' ∧ HR S' w' h' ∧ Rel S' w' r x ∧ Le (fun _ => False) h S w h' S' w'

def YieldW (P : Program) (l : Nat) (args : List V) (h : Heap) (K : V → Heap → Prop) : Prop :=
  ∀ (S : Sim) (w : World) (xs : List Value), HR S w h → RelL S w args xs →
    ∃ f tmps asg body, (Instr.yield l xs.toArray).run P w = .ok (.round l f tmps asg body) w ∧
      RoundIn Fence.wide 0 P l f tmps asg body w fun e w' => ∃ r x h' S', e = .returned x ∧ K r h' ∧ HR S' w' h' ∧ Rel S' w' r x ∧ Le (fun _ => False) h S w h' S' w'

theorem YieldW.mono {P : Program} {l : Nat} {args : List V} {h : Heap} {K K' : V → Heap → Prop} (c : YieldW P l args h K) (m : ∀ r h', K r h' → K' r h') : YieldW P l args h K' := by
  intro S w xs H R
  obtain ⟨f, tmps, asg, body, h1, h2⟩ := c S w xs H R
  exact ⟨f, tmps, asg, body, h1, h2.mono fun _ _ ⟨r, x, h', S', e, k, H', R', L⟩ => ⟨r, x, h', S', e, m r h' k, H', R', L⟩⟩

def enters (P : Program) (f : FuncId) : Bool := match P.funcs[f]? with | some fn => fn.body.isSome && fn.name != "runtime.NumGoroutine" | none => false

def AnyW (P : Program) (f : FuncId) (args : List V) (h : Heap) (K : V → Heap → Prop) : Prop :=
  match enters P f with
  | true => CallW P f args h K
  | false => ExtW P f args h K
end Jb
end

section
/- The predicate transformer over the model's Code, on the values of JbA: what is asked of each operation, region and statement. -/
namespace Jb
open Go

structure Fr where
  tm : List V
  lc : List (Nat × List V)
  deriving Inhabited

def Fr.var (fr : Fr) (d : Nat) : List V := match fr.lc.find? (fun e => e.1 == d) with | some e => e.2 | none => []
def lcSet (d : Nat) (cs : List V) : List (Nat × List V) → List (Nat × List V)
  | [] => [(d, cs)]
  | e :: r => match Nat.beq e.1 d, Nat.ble e.1 d with
    | true, _ => (d, cs) :: r
    | false, true => e :: lcSet d cs r
    | false, false => (d, cs) :: e :: r

def cellsAt (h : Heap) (l : Nat) : List V := match h l with | some (.cells cs) => cs | _ => []

def ofConst : Value → V
  | .bool b => .bool b
  | .int k n => .int k n
  | .string s => .str s
  | .pointer none => .nilp
  | .nilFunc => .nilfn
  | .nilIface => .nilif
  | .map none => .map none
  | _ => .undef

def Fr.ev (fr : Fr) : Operand → V
  | .tmp t => fr.tm.getD t .undef
  | .const v => ofConst v
  | .global _ => .undef
  | .func f => .fn (.func f) [] []

def V.one : V → Bool
  | .bool _ | .int _ _ | .str _ | .nilp | .ptr _ _ | .cptr _ _ | .sl _ _ _ | .sref _ _ _ _ _ | .map _ | .fn _ _ _ | .nilfn | .iface _ _ | .nilif => true
  | _ => false

def V.plain : V → Bool
  | .lp _ _ | .opt _ _ => false
  | _ => true

def V.strip : V → V
  | .opt _ v => v
  | v => v

inductive Q where
  | ok (v : V)
  | chk (c : Prop) (v : V)
  | bad

def Q.need (q : Q) (K : V → Prop) : Prop :=
  match q with
  | .ok v => K v
  | .chk c v => c ∧ K v
  | .bad => False

def aggT (P : Program) (t : TypeId) : Bool := match P.underlying t with | some (.struct _) | some (.array _ _) => true | _ => false
def okT (P : Program) (t : TypeId) : Bool := (P.info? t).isSome

def fieldOf (P : Program) (s : TypeId) (f : Nat) : Option (Nat × TypeId) :=
  match P.underlying s with
  | some (.struct fs) => match fs[f]? with | some x => some (x.offset, x.type) | none => none
  | _ => none

def kindEq : IntKind → IntKind → Bool
  | .i8, .i8 | .i16, .i16 | .i32, .i32 | .i64, .i64 | .u8, .u8 | .u16, .u16 | .u32, .u32 | .u64, .u64 => true
  | _, _ => false

def V.isInt (k : IntKind) : V → Bool | .int k' _ => kindEq k k' | _ => false
def V.deLp : V → V
  | .lp _ _ | .opt _ _ => .undef
  | v => v
def V.isBool : V → Bool | .bool _ => true | _ => false
def V.isStr : V → Bool | .str _ => true | _ => false
def V.isSl (es : Nat) : V → Bool | .sl es' _ _ => es' == es | _ => false
def V.isAgg (n : Nat) : V → Bool | .agg cs => Nat.beq cs.length n | _ => false
def V.isTup (n : Nat) : V → Bool | .tup vs => Nat.beq vs.length n | _ => false
def V.cells : V → List V | .agg cs => cs | _ => []
def V.vs : V → List V | .tup vs => vs | _ => []
def V.num : V → Int | .int _ n => n | _ => 0
def V.flag : V → Bool | .bool b => b | _ => false
def V.text : V → ByteArray | .str s => s | _ => .empty
def V.els : V → List (List V) | .sl _ l _ => l | _ => []
def V.right : V → G | .sl _ _ g => g | _ => .no

def V.isRef (es : Nat) : V → Bool
  | .sref e _ _ _ _ => Nat.beq e es
  | _ => false
def V.rl : V → Nat
  | .sref _ l _ _ _ => l
  | _ => 0
def V.ro : V → Nat
  | .sref _ _ o _ _ => o
  | _ => 0
def V.rn : V → Nat
  | .sref _ _ _ n _ => n
  | _ => 0
def V.rc : V → Nat
  | .sref _ _ _ _ c => c
  | _ => 0

def shV (P : Program) (m : Nat) (t : TypeId) (c : Prop) (v : V) : Q :=
  match P.underlying t with
  | some .bool => .chk (c ∧ v.isBool = true) (.bool v.flag)
  | some (.int k) => .chk (c ∧ v.isInt k = true) (.int k v.num)
  | some .string => .chk (c ∧ v.isStr = true) (.str v.text)
  | some (.slice e) => match m with
    | 0 => .chk (c ∧ v.isSl (P.cellsOf e) = true) (.sl (P.cellsOf e) v.els v.right)
    | 1 => .chk (c ∧ v.isRef (P.cellsOf e) = true) (.sref (P.cellsOf e) v.rl v.ro v.rn v.rc)
    | _ => .chk (c ∧ (v.isSl (P.cellsOf e) || v.isRef (P.cellsOf e)) = true) v.deLp
  | some (.struct _) | some (.array _ _) => .chk (c ∧ v.isAgg (P.cellsOf t) = true) (.agg v.cells)
  | _ => .chk (c ∧ v.plain = true) v.deLp

def rdQ (P : Program) (m : Nat) (t : TypeId) (cs : List V) (off : Nat) : Q :=
  match okT P t, (P.underlying t).isSome, aggT P t with
  | true, true, true => .chk (off + P.cellsOf t ≤ cs.length) (.agg ((cs.drop off).take (P.cellsOf t)))
  | true, true, false => shV P m t (off < cs.length) (cs.getD off .undef)
  | _, _, _ => .bad

def loadQ (P : Program) (m : Nat) (fr : Fr) (h : Heap) (t : TypeId) : V → Q
  | .ptr l off => rdQ P m t (cellsAt h l) off
  | .lp d off => rdQ P m t (fr.var d) off
  | .cptr cs off => rdQ P m t cs off
  | _ => .bad

def nilQ : V → Q
  | .ptr l off => .ok (.ptr l off)
  | .lp d off => .ok (.lp d off)
  | .cptr cs off => .ok (.cptr cs off)
  | .fn (.func f) a b => .ok (.fn (.func f) a b)
  | _ => .bad

def moved (n : Nat) : V → Q
  | .ptr l off => .ok (.ptr l (off + n))
  | .lp d off => .ok (.lp d (off + n))
  | .cptr cs off => .ok (.cptr cs (off + n))
  | _ => .bad

def fieldAddrQ (P : Program) (s : TypeId) (x : V) (f : Nat) : Q :=
  match fieldOf P s f with
  | some (o, t) => match okT P t, P.cellsOf t with
    | true, _ + 1 => moved o x
    | _, _ => .bad
  | none => .bad

def indexAddrQ (P : Program) (t : TypeId) (x i : V) : Q :=
  match i with
  | .int _ n =>
    match P.underlying t with
    | some (.array len e) =>
      match okT P e with
      | true =>
        match x with
        | .ptr l off => .chk (0 ≤ n ∧ n < len) (.ptr l (off + n.toNat * P.cellsOf e))
        | .lp d off => .chk (0 ≤ n ∧ n < len) (.lp d (off + n.toNat * P.cellsOf e))
        | .cptr cs off => .chk (0 ≤ n ∧ n < len) (.cptr cs (off + n.toNat * P.cellsOf e))
        | _ => .bad
      | false => .bad
    | some (.slice e) =>
      match okT P e with
      | true =>
        match x with
        | .sl es l _ => match es == P.cellsOf e with
          | true => .chk (0 ≤ n ∧ n < l.length) (.cptr (l.getD n.toNat []) 0)
          | false => .bad
        | .sref es l off len _ => match es == P.cellsOf e with
          | true => .chk (0 ≤ n ∧ n < len) (.ptr l (off + n.toNat * es))
          | false => .bad
        | _ => .bad
      | false => .bad
    | _ => .bad
  | _ => .bad

def fieldQ (P : Program) (m : Nat) (t : TypeId) (x : V) (f : Nat) : Q :=
  match fieldOf P t f with
  | some (o, t) => match x with | .agg cs => rdQ P m t cs o | _ => .bad
  | none => .bad

def Q.also (c : Prop) : Q → Q
  | .ok v => .chk c v
  | .chk d v => .chk (c ∧ d) v
  | .bad => .bad

def indexQ (P : Program) (m : Nat) (t : TypeId) (x i : V) : Q :=
  match i with
  | .int _ n =>
    match P.underlying t with
    | some (.array len e) => match x with
      | .agg cs => (rdQ P m e cs (n.toNat * P.cellsOf e)).also (0 ≤ n ∧ n < len)
      | _ => .bad
    | some .string => match x with
      | .str s => .chk (0 ≤ n ∧ n < s.size) (.int .u8 (s.data.getD n.toNat 0).toNat)
      | _ => .bad
    | _ => .bad
  | _ => .bad

def intQ (op : BinOp) (k : IntKind) (a b : Int) : Q :=
  match op with
  | .add => .ok (.int k (k.wrap (a + b)))
  | .sub => .ok (.int k (k.wrap (a - b)))
  | .mul => .ok (.int k (k.wrap (a * b)))
  | .quo => .chk (b ≠ 0) (.int k (k.wrap (a.tdiv b)))
  | .rem => .chk (b ≠ 0) (.int k (a.tmod b))
  | .and => .ok (.int k (k.wrap ((BitVec.ofInt k.bits a &&& BitVec.ofInt k.bits b).toNat : Nat)))
  | .or => .ok (.int k (k.wrap ((BitVec.ofInt k.bits a ||| BitVec.ofInt k.bits b).toNat : Nat)))
  | .xor => .ok (.int k (k.wrap ((BitVec.ofInt k.bits a ^^^ BitVec.ofInt k.bits b).toNat : Nat)))
  | .andNot => .ok (.int k (k.wrap ((BitVec.ofInt k.bits a &&& ~~~(BitVec.ofInt k.bits b)).toNat : Nat)))
  | .eql => .ok (.bool (a == b))
  | .neq => .ok (.bool (a != b))
  | .lss => .ok (.bool (decide (a < b)))
  | .leq => .ok (.bool (decide (a ≤ b)))
  | .gtr => .ok (.bool (decide (b < a)))
  | .geq => .ok (.bool (decide (b ≤ a)))
  | _ => .bad

def shiftQ (op : BinOp) (k : IntKind) (a b : Int) : Q :=
  match op with
  | .shl => .chk (0 ≤ b) (.int k (k.wrap (a * 2 ^ min b.toNat k.bits)))
  | .shr => .chk (0 ≤ b) (.int k (a.fdiv (2 ^ min b.toNat k.bits)))
  | _ => .bad

def eqlCell : V → V → Bool
  | .bool a, .bool b => a == b
  | .int _ a, .int _ b => a == b
  | .str a, .str b => a == b
  | _, _ => false

def eqlCells : List V → List V → Bool
  | [], [] => true
  | a :: r, b :: s => eqlCell a b && eqlCells r s
  | _, _ => false

def nilEql (x y : V) : Option Bool :=
  match x, y with
  | .nilp, .nilp => some true
  | .nilp, .ptr _ _ | .nilp, .cptr _ _ | .nilp, .lp _ _ | .ptr _ _, .nilp | .cptr _ _, .nilp | .lp _ _, .nilp => some false
  | .nilif, .iface _ _ | .iface _ _, .nilif => some false
  | .nilfn, .nilfn => some true
  | .nilfn, .fn _ _ _ | .fn _ _ _, .nilfn => some false
  | .map none, .map none => some true
  | .map none, .map (some _) | .map (some _), .map none => some false
  | _, _ => none

def ptrT (P : Program) (t : TypeId) : Bool := match P.underlying t with | some (.pointer _) => true | _ => false
def ifaceT (P : Program) (t : TypeId) : Bool := match P.underlying t with | some (.interface _) => true | _ => false
def boolT (P : Program) (t : TypeId) : Bool := match P.underlying t with | some .bool => true | _ => false

def neg (b : Bool) (v : Bool) : Bool := match b with | true => !v | false => v

def unQ (op : UnOp) : V → Q
  | .bool b => match op with | .not => .ok (.bool (!b)) | _ => .bad
  | .int k n => match op with
    | .neg => .ok (.int k (k.wrap (0 - n)))
    | .xor => .ok (.int k (k.wrap ((BitVec.ofInt k.bits (if k.signed then -1 else k.max) ^^^ BitVec.ofInt k.bits n).toNat : Nat)))
    | _ => .bad
  | _ => .bad

def isByte : List V → Bool
  | [.int k _] => kindEq k .u8
  | _ => false
def byteOf (e : List V) : UInt8 := UInt8.ofNat (e.headD .undef).num.toNat
def zeroIsByte (P : Program) (e : TypeId) : Bool := match P.underlying e with | some (.int k) => kindEq k .u8 | _ => false
def textOf (l : List (List V)) : ByteArray := ⟨(l.map byteOf).toArray⟩
def bytesOf (s : ByteArray) : List (List V) := s.data.toList.map fun b => [.int .u8 b.toNat]

def chunks (es : Nat) : Nat → List V → List (List V)
  | 0, _ => []
  | n + 1, cs => cs.take es :: chunks es n (cs.drop es)

def convQ (P : Program) (h : Heap) (src dst : TypeId) (x : V) : Q :=
  match P.underlying src, P.underlying dst, x with
  | some _, some (.int k), .int _ n => .ok (.int k (k.wrap n))
  | some (.slice e), some .string, .sl es l _ => match zeroIsByte P e, es with
    | true, 1 => .chk (l.all isByte = true) (.str (textOf l))
    | _, _ => .bad
  | some (.slice e), some .string, .sref es l off n _ => match zeroIsByte P e, es with
    | true, 1 => .chk ((n = 0 ∨ off + n ≤ (cellsAt h l).length) ∧ (chunks 1 n ((cellsAt h l).drop off)).all isByte = true) (.str (textOf (chunks 1 n ((cellsAt h l).drop off))))
    | _, _ => .bad
  | some .string, some (.slice e), .str s => match zeroIsByte P e with | true => .ok (.sl 1 (bytesOf s) .no) | false => .bad
  | _, _, _ => .bad

def boolOf : V → Option (Option Bool × Bool)
  | .bool x => some (none, x)
  | .opt b v => match v, b with
    | .bool x, b => some (some b, x)
    | _, false => some (some false, false)
    | _, true => none
  | .undef => some (some false, false)
  | _ => none

def validIf (t : Prop) : Option Bool → Prop → Prop
  | none, R => R
  | some b, R => (t → b = true) ∧ R

def pickQ (c a b : V) : Q :=
  match c with
  | .bool t => match boolOf a, boolOf b with
    | some (ga, x), some (gb, y) => .chk (validIf (t = true) ga (validIf (t = false) gb True)) (.bool (cond t x y))
    | _, _ => .bad
  | _ => .bad

def extractQ (x : V) (i : Nat) : Q :=
  match x with
  | .tup vs => match vs[i]? with | some v => .chk (v.plain = true) v.deLp | none => .bad
  | _ => .bad

def lenQ (P : Program) (t : TypeId) (x : V) : Q :=
  match P.underlying t with
  | some (.slice _) => match x with
    | .sl _ l _ => .ok (.int .i64 l.length)
    | .sref _ _ _ n _ => .ok (.int .i64 n)
    | _ => .bad
  | some .string => match x with | .str s => .ok (.int .i64 s.size) | _ => .bad
  | some (.array n _) => .ok (.int .i64 n)
  | _ => .bad

def minmaxQ (mx : Bool) : List V → Q
  | [.int k a, .int k' b] => match kindEq k k' with
    | true => .ok (.int k (match mx with | true => if a < b then b else a | false => if b < a then b else a))
    | false => .bad
  | _ => .bad

def cellsQ (size : Nat) (v : V) : Option (List V × Prop) :=
  match v with
  | .agg cs => some (cs, cs.length = size)
  | v => match v.one, size with | true, 1 => some ([v], True) | _, _ => none

def layQ (place : Nat → Option (Nat × Nat)) (n : Nat) : List V → List (Nat × V) → Option (List V × Prop)
  | cs, [] => some (cs, True)
  | cs, (i, v) :: r =>
    match place i with
    | none => none
    | some (off, size) =>
      match decide (off + size ≤ n), cellsQ size v with
      | true, some (new, c) =>
        match layQ place n (cs.take off ++ new ++ cs.drop (off + size)) r with
        | some (cs', c') => some (cs', c ∧ c')
        | none => none
      | _, _ => none

def zeroC (P : Program) : Nat → TypeId → Option (List V)
  | 0, _ => none
  | n + 1, t => match P.underlying t with
    | some .bool => some [.bool false]
    | some (.int k) => some [.int k 0]
    | some .string => some [.str .empty]
    | some (.pointer _) => some [.nilp]
    | some (.slice e) => some [.sl (P.cellsOf e) [] .full]
    | some (.map _ _) => some [.map none]
    | some (.func _ _ _) => some [.nilfn]
    | some (.interface _) => some [.nilif]
    | some (.struct fs) => fs.toList.foldr (fun f acc => match zeroC P n f.type, acc with | some a, some b => some (a ++ b) | _, _ => none) (some [])
    | some (.array k e) => (zeroC P n e).map fun z => (List.replicate k z).flatten
    | _ => none

def zeroIs : V → Value → Bool
  | .bool a, .bool b => a == b
  | .int k a, .int k' b => kindEq k k' && a == b
  | .str a, .string b => a.data == b.data
  | .nilp, .pointer none => true
  | .sl _ [] .full, .slice none 0 0 => true
  | .map none, .map none => true
  | .nilfn, .nilFunc => true
  | .nilif, .nilIface => true
  | _, _ => false

def zeroAll : List V → List Value → Bool
  | [], [] => true
  | v :: r, x :: s => zeroIs v x && zeroAll r s
  | _, _ => false

def zeroV (P : Program) (t : TypeId) : Option (List V) :=
  match zeroC P 20 t, P.info? t with
  | some cs, some i => match i.zero with
    | some z => match zeroAll cs z.cells.toList && decide (cs.length = i.size) with | true => some cs | false => none
    | none => none
  | _, _ => none

def fits : List V → List V → Bool
  | [], [] => true
  | .bool _ :: r, .bool _ :: s => fits r s
  | .int k _ :: r, .int k' _ :: s => kindEq k k' && fits r s
  | .str _ :: r, .str _ :: s => fits r s
  | _, _ => false

def plainT (P : Program) : Nat → TypeId → Bool
  | 0, _ => false
  | n + 1, t => match P.underlying t with
    | some .bool | some (.int _) | some .string => P.cellsOf t == 1
    | some (.struct fs) => !P.stoodInHeld t && fs.toList.foldr (fun f k off => f.name != "_" && f.offset == off && okT P f.type && (P.underlying f.type).isSome && plainT P n f.type
        && (match zeroC P n f.type with | some z => z.length == P.cellsOf f.type | none => false) && k (off + P.cellsOf f.type)) (fun off => off == P.cellsOf t) 0
    | some (.array k e) => okT P e && (P.underlying e).isSome && plainT P n e && (match zeroC P n e with | some z => z.length == P.cellsOf e | none => false) && k * P.cellsOf e == P.cellsOf t
    | _ => false

def eqKinds (P : Program) (t : TypeId) : Option (List V) :=
  match plainT P 20 t && !P.eqGuardType P.depth t with
  | true => zeroC P 20 t
  | false => none

def funcT (P : Program) (t : TypeId) : Bool := match P.underlying t with | some (.func _ _ _) => true | _ => false

def mapT (P : Program) (t : TypeId) : Bool := match P.underlying t with | some (.map _ _) => true | _ => false

def eqlQ (P : Program) (no : Bool) (t : TypeId) (x y : V) : Q :=
  match x, y with
  | .nilfn, .nilfn => match funcT P t with | true => .ok (.bool (neg no true)) | false => .bad
  | .nilfn, .fn _ _ _ => match funcT P t with | true => .ok (.bool (neg no false)) | false => .bad
  | .fn _ _ _, .nilfn => match funcT P t with | true => .ok (.bool (neg no false)) | false => .bad
  | .bool a, .bool b => match boolT P t with | true => .ok (.bool (neg no (a == b))) | false => .bad
  | .nilp, y => match ptrT P t, nilEql .nilp y with | true, some b => .ok (.bool (neg no b)) | _, _ => .bad
  | x, .nilp => match ptrT P t, nilEql x .nilp with | true, some b => .ok (.bool (neg no b)) | _, _ => .bad
  | .nilif, .iface u v => match ifaceT P t with | true => .ok (.bool (neg no false)) | false => .bad
  | .iface u v, .nilif => match ifaceT P t with | true => .ok (.bool (neg no false)) | false => .bad
  | .agg cs, .agg ds => match aggT P t, eqKinds P t with
    | true, some z => .chk (fits z cs = true ∧ fits z ds = true) (.bool (neg no (eqlCells cs ds)))
    | _, _ => .bad
  | .map a, .map none => match mapT P t with | true => .ok (.bool (neg no a.isNone)) | false => .bad
  | .map none, .map (some b) => match mapT P t with | true => .ok (.bool (neg no false)) | false => .bad
  | _, _ => .bad

def strQ (op : BinOp) (a b : ByteArray) : Q :=
  match op with
  | .eql => .ok (.bool (a.data.toList == b.data.toList))
  | .neq => .ok (.bool (!(a.data.toList == b.data.toList)))
  | .add => .chk (a.size + b.size ≤ 4611686018427387904) (.str (a ++ b))
  | _ => .bad

def binQ (P : Program) (op : BinOp) (t : TypeId) (x y : V) : Q :=
  match x, y with
  | .str a, .str b => strQ op a b
  | .int k a, .int k' b =>
    match op with
    | .shl | .shr => shiftQ op k a b
    | _ => match kindEq k k' with | true => intQ op k a b | false => .bad
  | x, y => match op with
    | .eql => eqlQ P false t x y
    | .neq => eqlQ P true t x y
    | _ => .bad

def nilC : Operand → Bool
  | .const .nilIface => true
  | _ => false
def nilNilQ (P : Program) (op : BinOp) (t : TypeId) : Q :=
  match ifaceT P t, op with
  | true, .eql => .ok (.bool true)
  | true, .neq => .ok (.bool false)
  | _, _ => .bad
def binQn (P : Program) (op : BinOp) (t : TypeId) (x y : Operand) (u v : V) : Q :=
  match nilC x || nilC y, u, v with
  | true, .nilif, .nilif => nilNilQ P op t
  | _, _, _ => binQ P op t u v

def placesOf (P : Program) (t : TypeId) : Option (Nat → Option (Nat × Nat)) :=
  match P.underlying t with
  | some (.struct fs) => match fs.toList.all (fun f => okT P f.type) with
    | true => some fun i => match fs[i]? with | some f => some (f.offset, P.cellsOf f.type) | none => none
    | false => none
  | some (.array _ e) => match okT P e with | true => some fun i => some (i * P.cellsOf e, P.cellsOf e) | false => none
  | _ => none

def buildQ (P : Program) (t : TypeId) (parts : List (Nat × V)) : Q :=
  match zeroV P t, placesOf P t with
  | some z, some pl => match layQ pl (P.cellsOf t) z parts with | some (cs, c) => .chk c (.agg cs) | none => .bad
  | _, _ => .bad

def elems (size : Nat) : List V → Option (List (List V) × Prop)
  | [] => some ([], True)
  | v :: r =>
    match cellsQ size v, elems size r with
    | some (new, c), some (l, c') => some (new :: l, c ∧ c')
    | _, _ => none

def buildSliceQ (P : Program) (t : TypeId) (n : Nat) (parts : List (Nat × V)) : Q :=
  match P.underlying t with
  | some (.slice e) => match zeroV P e, P.cellsOf e, decide (n * P.cellsOf e ≤ 16777216) && (parts.map (·.1) == List.range n) with
    | some _, s + 1, true => match elems (s + 1) (parts.map (·.2)) with | some (l, c) => .chk c (.sl (s + 1) l .full) | none => .bad
    | _, _, _ => .bad
  | _ => .bad

def bndI (v : Option V) (d : Int) : Option Int :=
  match v with
  | none => some d
  | some (.int _ n) => some n
  | _ => none

def sliceR (es l off cap n : Nat) (lo hi mx : Option V) : Q :=
  match bndI lo 0, bndI hi n, bndI mx cap, (match mx, hi with | some _, none => false | _, _ => true) with
  | some a, some b, some c, true => .chk (0 ≤ a ∧ a ≤ b ∧ b ≤ c ∧ c ≤ cap) (.sref es l (match c == a with | true => off | false => off + a.toNat * es) (b - a).toNat (c - a).toNat)
  | _, _, _, _ => .bad

def sliceQ (P : Program) (t : TypeId) (x : V) (lo hi mx : Option V) : Q :=
  match P.underlying t with
  | some (.slice e) =>
    match okT P e, x with
    | true, .sl es l g =>
      match es == P.cellsOf e, mx with
      | true, none => match bndI lo 0, bndI hi l.length with
        | some a, some b => .chk (0 ≤ a ∧ a ≤ b ∧ b ≤ l.length) (.sl es ((l.take b.toNat).drop a.toNat) .no)
        | _, _ => .bad
      | true, some m => match bndI lo 0, (match hi with | some b => bndI (some b) 0 | none => none), bndI (some m) 0 with
        | some a, some b, some c => .chk (0 ≤ a ∧ a ≤ b ∧ b ≤ l.length ∧ c = b) (.sl es ((l.take b.toNat).drop a.toNat) .full)
        | _, _, _ => .bad
      | false, _ => .bad
    | true, .sref es l off n cap =>
      match es == P.cellsOf e with
      | true => sliceR es l off cap n lo hi mx
      | false => .bad
    | _, _ => .bad
  | some .string => match x, mx, bndI lo 0 with
    | .str s, none, some a => match bndI hi s.size with
      | some b => .chk (0 ≤ a ∧ a ≤ b ∧ b ≤ s.size) (.str (s.extract a.toNat b.toNat))
      | none => .bad
    | _, _, _ => .bad
  | some (.array len e) => match okT P e, x with
    | true, .ptr l off => sliceR (P.cellsOf e) l off len len lo hi mx
    | _, _ => .bad
  | _ => .bad

def keyEq : V → V → Option Bool
  | .int k a, .int k' b => match kindEq k k' with | true => some (a == b) | false => none
  | .str a, .str b => some (a == b)
  | .bool a, .bool b => some (a == b)
  | _, _ => none

def findV (k : V) : List (V × V) → Option (Option V)
  | [] => some none
  | e :: r => match keyEq k e.1 with
    | some true => some (some e.2)
    | some false => findV k r
    | none => none

def mapAt (h : Heap) : V → Option (List (V × V))
  | .map none => some []
  | .map (some r) => match h r with | some (.obj (.map es)) => some es | _ => none
  | _ => none

def fitK (d : TypeDesc) (k : V) : Bool :=
  match d, k with
  | .int k', .int k _ => kindEq k k'
  | .string, .str _ => true
  | .bool, .bool _ => true
  | _, _ => false

def keyT (P : Program) (t : TypeId) (k : V) : Bool :=
  match P.underlying t with
  | some d => fitK d k
  | none => false

def zeroVal (P : Program) (t : TypeId) : Option V :=
  match zeroV P t, P.info? t with
  | some cs, some i => match i.zero, cs with
    | some (.agg _), cs => some (.agg cs)
    | some _, [v] => some v
    | _, _ => none
  | _, _ => none

def lookupQ (P : Program) (h : Heap) (t : TypeId) (x i : V) (ok : Bool) : Q :=
  match P.underlying t with
  | some (.map kt e) =>
    match keyT P kt i, mapAt h x with
    | true, some es =>
      match findV i es, zeroVal P e with
      | some (some v), _ => .chk (v.plain = true) (match ok with | true => .tup [v.deLp, .bool true] | false => v.deLp)
      | some none, some z => .chk (z.plain = true) (match ok with | true => .tup [z.deLp, .bool false] | false => z.deLp)
      | _, _ => .bad
    | _, _ => .bad
  | _ => .bad

def qop (P : Program) (m : Nat) (fr : Fr) (h : Heap) (ρ : Operand → V) (o : Op) : Q :=
  match o with
  | .move x | .assign x => .ok (ρ x)
  | .build t ps => buildQ P t (ps.toList.map fun e => (e.1, ρ e.2))
  | .buildSlice t n ps => buildSliceQ P t n (ps.toList.map fun e => (e.1, ρ e.2))
  | .load t a => loadQ P m fr h t (ρ a)
  | .nilCheck x => nilQ (ρ x)
  | .binOp op t x y _ => binQn P op t x y (ρ x) (ρ y)
  | .unOp op _ x => unQ op (ρ x)
  | .convert s d x => convQ P h s d (ρ x)
  | .lookup t x i ok => lookupQ P h t (ρ x) (ρ i) ok
  | .fieldAddr s x f => fieldAddrQ P s (ρ x) f
  | .indexAddr t x i => indexAddrQ P t (ρ x) (ρ i)
  | .field t x f => fieldQ P m t (ρ x) f
  | .index t x i => indexQ P m t (ρ x) (ρ i)
  | .extract x i => extractQ (ρ x) i
  | .slice t x lo hi mx => sliceQ P t (ρ x) (lo.map ρ) (hi.map ρ) (mx.map ρ)
  | .makeFunc (.func f) a b => match (a.toList.map ρ).all V.plain && (b.toList.map ρ).all V.plain with
    | true => .ok (.fn (.func f) (a.toList.map ρ) (b.toList.map ρ))
    | false => .bad
  | .makeInterface t x => match P.underlying t, (ρ x).plain with
    | some (.interface _), _ => .bad
    | some _, true => .ok (.iface t (ρ x))
    | _, _ => .bad
  | .call c => match c.callee with
    | .builtin .len => match c.argTypes.toList, c.args.toList with
      | t :: _, x :: _ => lenQ P t (ρ x)
      | _, _ => .bad
    | .builtin .min => minmaxQ false (c.args.toList.map ρ)
    | .builtin .max => minmaxQ true (c.args.toList.map ρ)
    | _ => .bad
  | _ => .bad

def ptrK (r : V) (A : Nat → Nat → Prop) (B : Prop) : Prop :=
  match r with
  | .ptr l off => A l off
  | .nilp => B
  | _ => False

def shape1 (P : Program) (mt : Nat) (t : TypeId) (r : V) (K : V → Prop) : Prop :=
  match P.underlying t, mt with
  | some (.pointer _), _ => ptrK r (fun l off => K (.ptr l off)) (K .nilp)
  | some (.slice e), 1 => r.isRef (P.cellsOf e) = true ∧ K (.sref (P.cellsOf e) r.rl r.ro r.rn r.rc)
  | some (.slice e), 2 => (r.isSl (P.cellsOf e) || r.isRef (P.cellsOf e)) = true ∧ K r.deLp
  | _, 2 => r.plain = true ∧ K r.deLp
  | _, _ => (shV P 0 t True r).need K

def shapes (P : Program) (mt : Nat) : List TypeId → Nat → List V → (List V → Prop) → Prop
  | [], _, _, K => K []
  | t :: ts, i, vs, K => shape1 P mt t (vs.getD i .undef) fun v => shapes P mt ts (i + 1) vs fun l => K (v :: l)

def shapeW (P : Program) (mt : Nat) (t : TypeId) (r : V) (K : V → Prop) : Prop :=
  match P.underlying t with
  | some (.tuple ts) => r.isTup ts.toList.length = true ∧ shapes P mt ts.toList 0 r.vs fun vs => K (.tup vs)
  | _ => shape1 P mt t r K

def wrCells (cs : List V) (off : Nat) (new : List V) : List V := cs.take off ++ new ++ cs.drop (off + new.length)

def storeW (P : Program) (t : TypeId) (a v : V) (fr : Fr) (h : Heap) (K : Fr → Heap → Prop) : Prop :=
  match okT P t, P.cellsOf t with
  | true, s + 1 =>
    match cellsQ (s + 1) v with
    | none => False
    | some (new, c) =>
      match a with
      | .ptr l off => c ∧ off + (s + 1) ≤ (cellsAt h l).length ∧ K fr (h.upd l (.cells (wrCells (cellsAt h l) off new)))
      | .lp d off => c ∧ off + (s + 1) ≤ (fr.var d).length ∧ K { fr with lc := lcSet d (wrCells (fr.var d) off new) fr.lc } h
      | _ => False
  | _, _ => False

def mostLen : Nat := 4294967296

def srcQ (P : Program) (t2 : TypeId) (size : Nat) (y : V) : Option (List (List V)) :=
  match P.underlying t2, y with
  | some (.slice _), .sl es m _ => match es == size with | true => some m | false => none
  | some .string, .str s => match size with | 1 => some (s.data.toList.map fun b => [.int .u8 b.toNat]) | _ => none
  | _, _ => none

def appG (es n m : Nat) (g : G) (h : Heap) (K : G → Heap → Prop) : Prop :=
  match g with
  | .own s => h s = some (.grow es n) ∧ K (.own s) (h.upd s (.grow es (n + m)))
  | .full => match m with
    | 0 => K .full h
    | _ + 1 => ∀ s, h s = none → K (.own s) (h.upd s (.grow es (n + m)))
  | .no => False

def appendW (P : Program) (t t2 : TypeId) (x y : V) (h : Heap) (K : V → Heap → Prop) : Prop :=
  match P.underlying t with
  | some (.slice e) =>
    match P.info? e with
    | some i =>
      match decide (0 < i.size) && decide (i.bytes ≤ 4096), zeroV P e, x, srcQ P t2 i.size y with
      | true, some _, .sl es l g, some m =>
        match es == i.size with
        | true =>
          l.length + m.length ≤ mostLen ∧ appG es l.length m.length g h fun g' h' => K (.sl es (l ++ m) g') h'
        | false => False
      | _, _, _, _ => False
    | none => False
  | _ => False

def AppTo (es : Nat) (h : Heap) (l off n cap : Nat) (m : List (List V)) (l' off' cap' : Nat) (h' : Heap) : Prop :=
  (n + m.length ≤ cap ∧ l' = l ∧ off' = off ∧ cap' = cap ∧ h' = h.upd l (.cells (wrCells (cellsAt h l) (off + n * es) m.flatten))) ∨
  (cap < n + m.length ∧ n + m.length ≤ cap' ∧ h l' = none ∧ off' = 0 ∧
    ∃ rest : List V, rest.length = (cap' - (n + m.length)) * es ∧ h' = h.upd l' (.cells (((cellsAt h l).drop off).take (n * es) ++ m.flatten ++ rest)))

def appendM (P : Program) (t t2 : TypeId) (x y : V) (h : Heap) (K : V → Heap → Prop) : Prop :=
  match P.underlying t with
  | some (.slice e) =>
    match P.info? e with
    | some i =>
      match decide (0 < i.size) && decide (i.bytes ≤ 4096), zeroV P e, x, srcQ P t2 i.size y with
      | true, some _, .sref es l off n cap, some m =>
        match es == i.size with
        | true =>
          n + m.length ≤ mostLen ∧ 0 < m.length ∧ off + cap * es ≤ (cellsAt h l).length ∧
            ∀ l' off' cap' h', AppTo es h l off n cap m l' off' cap' h' → K (.sref es l' off' (n + m.length) cap') h'
        | false => False
      | _, _, _, _ => False
    | none => False
  | _ => False

def srcH (P : Program) (h : Heap) (t2 : TypeId) (size : Nat) (y : V) : Option (List (List V) × Prop) :=
  match P.underlying t2, y with
  | some (.slice _), .sref es l off n _ => match es == size with | true => some (chunks es n ((cellsAt h l).drop off), n = 0 ∨ off + n * es ≤ (cellsAt h l).length) | false => none
  | _, y => match srcQ P t2 size y with | some m => some (m, True) | none => none

def appendD (P : Program) (t t2 : TypeId) (x y : V) (h : Heap) (K : V → Heap → Prop) : Prop :=
  match P.underlying t with
  | some (.slice e) =>
    match P.info? e with
    | some i =>
      match decide (0 < i.size) && decide (i.bytes ≤ 4096), zeroV P e, srcH P h t2 i.size y with
      | true, some _, some (m, c) =>
        c ∧ match x with
        | .sref es l off n cap =>
          match es == i.size with
          | true => n + m.length ≤ mostLen ∧ (n = 0 ∨ off + n * es ≤ (cellsAt h l).length) ∧ (0 < m.length → off + cap * es ≤ (cellsAt h l).length) ∧
              (m = [] → K (.sref es l off n cap) h) ∧ (0 < m.length → ∀ l' off' cap' h', AppTo es h l off n cap m l' off' cap' h' → K (.sref es l' off' (n + m.length) cap') h')
          | false => False
        | .sl es l .full =>
          match es == i.size with
          | true => l.length + m.length ≤ mostLen ∧ (m = [] → K (.sl es l .full) h) ∧
              (0 < m.length → ∀ (k cap : Nat) (rest : List V), h k = none → l.length + m.length ≤ cap → rest.length = (cap - (l.length + m.length)) * es →
                K (.sref es k 0 (l.length + m.length) cap) (h.upd k (.cells ((l ++ m).flatten ++ rest))))
          | false => False
        | _ => False
      | _, _, _ => False
    | none => False
  | _ => False

def appendX (P : Program) (mt : Nat) (t t2 : TypeId) (x y : V) (h : Heap) (K : V → Heap → Prop) : Prop :=
  match mt with
  | 0 => appendW P t t2 x y h K
  | 1 => appendM P t t2 x y h K
  | _ => appendD P t t2 x y h K

def copyW (P : Program) (t t2 : TypeId) (x y : V) (h : Heap) (K : V → Heap → Prop) : Prop :=
  match P.underlying t with
  | some (.slice e) =>
    match P.info? e with
    | some i =>
      match srcH P h t2 i.size y, x with
      | some (m, c), .sref es l off n _ =>
        match es == i.size with
        | true => c ∧ 0 < i.size ∧ off + n * es ≤ (cellsAt h l).length ∧ h l = some (.cells (cellsAt h l)) ∧
            K (.int .i64 (min m.length n : Nat)) (h.upd l (.cells (wrCells (cellsAt h l) off (m.take n).flatten)))
        | false => False
      | some (_, c), .sl _ [] _ => c ∧ 0 < i.size ∧ K (.int .i64 0) h
      | _, _ => False
    | none => False
  | _ => False

def clearW (P : Program) (t : TypeId) (x : V) (h : Heap) (K : V → Heap → Prop) : Prop :=
  match P.underlying t with
  | some (.slice e) =>
    match P.info? e with
    | some i =>
      match zeroV P e, x with
      | some z, .sref es l off n _ =>
        match es == i.size with
        | true => 0 < i.size ∧ off + n * es ≤ (cellsAt h l).length ∧ h l = some (.cells (cellsAt h l)) ∧ K (.tup []) (h.upd l (.cells (wrCells (cellsAt h l) off (List.replicate n z).flatten)))
        | false => False
      | _, _ => False
    | none => False
  | _ => False

def lenMW (P : Program) (t : TypeId) (x : V) (h : Heap) (K : V → Heap → Prop) : Prop :=
  match P.underlying t, mapAt h x with
  | some (.map _ _), some es => K (.int .i64 es.length) h
  | _, _ => False

def makeSliceW (P : Program) (t : TypeId) (n c : V) (h : Heap) (K : V → Heap → Prop) : Prop :=
  match P.underlying t with
  | some (.slice e) =>
    match P.info? e with
    | some i =>
      match zeroV P e, n, c, decide (0 < i.size) && decide (i.bytes ≤ 4096) with
      | some z, .int _ a, .int _ b, true => 0 ≤ a ∧ a ≤ b ∧ b ≤ mostLen ∧
          ∀ k, h k = none → K (.sref i.size k 0 a.toNat b.toNat) (h.upd k (.cells (List.replicate b.toNat z).flatten))
      | _, _, _, _ => False
    | none => False
  | _ => False

def updV (k v : V) : List (V × V) → Option (List (V × V))
  | [] => some [(k, v)]
  | e :: r => match keyEq k e.1 with
    | some true => some ((k, v) :: r)
    | some false => match updV k v r with | some l => some (e :: l) | none => none
    | none => none

def mapUpdateW (P : Program) (t : TypeId) (x k v : V) (h : Heap) (K : Heap → Prop) : Prop :=
  match P.underlying t, x with
  | some (.map kt _), .map (some r) =>
    match keyT P kt k, h r, v.plain with
    | true, some (.obj (.map es)), true => match updV k v es with
      | some es' => K (h.upd r (.obj (.map es')))
      | none => False
    | _, _, _ => False
  | _, _ => False

def typed (P : Program) (ρ : Operand → V) (t : TypeId) (x : Operand) : V :=
  match x with
  | .const (.slice none 0 0) => match P.underlying t with | some (.slice e) => .sl (P.cellsOf e) [] .full | _ => .undef
  | x => ρ x

def argsV (P : Program) (ρ : Operand → V) : List TypeId → List Operand → List V
  | _, [] => []
  | [], x :: r => ρ x :: argsV P ρ [] r
  | t :: ts, x :: r => typed P ρ t x :: argsV P ρ ts r

def effW (P : Program) (mt : Nat) (o : Op) (ty : TypeId) (ρ : Operand → V) (fr : Fr) (h : Heap) (K : V → Fr → Heap → Prop) : Prop :=
  match o with
  | .alloc t => match zeroV P t with | some cs => ∀ l, h l = none → K (.ptr l 0) fr (h.upd l (.cells cs)) | none => False
  | .box t x => match okT P t, cellsQ (P.cellsOf t) (ρ x) with
    | true, some (cs, c) => c ∧ ∀ l, h l = none → K (.ptr l 0) fr (h.upd l (.cells cs))
    | _, _ => False
  | .store t a x => storeW P t (ρ a) (typed P ρ t x) fr h fun fr' h' => K .undef fr' h'
  | .buildSlice t n ps => match buildSliceQ P t n (ps.toList.map fun e => (e.1, ρ e.2)) with
    | .chk c (.sl es l _) => c ∧ ∀ k, h k = none → K (.sref es k 0 l.length l.length) fr (h.upd k (.cells l.flatten))
    | _ => False
  | .makeSlice t n c => makeSliceW P t (ρ n) (ρ c) h fun v h' => K v fr h'
  | .makeMap _ none => ∀ k, h k = none → K (.map (some k)) fr (h.upd k (.obj (.map [])))
  | .mapUpdate t m k v => mapUpdateW P t (ρ m) (ρ k) (ρ v) h fun h' => K .undef fr h'
  | .binOp op t x (.const (.slice none 0 0)) _ => match P.underlying t with
    | some (.slice _) => match op, ρ x with
      | .eql, .sl _ l _ => ∀ b : Bool, (l ≠ [] → b = false) → K (.bool b) fr h
      | .neq, .sl _ l _ => ∀ b : Bool, (l ≠ [] → b = false) → K (.bool !b) fr h
      | .eql, .sref _ _ _ n c => ∀ b : Bool, (n ≠ 0 → b = false) → K (.bool b) fr h
      | .neq, .sref _ _ _ n c => ∀ b : Bool, (n ≠ 0 → b = false) → K (.bool !b) fr h
      | _, _ => False
    | _ => False
  | .convert s d x => match s == d, P.underlying s, ρ x with
    | true, some (.slice e), .sref es l o n c => match zeroIsByte P e with | true => 0 < n ∧ h l = some (.cells (cellsAt h l)) ∧ K (.sref es l o n c) fr h | false => False
    | _, _, _ => False
  | .call c =>
    match c.callee with
    | .value f => match ρ f with
      | .fn (.func k) first caps => match (argsV P ρ c.argTypes.toList c.args.toList).all V.plain with
        | true => AnyW P k (first ++ argsV P ρ c.argTypes.toList c.args.toList ++ caps) h fun r h' => shapeW P mt ty r fun v => K v fr h'
        | false => False
      | .fn (.yield l) [] [] => match (argsV P ρ c.argTypes.toList c.args.toList).all V.plain with
        | true => YieldW P l (argsV P ρ c.argTypes.toList c.args.toList) h fun r h' => shapeW P mt ty r fun v => K v fr h'
        | false => False
      | _ => False
    | .builtin .append => match c.argTypes.toList, c.args.toList with
      | t :: t2 :: _, [x, y] => appendX P mt t t2 (typed P ρ t x) (typed P ρ t2 y) h fun v h' => K v fr h'
      | _, _ => False
    | .builtin .copy => match c.argTypes.toList, c.args.toList with
      | t :: t2 :: _, [x, y] => copyW P t t2 (typed P ρ t x) (typed P ρ t2 y) h fun v h' => K v fr h'
      | _, _ => False
    | .builtin .len => match c.argTypes.toList, c.args.toList with
      | t :: _, [x] => lenMW P t (ρ x) h fun v h' => K v fr h'
      | _, _ => False
    | .builtin .clear => match c.argTypes.toList, c.args.toList with
      | t :: _, [x] => clearW P t (typed P ρ t x) h fun v h' => K v fr h'
      | _, _ => False
    | _ => False
  | _ => False

def hasN (l : List Nat) (n : Nat) : Bool := l.any (Nat.beq n)

def dstIn (o : Oper) (l : List Nat) : Bool := match o.dst with | some d => hasN l d | none => false

def dstMode (o : Oper) (l : List Nat) : Nat := match hasN l 999999, dstIn o l with
  | true, _ => 2
  | false, true => 1
  | false, false => 0

def bsMode (o : Oper) (l : List Nat) : Nat := match (match o.dst with | some d => hasN l (2000000 + d) | none => false) with
  | true => 0
  | false => dstMode o l

def sortOf (esc : List Nat) (o : Oper) : Nat :=
  match o.op with
  | .alloc _ | .box _ _ => (match o.dst with | some d => (match esc.contains d with | true => 2 | false => 1) | none => 2)
  | .buildSlice _ _ _ => (match bsMode o esc with | 0 => 0 | _ => 2)
  | .convert s d _ => (match s == d with | true => 2 | false => 0)
  | .binOp _ _ _ (.const (.slice none 0 0)) _ => 2
  | .store _ _ _ | .mapUpdate _ _ _ _ | .entryStore _ _ _ _ | .insert _ _ _ _ | .makeMap _ _ | .makeSlice _ _ _ | .mapEntry _ _ _ | .range _ _ | .next _ _ | .ready _ => 2
  | .call c => (match c.callee with
    | .builtin .len => (match (match o.dst with | some d => hasN esc (4000000 + d) | none => false) with | true => 2 | false => 0)
    | .builtin .min | .builtin .max | .builtin .cap => 0
    | _ => 2)
  | _ => 0

def killV (d : Nat) : V → V
  | .lp e off => match Nat.beq e d with | true => .undef | false => .lp e off
  | .opt b (.lp e off) => match Nat.beq e d with | true => .undef | false => .opt b (.lp e off)
  | .opt _ (.opt _ _) => .undef
  | v => v

def ownVar (P : Program) (o : Op) (ρ : Operand → V) : Option (List V × Prop) :=
  match o with
  | .alloc t => match zeroV P t with | some cs => some (cs, True) | none => none
  | .box t x => match okT P t with | true => cellsQ (P.cellsOf t) (ρ x) | false => none
  | _ => none

def optNeed (g : Option Bool) (v : V) (R : Prop) : Prop :=
  match v with
  | .opt b _ => (match g with | none => b = true | some c => (c = true → b = true)) ∧ R
  | _ => R

def optNeeds (g : Option Bool) : List V → Prop → Prop
  | [], R => R
  | v :: r, R => optNeed g v (optNeeds g r R)

def Fr.put (fr : Fr) (dst : Option Tmp) (v : V) : Fr := match dst with | some d => { fr with tm := fr.tm.set d v } | none => fr

def putOpt (g : Option Bool) (v : V) : V := match g with | none => v | some b => .opt b v

def guardOf (ops : List Oper) (fr : Fr) (o : Oper) : Option (Option Bool) :=
  match o.guard with
  | none => some none
  | some (j, want) =>
    match ops[j]? with
    | some p => match p.dst with
      | some d => match fr.tm.getD d .undef with
        | .bool t => some (some (match want with | true => t | false => !t))
        | .opt b v => match v, b with
          | .bool t, b => some (some (b && (match want with | true => t | false => !t)))
          | _, false => some (some false)
          | _, true => none
        | _ => none
      | none => none
    | none => none

def nilSlQ (P : Program) (t : TypeId) : Q :=
  match P.underlying t with
  | some (.slice e) => .ok (.sl (P.cellsOf e) [] .full)
  | _ => .bad

def quietQ (P : Program) (esc : List Nat) (fr : Fr) (h : Heap) (o : Oper) : Q :=
  match o.op with
  | .pick c a b => pickQ (fr.ev c).strip (fr.ev a) (fr.ev b)
  | .assign (.const (.slice none 0 0)) => nilSlQ P o.type
  | op => qop P (dstMode o esc) fr h (fun x => (fr.ev x).strip) op

def quietOps (o : Oper) (fr : Fr) : List V :=
  match o.op with
  | .pick c _ _ => [fr.ev c]
  | op => op.operands.toList.map fr.ev

def quietW (P : Program) (esc : List Nat) (g : Option Bool) (fr : Fr) (h : Heap) (o : Oper) (K : V → Prop) : Prop :=
  optNeeds g (quietOps o fr) <|
  match quietQ P esc fr h o, g with
  | .ok v, g => K (putOpt g v)
  | .chk c v, none => c ∧ K v
  | .chk c v, some b => (b = true → c) ∧ K (.opt b v)
  | .bad, none => False
  | .bad, some b => b = false ∧ K (.opt false .undef)

def brW (b : Bool) (T E : Prop) : Prop := match b with | true => T | false => E

def yesV (P : Program) (t : TypeId) (b : Bool) (v : V) : V :=
  match P.underlying t with
  | some .bool | some (.int _) | some .string => .opt b v
  | _ => v
def noV (P : Program) (t : TypeId) (b : Bool) : V :=
  match P.underlying t with
  | some .bool => .opt b (.bool false)
  | some (.int k) => .opt b (.int k 0)
  | some .string => .opt b (.str .empty)
  | _ => .undef

def opW (P : Program) (esc : List Nat) (ops : List Oper) (o : Oper) (fr : Fr) (h : Heap) (K : Fr → Heap → Prop) : Prop :=
  match guardOf ops fr o with
  | none => False
  | some g =>
    match sortOf esc o with
    | 0 => quietW P esc g fr h o fun v => K (fr.put o.dst v) h
    | 1 => match g, o.dst, ownVar P o.op (fun x => (fr.ev x).strip) with
      | none, some d, some (cs, c) => optNeeds none (o.op.operands.toList.map fr.ev) (c ∧ K { tm := fr.tm.set d (.lp d 0), lc := lcSet d cs fr.lc } h)
      | _, _, _ => False
    | _ => match g with
      | none => optNeeds none (o.op.operands.toList.map fr.ev) (effW P (dstMode o esc) o.op o.type (fun x => (fr.ev x).strip) fr h fun v fr' h' => K (fr'.put o.dst v) h')
      | some b => brW b (optNeeds none (o.op.operands.toList.map fr.ev) (effW P (dstMode o esc) o.op o.type (fun x => (fr.ev x).strip) fr h fun v fr' h' => K (fr'.put o.dst (yesV P o.type b v)) h'))
          (K (fr.put o.dst (noV P o.type b)) h)

def opsW (P : Program) (esc : List Nat) (ops : List Oper) : List Oper → Fr → Heap → (Fr → Heap → Prop) → Prop
  | [], fr, h, K => K fr h
  | o :: r, fr, h, K => opW P esc ops o fr h fun fr' h' => opsW P esc ops r fr' h' K

inductive Ex where
  | normal
  | exit (id : Nat)
  | goto (l : Nat)
  | ret

def condW (v : V) (T E : Prop) : Prop :=
  match v with
  | .bool b => brW b T E
  | _ => False

def begun (esc : List Nat) : List Oper → List Nat
  | [] => []
  | o :: r => match sortOf esc o, o.dst with
    | 1, some d => d :: begun esc r
    | _, _ => begun esc r

def killAll : List Nat → Fr → Fr
  | [], fr => fr
  | d :: r, fr => killAll r { fr with tm := fr.tm.map (killV d) }

/-! A region whose order is free: the operations are gone through quiet ones first; the effects must stand in one row; what was read is read again behind each effect that need not wait for it. -/

def bindsOf (o : Oper) : List Nat := (o.after.toList.filter (Region.binds .any)).map (·.on)

def maskOf : List Nat → Nat
  | [] => 0
  | i :: r => maskOf r ||| (1 <<< i)

def readyM (masks : List Nat) (done i : Nat) : Bool :=
  !(done.testBit i) && match masks[i]? with | some m => (m &&& done) == m | none => false

def asap (masks sorts : List Nat) : Nat → Nat → List Nat
  | 0, _ => []
  | k + 1, done =>
    match (List.range masks.length).find? (fun i => readyM masks done i && (sorts.getD i 2 != 2)) with
    | some i => i :: asap masks sorts k (done ||| (1 <<< i))
    | none => match (List.range masks.length).find? (readyM masks done) with
      | some i => i :: asap masks sorts k (done ||| (1 <<< i))
      | none => []

def lookN (l : List (Nat × Nat)) (i : Nat) : Nat := match l.find? (fun e => e.1 == i) with | some e => e.2 | none => 0

def ancOf (binds : List (List Nat)) : List Nat → List (Nat × Nat) → List (Nat × Nat)
  | [], acc => acc
  | i :: r, acc => ancOf binds r ((i, (binds.getD i []).foldr (fun j m => (m ||| lookN acc j) ||| (1 <<< j)) 0) :: acc)

def isRead : Op → Bool
  | .load _ _ => true
  | .convert _ _ _ => true
  | .lookup _ _ _ _ => true
  | _ => false

def isNew (o : Oper) : Bool := match o.op, o.guard with
  | .alloc _, none => true
  | .box _ _, none => true
  | .buildSlice _ _ _, none => true
  | _, _ => false

def freeRead (x y : Oper) : Bool := isNew y && x.guard.isNone

def planOf (ops : List Oper) (sorts : List Nat) (anc : List (Nat × Nat)) : List Nat → List Nat → List (Nat × List Nat)
  | [], _ => []
  | i :: r, rds =>
    match sorts.getD i 2 with
    | 2 => (i, rds.filter fun j => !((lookN anc i).testBit j) && !(match ops[j]?, ops[i]? with | some x, some y => freeRead x y | _, _ => false)) :: planOf ops sorts anc r rds
    | _ =>
      match (match ops[i]? with | some o => isRead o.op | none => false) with
      | true => (i, []) :: planOf ops sorts anc r (i :: rds)
      | false => (i, []) :: planOf ops sorts anc r rds

def nodupN : List Nat → Bool
  | [] => true
  | a :: r => !(r.any (Nat.beq a)) && nodupN r

def noSel : Op → Bool
  | .select _ _ => false
  | _ => true

def dstEq (x y : Oper) : Bool := match x.dst, y.dst with | some d, some e => Nat.beq d e | _, _ => false

def isCall (o : Oper) : Bool := match o.op with
  | .call c => (match c.callee with | .value _ => true | _ => false)
  | _ => false
def isAlloc (o : Oper) : Bool := match o.op, o.guard with
  | .alloc _, none => true
  | _, _ => false
def zerosOk (P : Program) (ops : List Oper) : Bool := ops.all fun o => match o.op with
  | .alloc t => (zeroV P t).isSome
  | _ => true

def rdFree (ops : List Oper) (y : Oper) (r : Nat) : Bool := match ops[r]? with
  | some z => isRead z.op && z.guard.isNone && !(dstIn y (z.looksAt ops.toArray)) && !(dstEq z y)
  | none => false

def pairOk (ops : List Oper) (esc : List Nat) (anc : List (Nat × Nat)) (p q : Nat × List Nat) : Bool :=
  match ops[p.1]?, ops[q.1]? with
  | some x, some y =>
    !(dstEq x y) && !(isRead x.op && dstIn y (x.looksAt ops.toArray)) && !((lookN anc p.1).testBit q.1) &&
    ((lookN anc q.1).testBit p.1 ||
      (!(Nat.beq (sortOf esc x) 2) && !(dstIn x (y.looksAt ops.toArray)) && !(dstIn y (x.looksAt ops.toArray)) && (!(Nat.beq (sortOf esc y) 2) || !(isRead x.op) || hasN q.2 p.1)) ||
      ((!(Nat.beq (sortOf esc x) 2) || (isNew x && p.2.isEmpty) || (isCall x && isAlloc y && p.2.all (rdFree ops y))) && isNew y && Nat.beq (sortOf esc y) 2 && q.2.isEmpty && !(dstIn x (y.looksAt ops.toArray)) && !(dstIn y (x.looksAt ops.toArray)) && (!(isRead x.op) || x.guard.isNone)))
  | _, _ => false

def pairsOk (ops : List Oper) (esc : List Nat) (anc : List (Nat × Nat)) : List (Nat × List Nat) → Bool
  | [] => true
  | p :: r => r.all (pairOk ops esc anc p) && pairsOk ops esc anc r

def oneOk (ops : List Oper) (esc : List Nat) (anc : List (Nat × Nat)) (p : Nat × List Nat) : Bool :=
  match ops[p.1]? with
  | some x => !((lookN anc p.1).testBit p.1) && noSel x.op && !(isRead x.op && dstIn x (x.looksAt ops.toArray)) && (Nat.beq (sortOf esc x) 2 || p.2.isEmpty)
  | none => false

def ancOk (ops : List Oper) (anc : List (Nat × Nat)) : Bool :=
  (List.range ops.length).all fun i => match ops[i]? with
    | some o => Nat.beq (lookN anc i) ((bindsOf o).foldr (fun j m => (m ||| lookN anc j) ||| (1 <<< j)) 0)
    | none => false

def planOk (ops : List Oper) (esc : List Nat) (anc : List (Nat × Nat)) (plan : List (Nat × List Nat)) : Bool :=
  Nat.beq plan.length ops.length && nodupN (plan.map (·.1)) && nodupN (begun esc ops) && ancOk ops anc && plan.all (oneOk ops esc anc) && pairsOk ops esc anc plan &&
  ops.all (fun o => (bindsOf o).all fun j => Nat.ble (j + 1) ops.length) && (List.range ops.length).all (hasN (plan.map (·.1)))

def regPlan (esc : List Nat) (ops : List Oper) : Option (List (Nat × List Nat)) :=
  let binds := ops.map bindsOf
  let sorts := ops.map (sortOf esc)
  let order := asap (binds.map maskOf) sorts ops.length 0
  let anc := ancOf binds order []
  let plan := planOf ops sorts anc order []
  match planOk ops esc anc plan with
  | true => some plan
  | false => none

def AgainOk (P : Program) (esc : List Nat) (ops : List Oper) (fr : Fr) (h : Heap) (j : Nat) : Prop :=
  match ops[j]? with
  | none => False
  | some o =>
    match guardOf ops fr o, o.dst with
    | some g, some d =>
      match quietQ P esc fr h o, g with
      | .ok v, g => putOpt g v = fr.tm.getD d .undef
      | .chk c v, none => c ∧ v = fr.tm.getD d .undef
      | .chk c v, some b => (b = true → c) ∧ .opt b v = fr.tm.getD d .undef
      | .bad, some b => b = false ∧ .opt false .undef = fr.tm.getD d .undef
      | .bad, none => False
    | _, _ => False

def agains (P : Program) (esc : List Nat) (ops : List Oper) (fr : Fr) (h : Heap) : List Nat → Prop → Prop
  | [], R => R
  | j :: r, R => AgainOk P esc ops fr h j ∧ agains P esc ops fr h r R

def againsG (P : Program) (esc : List Nat) (ops : List Oper) (g : Option (Option Bool)) (fr : Fr) (h : Heap) (rc : List Nat) (R : Prop) : Prop :=
  match rc with
  | [] => R
  | rc => match g with
    | some (some b) => brW b (agains P esc ops fr h rc R) R
    | _ => agains P esc ops fr h rc R

def runD (P : Program) (esc : List Nat) (ops : List Oper) : List (Nat × List Nat) → Fr → Heap → (Fr → Heap → Prop) → Prop
  | [], fr, h, K => K fr h
  | (i, rc) :: r, fr, h, K =>
    match ops[i]? with
    | none => False
    | some o => opW P esc ops o fr h fun fr' h' => againsG P esc ops (guardOf ops fr o) fr' h' rc (runD P esc ops r fr' h' K)

def regW (P : Program) (esc : List Nat) (ops : List Oper) (draw : Bool) (fr : Fr) (h : Heap) (K : Fr → Heap → Prop) : Prop :=
  match draw with
  | false => match nodupN (begun esc ops) with
    | true => opsW P esc ops ops (killAll (begun esc ops) fr) h K
    | false => False
  | true => match zerosOk P ops, regPlan esc ops with
    | true, some plan => runD P esc ops plan (killAll (begun esc ops) fr) h K
    | _, _ => False

structure Cfg where
  esc : List Nat
  wipes : List (Nat × List Nat)
  rnd : Bool := false

def wipeT : List Nat → List V → List V
  | [], tm => tm
  | t :: r, tm => wipeT r (tm.set t .undef)

def mutV : V → V
  | .sl es [] .full => .sref es 0 0 0 0
  | v => v

def mutT : List Nat → List V → List V
  | [], tm => tm
  | t :: r, tm => match Nat.ble 1000000 t with
    | true => mutT r (tm.set (t - 1000000) (mutV (tm.getD (t - 1000000) .undef)))
    | false => mutT r tm

def dropL (l : List Nat) : List (Nat × List V) → List (Nat × List V)
  | [] => []
  | e :: r => match hasN l e.1 with | true => dropL l r | false => e :: dropL l r

def Fr.wipe (fr : Fr) (l : List Nat) : Fr := { tm := mutT l (wipeT l fr.tm), lc := dropL l fr.lc }

def seqK (y : Fr → Heap → Prop) (Q : Ex → Fr → Heap → Prop) (e : Ex) (fr : Fr) (h : Heap) : Prop :=
  match e with
  | .normal => y fr h
  | e => Q e fr h

def blockK (id : Nat) (Q : Ex → Fr → Heap → Prop) (e : Ex) (fr : Fr) (h : Heap) : Prop :=
  match e with
  | .exit i => (match Nat.beq i id with | true => Q .normal fr h | false => Q (.exit i) fr h)
  | e => Q e fr h

def wipesAt (id : Nat) : List (Nat × List Nat) → List Nat
  | [] => []
  | e :: r => match Nat.beq e.1 id with | true => e.2 | false => wipesAt id r

inductive LoopI (B : Fr → Heap → (Ex → Fr → Heap → Prop) → Prop) (Q : Ex → Fr → Heap → Prop) : Fr → Heap → Prop where
  | mk (fr : Fr) (h : Heap) (I : Fr → Heap → Prop) (hb : B fr h (seqK I Q))
      (hi : ∀ fr h, I fr h → LoopI B Q fr h) : LoopI B Q fr h

def noLp : V → V
  | .lp _ _ => .undef
  | .opt _ _ => .undef
  | v => v

def exOfC : Code → Option Ex
  | .exit i => some (.exit i)
  | .goto l => some (.goto l)
  | .ret => some .ret
  | _ => none

def loopEnd (h : Heap) (l : Nat) (K : Ex → Heap → Prop) : Prop :=
  match h l with
  | some (.obj (.loop .ready _ _ _ _)) => K .normal (h.del l)
  | some (.obj (.loop (.done c) _ _ _ _)) => match exOfC c with | some e => K e (h.del l) | none => False
  | _ => False

def rangeW (P : Program) (rnd : Bool) (v : V) (ps : Array Tmp) (asg body : Code) (fr : Fr) (h : Heap) (Q : Ex → Fr → Heap → Prop) : Prop :=
  match rnd, v with
  | false, .fn (.func k) first caps =>
    enters P k = true ∧ ∀ l, h l = none →
      CallW P k (first ++ [.fn (.yield l) [] []] ++ caps) (h.upd l (.obj (.loop .ready ps.toList (fr.tm.map noLp) asg body))) fun _ h' => loopEnd h' l fun e h'' => Q e fr h''
  | _, _ => False

def hasLab : Code → Nat → Bool
  | .seq a b, l => hasLab a l || hasLab b l
  | .label k, l => Nat.beq k l
  | _, _ => false

def scopeK (c : Code) (y : Nat → Fr → Heap → Prop) (Q : Ex → Fr → Heap → Prop) (e : Ex) (fr : Fr) (h : Heap) : Prop :=
  match e with
  | .goto l => (match hasLab c l with | true => y l fr h | false => Q (.goto l) fr h)
  | e => Q e fr h

inductive ScopeI (c : Code) (B : Nat → Fr → Heap → (Ex → Fr → Heap → Prop) → Prop) (Q : Ex → Fr → Heap → Prop) : Nat → Fr → Heap → Prop where
  | mk (l : Nat) (fr : Fr) (h : Heap) (I : Nat → Fr → Heap → Prop) (hb : B l fr h (scopeK c I Q))
      (hi : ∀ l fr h, I l fr h → ScopeI c B Q l fr h) : ScopeI c B Q l fr h

mutual
def wpA (P : Program) (g : Cfg) : Code → Fr → Heap → (Ex → Fr → Heap → Prop) → Prop
  | .skip, fr, h, Q => Q .normal fr h
  | .region id ops draw, fr, h, Q => regW P g.esc ops.toList draw fr h fun fr' h' => Q .normal (fr'.wipe (wipesAt id g.wipes)) h'
  | .seq a b, fr, h, Q => wpA P g a fr h (seqK (fun fr' h' => wpA P g b fr' h' Q) Q)
  | .cond c x y, fr, h, Q => condW (fr.ev c) (wpA P g x fr h Q) (wpA P g y fr h Q)
  | .block id c, fr, h, Q => wpA P g c fr h (blockK id Q)
  | .loop c, fr, h, Q => LoopI (fun fr h Q => wpA P g c fr h Q) Q fr h
  | .exit id, fr, h, Q => Q (.exit id) fr h
  | .ret, fr, h, Q => Q .ret fr h
  | .label _, fr, h, Q => Q .normal fr h
  | .rangeFunc f ps asg body, fr, h, Q => rangeW P g.rnd (fr.ev f) ps asg body fr h Q
  | .goto l, fr, h, Q => Q (.goto l) fr h
  | .scope c, fr, h, Q => wpA P g c fr h (scopeK c (ScopeI c (fun l fr h Q => wpL P g c l fr h Q) Q) Q)
  | .refuse _, _, _, _ => False
def wpL (P : Program) (g : Cfg) : Code → Nat → Fr → Heap → (Ex → Fr → Heap → Prop) → Prop
  | .seq a b, l, fr, h, Q => (match hasLab a l with
    | true => wpL P g a l fr h (seqK (fun fr' h' => wpA P g b fr' h' Q) Q)
    | false => wpL P g b l fr h Q)
  | .label _, _, fr, h, Q => Q .normal fr h
  | _, _, _, _, _ => False
end

def resultV (P : Program) (m : Nat) (fr : Fr) (h : Heap) : ResultVar → Q
  | .tmp t => match fr.tm.getD t .undef with
    | .lp _ _ => .bad
    | .opt b v => match v with | .lp _ _ => .bad | .opt _ _ => .bad | v => .chk (b = true) v
    | v => .ok v
  | .cell a t => match (fr.tm.getD a .undef) with
    | .lp d off => loadQ P m fr h t (.lp d off)
    | .ptr l off => loadQ P m fr h t (.ptr l off)
    | _ => .bad

def resultsW (P : Program) (m : Nat) (fr : Fr) (h : Heap) : List ResultVar → (List V → Prop) → Prop
  | [], K => K []
  | r :: rs, K => (resultV P m fr h r).need fun v => resultsW P m fr h rs fun vs => K (v :: vs)

def answerW (P : Program) (m : Nat) (fn : Func) (fr : Fr) (h : Heap) (K : V → Prop) : Prop :=
  resultsW P m fr h fn.results.toList fun vs => match vs with | [v] => K v | vs => K (.tup vs)

def frame0 (fn : Func) (args : List V) : Fr := { tm := args ++ List.replicate (fn.ntmps - args.length) .undef, lc := [] }

def rmode (esc : List Nat) : Nat := match hasN esc 999999 with | true => 2 | false => 0

def bodyK (P : Program) (m : Nat) (fn : Func) (K : V → Heap → Prop) (e : Ex) (fr : Fr) (h : Heap) : Prop :=
  match e with
  | .normal | .ret => answerW P m fn fr h fun r => K r h
  | _ => False

def bodyW (P : Program) (g : Cfg) (fn : Func) (args : List V) (h : Heap) (K : V → Heap → Prop) : Prop :=
  match fn.body with
  | none => False
  | some c => wpA P g c (frame0 fn args) h (bodyK P (rmode g.esc) fn K)
end Jb
end

section
/- Quiet operations: what JbB says of them is so. -/
namespace Jb
open Go Go.RowKit

def TmRel (S : Sim) (w : World) (lm : Nat → Option Nat) : V → Value → Prop
  | .lp d off, x => ∃ rb, lm d = some rb ∧ x = .pointer (some ⟨rb, off, none⟩)
  | .opt b v, x => (b = true → TmRel S w lm v x) ∧ (b = false → x = Go.undef)
  | v, x => Rel S w v x

theorem TmRel.mono {S S' : Sim} {w w' : World} {lm : Nat → Option Nat} (E : Ext S w S' w') {v : V} {x : Value} (h : TmRel S w lm v x) : TmRel S' w' lm v x := by
  induction v using V.rec (motive_2 := fun _ => True) (motive_3 := fun _ => True) with
  | lp d off => exact h
  | opt b v ih => exact ⟨fun hb => ih (h.1 hb), h.2⟩
  | _ => first | trivial | exact Rel.mono E h

theorem TmRel.of_rel {S : Sim} {w : World} {lm : Nat → Option Nat} {v : V} {x : Value} (h : Rel S w v x) : TmRel S w lm v x := by
  cases h <;> first
    | exact .undef _ | exact .bool _ | exact .int _ _ | exact .str _ | exact .nilp | exact .ptr _ _ | exact .cptr _ _ _ _ _ ‹_› ‹_›
    | exact .slnil _ _ ‹_› _ | exact .sl _ _ _ _ _ _ _ ‹_› ‹_› ‹_› ‹_› ‹_› ‹_› | exact .sref _ _ _ _ _ ‹_› | exact .srefnil _ _ _ _ | exact .map _
    | exact .fn _ _ _ _ _ ‹_› ‹_› ‹_› ‹_› | exact .nilfn | exact .iface _ _ _ ‹_› | exact .nilif | exact .agg _ _ ‹_› ‹_› ‹_› | exact .tup _ _ ‹_› ‹_›

theorem TmRel.rel {S : Sim} {w : World} {lm : Nat → Option Nat} {v : V} {x : Value} (hp : v.plain = true) (h : TmRel S w lm v x) : Rel S w v x := by
  cases v <;> first | exact h | (simp [V.plain] at hp)

def Mark (B : Nat) (S : Sim) (w : World) (h : Heap) (d : Deferred) : Prop :=
  ∃ D, d = { target := .collected D, args := #[] } ∧ B ≤ D ∧ S.own D = some .cell ∧ ¬ Blk h D ∧ w.heap[D]? = some (.deferred (some []))
def Dfs (B : Nat) (S : Sim) (w : World) (h : Heap) (ds : List Deferred) : Prop := (∀ d ∈ ds, Mark B S w h d) ∧ ds.Pairwise (· ≠ ·)

theorem Dfs.le {B : Nat} {S S' : Sim} {w w' : World} {h h' : Heap} {ds : List Deferred} (d : Dfs B S w h ds) (H : HR S w h) (l : Le (fun _ => False) h S w h' S' w') : Dfs B S' w' h' ds := by
  refine ⟨fun x hx => ?_, d.2⟩
  obtain ⟨D, h1, h2, h3, h4, h5⟩ := d.1 x hx
  obtain ⟨g1, g2⟩ := l.priv D h3 (fun f => f) h4
  exact ⟨D, h1, h2, g2, fun hb => h4 (l.dom D (H.lt h3) hb), by rw [g1]; exact h5⟩

structure FR (B : Nat) (S : Sim) (w : World) (h : Heap) (fr : Fr) (lm : Nat → Option Nat) (a : Act) : Prop where
  size : a.tmps.size = fr.tm.length
  tm : ∀ i v, fr.tm[i]? = some v → TmRel S w lm v (a.tmps.getD i Go.undef)
  vars : ∀ e ∈ fr.lc, ∃ rb, lm e.1 = some rb ∧ CellsRel S w rb e.2 ∧ ¬ Blk h rb
  inj : ∀ d d' rb, lm d = some rb → lm d' = some rb → d = d'
  lb : ∀ d rb, lm d = some rb → B ≤ rb
  lo : ∀ d rb, lm d = some rb → S.own rb = some .cell
  nd : (fr.lc.map (·.1)).Pairwise (· < ·)
  dfs : Dfs B S w h a.defers

theorem rel_undef {S : Sim} {w : World} {lm : Nat → Option Nat} (x : Value) : TmRel S w lm .undef x := Rel.undef x

theorem ofConst_rel (S : Sim) (w : World) (v : Value) : Rel S w (ofConst v) v := by
  unfold ofConst
  split <;> first | exact .bool _ | exact .int _ _ | exact .str _ | exact .nilp | exact .nilfn | exact .nilif | exact .map _ | exact .undef _

theorem FR.ev {B : Nat} {S : Sim} {w : World} {h : Heap} {fr : Fr} {lm : Nat → Option Nat} {a : Act} (F : FR B S w h fr lm a) (x : Operand) : TmRel S w lm (fr.ev x) (a.eval x) := by
  cases x with
  | tmp t =>
    simp only [Fr.ev, Act.eval]
    cases e : fr.tm[t]? with
    | none => simp only [List.getD, e, Option.getD_none]; exact rel_undef _
    | some v => simp only [List.getD, e, Option.getD_some]; exact F.tm t v e
  | const v => exact .of_rel (ofConst_rel S w v)
  | global g => exact rel_undef _
  | func f => exact Rel.fn (.func f) [] [] [] [] rfl rfl (fun i v x h => by simp at h) (fun i v x h => by simp at h)

theorem add_none (rb o i : Nat) : Addr.add ⟨rb, o, none⟩ i = ⟨rb, o + i, none⟩ := by
  unfold Addr.add
  split
  · rename_i h; subst h; rfl
  · rfl

section types
variable {P : Program} {w : World} {t : TypeId}

theorem run_typeInfo' (h : okT P t = true) : ∃ i, P.info? t = some i ∧ (typeInfo t).run P w = .ok i w ∧ P.cellsOf t = i.size := by
  unfold okT at h
  cases e : P.info? t with
  | none => rw [e] at h; simp at h
  | some i => exact ⟨i, rfl, by simp [typeInfo, e], by simp [Program.cellsOf, e]⟩

theorem run_sizeOf' (h : okT P t = true) : (Go.sizeOf t).run P w = .ok (P.cellsOf t) w := by
  obtain ⟨i, _, h1, h2⟩ := run_typeInfo' (w := w) h
  simp [Go.sizeOf, h1, h2]

theorem run_underlying' {d : TypeDesc} (h : P.underlying t = some d) : (underlying t).run P w = .ok d w := by
  simp [underlying, h]

theorem run_isAgg' (h : (P.underlying t).isSome = true) : (isAgg t).run P w = .ok (aggT P t) w := by
  cases e : P.underlying t with
  | none => rw [e] at h; simp at h
  | some d =>
    simp only [isAgg, Sem.run_bind, run_underlying' e, Result.andThen_ok, aggT, e]
    cases d <;> rfl
end types

def At (S : Sim) (w : World) (rb o : Nat) (cs : List V) : Prop := ∀ i v, cs[i]? = some v → ∃ x, w.cell? ⟨rb, o + i, none⟩ = some x ∧ Rel S w v x ∧ x.oneCell' = true

theorem At.loaded {S : Sim} {w : World} {rb o : Nat} {cs : List V} (h : At S w rb o cs) {off n : Nat} (hn : off + n ≤ cs.length) (P : Program) :
    ∃ xs : List Value, (loadCells ⟨rb, o + off, none⟩ n).run P w = .ok xs.toArray w ∧ RelL S w ((cs.drop off).take n) xs ∧ ∀ x ∈ xs, x.oneCell' = true := by
  have hf : ∀ j, j < n → ∃ x, w.cell? ⟨rb, o + (off + j), none⟩ = some x ∧ Rel S w (cs.getD (off + j) .undef) x ∧ x.oneCell' = true := fun j hj => by
    have hlt : off + j < cs.length := by omega
    exact h (off + j) _ (by simp [List.getD, List.getElem?_eq_getElem hlt])
  have hx : ∃ f : Nat → Value, ∀ j, j < n → w.cell? ⟨rb, o + (off + j), none⟩ = some (f j) ∧ Rel S w (cs.getD (off + j) .undef) (f j) ∧ (f j).oneCell' = true := by
    refine ⟨fun j => if hj : j < n then (hf j hj).choose else Go.undef, fun j hj => ?_⟩
    simp only [dif_pos hj]
    exact (hf j hj).choose_spec
  obtain ⟨f, hf⟩ := hx
  refine ⟨(List.range n).map f, ?_, ⟨?_, ?_⟩, ?_⟩
  · exact run_loadCells (P := P) w _ n f (fun j hj => by rw [add_none]; have := (hf j hj).1; rwa [← Nat.add_assoc] at this)
  · simp; omega
  · intro i v x hv hx
    rw [List.getElem?_take] at hv
    split at hv
    · rename_i hi
      rw [List.getElem?_drop] at hv
      simp [hi] at hx
      subst hx
      have := (hf i hi).2.1
      simpa [List.getD, hv] using this
    · cases hv
  · intro x hx
    obtain ⟨j, hj, rfl⟩ := List.mem_map.1 hx
    exact (hf j (List.mem_range.1 hj)).2.2

theorem isInt_same {k : IntKind} {v : V} (h : v.isInt k = true) : V.int k v.num = v := by
  cases v <;> try cases h
  rename_i k' n
  simp only [V.isInt] at h
  unfold kindEq at h
  split at h <;> first | rfl | cases h

theorem deLp_same {v : V} (h : v.plain = true) : v.deLp = v := by
  cases v <;> first | rfl | cases h

theorem isRef_eq {es : Nat} {r : V} (h : r.isRef es = true) : r = .sref es r.rl r.ro r.rn r.rc := by
  cases r <;> simp only [V.isRef] at h <;> try cases h
  rename_i e l o n c
  have := Nat.eq_of_beq_eq_true h
  subst this
  rfl

theorem shV_same (P : Program) (m : Nat) (t : TypeId) (c : Prop) (v : V) : ∃ c' v', shV P m t c v = .chk c' v' ∧ (c' → c ∧ v' = v ∧ v.plain = true) := by
  unfold shV
  split
  · refine ⟨_, _, rfl, fun h => ⟨h.1, ?_⟩⟩
    have := h.2
    cases v <;> first | exact ⟨rfl, rfl⟩ | cases this
  · refine ⟨_, _, rfl, fun h => ⟨h.1, isInt_same h.2, ?_⟩⟩
    have := h.2
    cases v <;> first | rfl | cases this
  · refine ⟨_, _, rfl, fun h => ⟨h.1, ?_⟩⟩
    have := h.2
    cases v <;> first | exact ⟨rfl, rfl⟩ | cases this
  · split
    · refine ⟨_, _, rfl, fun h => ⟨h.1, ?_⟩⟩
      have := h.2
      cases v <;> try cases this
      rename_i es l g
      have : es = _ := beq_iff_eq.1 this
      subst this
      exact ⟨rfl, rfl⟩
    · refine ⟨_, _, rfl, fun h => ⟨h.1, (isRef_eq h.2).symm, ?_⟩⟩
      rw [isRef_eq h.2]; rfl
    · refine ⟨_, _, rfl, fun h => ⟨h.1, ?_⟩⟩
      have := h.2
      cases v <;> first | exact ⟨rfl, rfl⟩ | cases this
  · refine ⟨_, _, rfl, fun h => ⟨h.1, ?_⟩⟩
    have := h.2
    cases v <;> first | exact ⟨rfl, rfl⟩ | cases this
  · refine ⟨_, _, rfl, fun h => ⟨h.1, ?_⟩⟩
    have := h.2
    cases v <;> first | exact ⟨rfl, rfl⟩ | cases this
  · exact ⟨_, _, rfl, fun h => ⟨h.1, deLp_same h.2, h.2⟩⟩

theorem rd_sound {P : Program} {S : Sim} {w : World} {rb o : Nat} {cs : List V} (h : At S w rb o cs) (m : Nat) (t : TypeId) (off : Nat) :
    match rdQ P m t cs off with
    | .ok _ => False
    | .chk c v => c → ∃ x, (loadVar t ⟨rb, o + off, none⟩).run P w = .ok x w ∧ Rel S w v x
    | .bad => True := by
  unfold rdQ
  cases h1 : okT P t <;> cases h2 : (P.underlying t).isSome <;> cases h3 : aggT P t <;> simp only
  · obtain ⟨c', v', e, hc'⟩ := shV_same P m t (off < cs.length) (cs.getD off .undef)
    rw [e]
    intro hc
    obtain ⟨hc, hv, _⟩ := hc' hc
    obtain ⟨x, hx, hr, _⟩ := h off (cs.getD off .undef) (by simp [List.getD, List.getElem?_eq_getElem hc])
    refine ⟨x, ?_, hv ▸ hr⟩
    simp [loadVar, run_isAgg' h2, h3, hx]
  · intro hc
    obtain ⟨xs, hx, hr, ho⟩ := h.loaded hc P
    refine ⟨.agg xs.toArray, ?_, .agg _ _ hr.1 ho hr.2⟩
    simp [loadVar, run_isAgg' h2, h3, run_sizeOf' h1, hx]

theorem CellsRel.at {S : Sim} {w : World} {l : Nat} {cs : List V} (h : CellsRel S w l cs) : At S w l 0 cs := by
  obtain ⟨_, xs, ⟨e, fz, hb, _⟩, ⟨hl, hr⟩, ho⟩ := h
  intro i v hv
  have hi : i < xs.length := by
    have := (List.getElem?_eq_some_iff.1 hv).1
    omega
  refine ⟨xs[i], ?_, hr i v _ hv (List.getElem?_eq_getElem hi), ho _ (List.getElem_mem hi)⟩
  simp [World.cell?, hb, hi]

theorem cptr_at {S : Sim} {w : World} {cs : List V} {off : Nat} {x : Value} (h : Rel S w (.cptr cs off) x) :
    ∃ rb o, x = .pointer (some ⟨rb, o + off, none⟩) ∧ At S w rb o cs := by
  cases h with
  | cptr _ _ rb o xs hk hr => exact ⟨rb, o, rfl, fun i v hv => ⟨xs i, (hk i v hv).2.1, hr i v hv, (hk i v hv).2.2⟩⟩

theorem HR.at {S : Sim} {w : World} {h : Heap} (H : HR S w h) (l : Nat) : At S w l 0 (cellsAt h l) := by
  unfold cellsAt
  split
  · rename_i cs e; exact CellsRel.at (H.obs l _ e)
  · intro i v hv; simp at hv

theorem FR.at {B : Nat} {S : Sim} {w : World} {h : Heap} {fr : Fr} {lm : Nat → Option Nat} {a : Act} (F : FR B S w h fr lm a) {d rb : Nat} (hd : lm d = some rb) : At S w rb 0 (fr.var d) := by
  unfold Fr.var
  split
  · rename_i e he
    have hm := List.mem_of_find?_eq_some he
    have hk := List.find?_some he
    simp at hk
    obtain ⟨rb', h1, h2, _⟩ := F.vars e hm
    rw [hk, hd] at h1
    cases h1
    exact h2.at
  · intro i v hv; simp at hv

theorem load_sound {P : Program} {B : Nat} {S : Sim} {w : World} {h : Heap} {fr : Fr} {lm : Nat → Option Nat} {a : Act} (H : HR S w h) (F : FR B S w h fr lm a) (m : Nat) (t : TypeId)
    {v : V} {x : Value} (hv : TmRel S w lm v x) :
    match loadQ P m fr h t v with
    | .ok _ => False
    | .chk c r => c → ∃ y, (Instr.loadAt t x).run P w = .ok y w ∧ Rel S w r y
    | .bad => True := by
  cases v with
  | ptr l off =>
    cases (show Rel S w (.ptr l off) x from hv)
    have := rd_sound (P := P) (H.at l) m t off
    simpa [loadQ, Instr.loadAt, Instr.sureAddr] using this
  | lp d off =>
    obtain ⟨rb, hd, rfl⟩ := hv
    have := rd_sound (P := P) (F.at hd) m t off
    simpa [loadQ, Instr.loadAt, Instr.sureAddr] using this
  | cptr cs off =>
    obtain ⟨rb, o, rfl, ha⟩ := cptr_at (show Rel S w (.cptr cs off) x from hv)
    have := rd_sound (P := P) ha m t off
    simpa [loadQ, Instr.loadAt, Instr.sureAddr] using this
  | _ => exact True.intro
end Jb
end

section
/- Quiet operations, one by one. -/
namespace Jb
open Go Go.RowKit

def Yields (S : Sim) (w : World) (lm : Nat → Option Nat) (r : Result Value) (v : V) : Prop :=
  ∃ x w', r = .ok x w' ∧ Below w.heap.size w w' ∧ TmRel S w' lm v x

def Snd (S : Sim) (w : World) (lm : Nat → Option Nat) (r : Result Value) : Q → Prop
  | .ok v => Yields S w lm r v
  | .chk c v => c → Yields S w lm r v
  | .bad => True

theorem Yields.same {S : Sim} {w : World} {lm : Nat → Option Nat} {r : Result Value} {v : V} {x : Value} (h : r = .ok x w) (hr : TmRel S w lm v x) : Yields S w lm r v :=
  ⟨x, w, h, .refl _ _, hr⟩

section
variable {P : Program} {S : Sim} {w : World} {lm : Nat → Option Nat}

theorem moved_sound {v : V} {x : Value} (n : Nat) (hv : TmRel S w lm v x) :
    match moved n v with
    | .ok r => ∃ a : Addr, x = .pointer (some a) ∧ a.spot = none ∧ TmRel S w lm r (.pointer (some (a.add n)))
    | .chk _ _ => False
    | .bad => True := by
  cases v with
  | ptr l off =>
    cases (show Rel S w (.ptr l off) x from hv)
    exact ⟨_, rfl, rfl, by rw [add_none]; exact Rel.ptr _ _⟩
  | lp d off => obtain ⟨rb, hd, rfl⟩ := hv; exact ⟨_, rfl, rfl, by rw [add_none]; exact ⟨rb, hd, rfl⟩⟩
  | cptr cs off =>
    cases (show Rel S w (.cptr cs off) x from hv) with
    | cptr _ _ rb o xs hk hr => exact ⟨_, rfl, rfl, by rw [add_none, Nat.add_assoc]; exact Rel.cptr cs (off + n) rb o xs hk hr⟩
  | _ => exact True.intro

theorem fieldOf_some {s : TypeId} {f o : Nat} {t : TypeId} (h : fieldOf P s f = some (o, t)) :
    ∃ fs : Array Field, P.underlying s = some (.struct fs) ∧ ∃ x, fs[f]? = some x ∧ x.offset = o ∧ x.type = t := by
  unfold fieldOf at h
  split at h
  · rename_i fs e
    split at h
    · rename_i x hx
      simp at h
      exact ⟨fs, e, x, hx, h.1, h.2⟩
    · cases h
  · cases h

theorem fieldAddr_sound {v : V} {x : Value} (s : TypeId) (f : Nat) (hv : TmRel S w lm v x) : Snd S w lm ((Instr.fieldAt s x f).run P w) (fieldAddrQ P s v f) := by
  unfold fieldAddrQ
  cases e : fieldOf P s f with
  | none => exact True.intro
  | some p =>
    obtain ⟨o, t⟩ := p
    obtain ⟨fs, hs, fd, hf, rfl, rfl⟩ := fieldOf_some e
    simp only
    cases h1 : okT P fd.type with
    | false => exact True.intro
    | true =>
      cases h2 : P.cellsOf fd.type with
      | zero => exact True.intro
      | succ k =>
        simp only
        have hm := moved_sound fd.offset hv
        cases hq : moved fd.offset v with
        | bad => exact True.intro
        | chk c r => rw [hq] at hm; exact hm.elim
        | ok r =>
          rw [hq] at hm
          obtain ⟨a, rfl, _, hr⟩ := hm
          refine .same ?_ hr
          simp [Instr.fieldAt, run_underlying' hs, hf, Instr.sureAddr, fieldPlace, run_sizeOf' h1, h2]

theorem asIntOf_int (k : IntKind) (n : Int) : (asIntOf (.int k n)).run P w = .ok (k, n) w := rfl

theorem indexAddr_sound {v i : V} {x y : Value} (t : TypeId) (hv : TmRel S w lm v x) (hi : TmRel S w lm i y) : Snd S w lm ((Instr.indexAt t x y).run P w) (indexAddrQ P t v i) := by
  unfold indexAddrQ
  cases i with
  | int k n =>
    cases (show Rel S w (.int k n) y from hi)
    cases hu : P.underlying t with
    | none => exact True.intro
    | some d =>
      cases d with
      | array len e =>
        simp only
        cases h1 : okT P e with
        | false => exact True.intro
        | true =>
          simp only
          have hrun : ∀ a : Addr, (0 ≤ n ∧ n < len) → (Instr.indexAt t (.pointer (some a)) (.int k n)).run P w = .ok (.pointer (some (a.add (n.toNat * P.cellsOf e)))) w := fun a hn => by
            simp [Instr.indexAt, asIntOf_int, run_underlying' hu, Instr.sureAddr, run_sizeOf' h1, hn]
          have hm := moved_sound (n.toNat * P.cellsOf e) hv
          cases v with
          | ptr l off => obtain ⟨a, rfl, _, hr⟩ := hm; exact fun hn => .same (hrun a hn) hr
          | lp d off => obtain ⟨a, rfl, _, hr⟩ := hm; exact fun hn => .same (hrun a hn) hr
          | cptr cs off => obtain ⟨a, rfl, _, hr⟩ := hm; exact fun hn => .same (hrun a hn) hr
          | _ => exact True.intro
      | slice e =>
        simp only
        cases h1 : okT P e with
        | false => exact True.intro
        | true =>
          cases v with
          | sl es l g =>
            simp only
            cases he : es == P.cellsOf e with
            | false => exact True.intro
            | true =>
              simp only [beq_iff_eq] at he
              subst he
              intro hn
              have hlt : n.toNat < l.length := by omega
              cases (show Rel S w (.sl (P.cellsOf e) l g) x from hv) with
              | slnil _ _ hg => simp at hlt
              | sl _ _ _ rb o cap xs hes hcap hg hlen hk hr =>
                have hg' : l[n.toNat]? = some (l.getD n.toNat []) := by simp [List.getD, List.getElem?_eq_getElem hlt]
                refine .same (x := .pointer (some ⟨rb, o + n.toNat * P.cellsOf e, none⟩)) ?_ ?_
                · simp [Instr.indexAt, asIntOf_int, run_underlying' hu, run_sizeOf' h1, hn, add_none]
                · exact Rel.cptr _ 0 rb (o + n.toNat * P.cellsOf e) (xs n.toNat) (hk _ _ hg') (hr _ _ hg')
          | sref es l off len cap =>
            simp only
            cases he : es == P.cellsOf e with
            | false => exact True.intro
            | true =>
              simp only [beq_iff_eq] at he
              subst he
              intro hn
              cases (show Rel S w (.sref (P.cellsOf e) l off len cap) x from hv) with
              | srefnil => simp only [Int.natCast_zero] at hn; omega
              | sref _ _ _ _ _ hcap =>
                refine .same (x := .pointer (some ⟨l, off + n.toNat * P.cellsOf e, none⟩)) ?_ (Rel.ptr _ _)
                simp [Instr.indexAt, asIntOf_int, run_underlying' hu, run_sizeOf' h1, hn, add_none]
          | _ => exact True.intro
      | _ => exact True.intro
  | _ => exact True.intro

theorem kindEq_eq {k k' : IntKind} (h : kindEq k k' = true) : k = k' := by cases k <;> cases k' <;> first | rfl | cases h

theorem int_sound (op : BinOp) (k : IntKind) (a b : Int) (hs : op ≠ .shl ∧ op ≠ .shr) (t : TypeId) : Snd S w lm ((binOp op t (.int k a) (.int k b)).run P w) (intQ op k a b) := by
  have hI : ∀ (k : IntKind) (n : Int), TmRel S w lm (.int k n) (.int k n) := fun k n => Rel.int k n
  have hB : ∀ b : Bool, TmRel S w lm (.bool b) (.bool b) := fun b => Rel.bool b
  cases op <;> first
    | exact (hs.1 rfl).elim
    | exact (hs.2 rfl).elim
    | exact .same rfl (hI _ _)
    | exact .same rfl (hB _)
    | (intro hb; refine .same ?_ (hI _ _); simp [binOp, Op.intDiv, hb]; done)
    | (refine .same ?_ (hI _ _); simp [binOp, Op.intArith]; done)
    | (refine .same ?_ (hI _ _); simp [binOp, Op.intBits]; done)
    | (refine .same ?_ (hB _); simp [binOp, Op.intCmp]; done)

theorem shift_sound (op : BinOp) (k k' : IntKind) (a b : Int) (t : TypeId) (ho : op = .shl ∨ op = .shr) : Snd S w lm ((binOp op t (.int k a) (.int k' b)).run P w) (shiftQ op k a b) := by
  have hI : ∀ (k : IntKind) (n : Int), TmRel S w lm (.int k n) (.int k n) := fun k n => Rel.int k n
  rcases ho with rfl | rfl
  · intro hb
    refine .same ?_ (hI _ _)
    have : ¬ b < 0 := by omega
    simp [binOp, Op.shift, this]
  · intro hb
    refine .same ?_ (hI _ _)
    have : ¬ b < 0 := by omega
    simp [binOp, Op.shift, this]

theorem un_sound (op : UnOp) {v : V} {x : Value} (hv : TmRel S w lm v x) : Snd S w lm ((Op.unary op x).run P w) (unQ op v) := by
  cases v with
  | bool b =>
    cases (show Rel S w (.bool b) x from hv)
    cases op <;> first | exact .same rfl (Rel.bool _) | exact True.intro
  | int k n =>
    cases (show Rel S w (.int k n) x from hv)
    cases op <;> first | exact .same rfl (Rel.int _ _) | exact True.intro
  | _ => exact True.intro

theorem extract_sound {v : V} {x : Value} (i : Nat) (hv : TmRel S w lm v x) : Snd S w lm ((Instr.extract x i).run P w) (extractQ v i) := by
  cases v with
  | tup vs =>
    obtain ⟨xs, rfl, hl, hr⟩ := (show Rel S w (.tup vs) x from hv).tup_inv
    simp only [extractQ]
    cases e : vs[i]? with
    | none => exact True.intro
    | some u =>
      have hi : i < xs.length := by have := (List.getElem?_eq_some_iff.1 e).1; omega
      intro hp
      rw [deLp_same hp]
      refine .same (x := xs[i]) ?_ (.of_rel (hr i u _ e (List.getElem?_eq_getElem hi)))
      simp [Instr.extract, hi]
  | _ => exact True.intro

theorem field_sound (t : TypeId) (f : Nat) {v : V} {x : Value} (m : Nat) (hv : TmRel S w lm v x) : Snd S w lm ((Instr.field t x f).run P w) (fieldQ P m t v f) := by
  unfold fieldQ
  cases e : fieldOf P t f with
  | none => exact True.intro
  | some p =>
    obtain ⟨o, ft⟩ := p
    obtain ⟨fs, hs, fd, hf, rfl, rfl⟩ := fieldOf_some e
    cases v with
    | agg cs =>
      obtain ⟨xs, rfl, hl, ho⟩ := (show Rel S w (.agg cs) x from hv).agg_inv
      simp only [rdQ]
      cases h1 : okT P fd.type <;> cases h2 : (P.underlying fd.type).isSome <;> cases h3 : aggT P fd.type <;> simp only [Snd]
      · obtain ⟨c', v', e', hc'⟩ := shV_same P m fd.type (fd.offset < cs.length) (cs.getD fd.offset .undef)
        rw [e']
        intro hc
        obtain ⟨hc, hv', _⟩ := hc' hc
        subst hv'
        have hi : fd.offset < xs.length := by rw [hl.1]; exact hc
        refine .same (x := xs[fd.offset]) ?_ (.of_rel (hl.2 fd.offset _ _ (by simp [List.getD, List.getElem?_eq_getElem hc]) (List.getElem?_eq_getElem hi)))
        simp [Instr.field, run_underlying' hs, hf, part, run_isAgg' h2, h3, Go.asAgg, hi]
      · intro hc
        have h := (hl.drop fd.offset).take (P.cellsOf fd.type)
        refine .same (x := .agg ((xs.drop fd.offset).take (P.cellsOf fd.type)).toArray) ?_ (Rel.agg _ _ h.1 (fun x hx => ho x (List.mem_of_mem_drop (List.mem_of_mem_take hx))) h.2)
        simp [Instr.field, run_underlying' hs, hf, part, run_isAgg' h2, h3, Go.asAgg, run_sizeOf' h1]
    | _ => exact True.intro

theorem part_sound {e : TypeId} {cs : List V} {xs : List Value} (hl : RelL S w cs xs) (ho : ∀ x ∈ xs, x.oneCell' = true) (m : Nat) (off : Nat) :
    Snd S w lm ((part e xs.toArray off).run P w) (rdQ P m e cs off) := by
  simp only [rdQ]
  cases h1 : okT P e <;> cases h2 : (P.underlying e).isSome <;> cases h3 : aggT P e <;> simp only [Snd]
  · obtain ⟨c', v', e', hc'⟩ := shV_same P m e (off < cs.length) (cs.getD off .undef)
    rw [e']
    intro hc
    obtain ⟨hc, hv', _⟩ := hc' hc
    subst hv'
    have hi : off < xs.length := by rw [hl.1]; exact hc
    refine .same (x := xs[off]) ?_ (.of_rel (hl.2 off _ _ (by simp [List.getD, List.getElem?_eq_getElem hc]) (List.getElem?_eq_getElem hi)))
    simp [part, run_isAgg' h2, h3, hi]
  · intro hc
    have h := (hl.drop off).take (P.cellsOf e)
    refine .same (x := .agg ((xs.drop off).take (P.cellsOf e)).toArray) ?_ (Rel.agg _ _ h.1 (fun x hx => ho x (List.mem_of_mem_drop (List.mem_of_mem_take hx))) h.2)
    simp [part, run_isAgg' h2, h3, run_sizeOf' h1]

theorem rd_ok {m : Nat} {e : TypeId} {cs : List V} {off : Nat} (h : rdQ P m e cs off ≠ .bad) : okT P e = true := by
  unfold rdQ at h
  split at h
  · assumption
  · assumption
  · exact (h rfl).elim

theorem index_sound {v i : V} {x y : Value} (t : TypeId) (m : Nat) (hv : TmRel S w lm v x) (hi : TmRel S w lm i y) : Snd S w lm ((Instr.index t x y).run P w) (indexQ P m t v i) := by
  unfold indexQ
  cases i with
  | int k n =>
    cases (show Rel S w (.int k n) y from hi)
    cases hu : P.underlying t with
    | none => exact True.intro
    | some d =>
      cases d with
      | array len e =>
        cases v with
        | agg cs =>
          obtain ⟨xs, rfl, hl, ho⟩ := (show Rel S w (.agg cs) x from hv).agg_inv
          simp only
          have hs := part_sound (P := P) (lm := lm) (e := e) hl ho m (n.toNat * P.cellsOf e)
          have hok := rd_ok (P := P) (m := m) (e := e) (cs := cs) (off := n.toNat * P.cellsOf e)
          cases hq : rdQ P m e cs (n.toNat * P.cellsOf e) with
          | bad => exact True.intro
          | ok v =>
            rw [hq] at hs hok
            have h1 := hok (by simp)
            intro hn
            have e1 : (Instr.index t (.agg xs.toArray) (.int k n)).run P w = (part e xs.toArray (n.toNat * P.cellsOf e)).run P w := by simp [Instr.index, asIntOf_int, run_underlying' hu, run_sizeOf' h1, hn]
            rw [e1]
            exact hs
          | chk c v =>
            rw [hq] at hs hok
            have h1 := hok (by simp)
            intro hn
            have e1 : (Instr.index t (.agg xs.toArray) (.int k n)).run P w = (part e xs.toArray (n.toNat * P.cellsOf e)).run P w := by simp [Instr.index, asIntOf_int, run_underlying' hu, run_sizeOf' h1, hn.1]
            rw [e1]
            exact hs hn.2
        | _ => exact True.intro
      | string =>
        cases v with
        | str s =>
          cases (show Rel S w (.str s) x from hv)
          intro hn
          have hlt : n.toNat < s.size := by omega
          have hlt' : n.toNat < s.data.size := hlt
          refine .same (x := .int .u8 (s.data.getD n.toNat 0).toNat) ?_ (Rel.int _ _)
          have e1 : s[n.toNat]? = some (s.data.getD n.toNat 0) := by
            rw [getElem?_pos s n.toNat hlt]
            simp only [Array.getD, hlt', dite_true]
            rfl
          simp [Instr.index, asIntOf_int, run_underlying' hu, hn.1, e1]
        | _ => exact True.intro
      | _ => exact True.intro
  | _ => exact True.intro

theorem len_sound (t : TypeId) (ts : Array TypeId) (xs : Array Value) (ty : TypeId) {v : V} {x : Value} (ht : ts[0]? = some t) (hx : xs[0]? = some x) (hv : TmRel S w lm v x) :
    Snd S w lm ((Builtin.len_ ts ty xs).run P w) (lenQ P t v) := by
  unfold lenQ
  cases hu : P.underlying t with
  | none => exact True.intro
  | some d =>
    cases d with
    | slice e =>
      cases v with
      | sl es l g =>
        cases (show Rel S w (.sl es l g) x from hv) with
        | slnil _ _ hg => exact .same (by simp [Builtin.len_, ht, hx, run_underlying' hu, goInt]) (Rel.int _ _)
        | sl _ _ _ rb o cap xs hes hcap hg hlen hk hr => exact .same (by simp [Builtin.len_, ht, hx, run_underlying' hu, goInt]) (Rel.int _ _)
      | sref es l off n cap =>
        cases (show Rel S w (.sref es l off n cap) x from hv) with
        | srefnil => exact .same (by simp [Builtin.len_, ht, hx, run_underlying' hu, goInt]) (Rel.int _ _)
        | sref _ _ _ _ _ hcap => exact .same (by simp [Builtin.len_, ht, hx, run_underlying' hu, goInt]) (Rel.int _ _)
      | _ => exact True.intro
    | string =>
      cases v with
      | str s =>
        cases (show Rel S w (.str s) x from hv)
        exact .same (by simp [Builtin.len_, ht, hx, run_underlying' hu, goInt]) (Rel.int _ _)
      | _ => exact True.intro
    | array n e => exact .same (by simp [Builtin.len_, ht, hx, run_underlying' hu, goInt]) (Rel.int _ _)
    | _ => exact True.intro

theorem minmax_sound (mx : Bool) (vs : List V) (xs : List Value) (ts : Array TypeId) (ty : TypeId) (hl : xs.length = vs.length)
    (hv : ∀ (i : Nat) (v : V) (x : Value), vs[i]? = some v → xs[i]? = some x → TmRel S w lm v x) :
    Snd S w lm ((match mx with | true => Builtin.max_ ts ty xs.toArray | false => Builtin.min_ ts ty xs.toArray).run P w) (minmaxQ mx vs) := by
  generalize hq : minmaxQ mx vs = q
  unfold minmaxQ at hq
  split at hq
  · rename_i k a k' b
    split at hq
    · rename_i hk
      have hk := kindEq_eq hk
      subst hk
      subst hq
      match xs, hl with
      | [x, y], _ =>
        have h1 := hv 0 _ _ rfl rfl
        have h2 := hv 1 _ _ rfl rfl
        cases (show Rel S w (.int k a) x from h1)
        cases (show Rel S w (.int k b) y from h2)
        cases mx
        · exact .same rfl (Rel.int _ _)
        · exact .same rfl (Rel.int _ _)
    · subst hq; exact True.intro
  · subst hq; exact True.intro
end
end Jb
end

section
/- '==' on structs and arrays of plain cells. -/
namespace Jb
open Go Go.RowKit

def fitsR : List V → List Value → Bool
  | [], [] => true
  | .bool _ :: r, .bool _ :: s => fitsR r s
  | .int k _ :: r, .int k' _ :: s => kindEq k k' && fitsR r s
  | .str _ :: r, .string _ :: s => fitsR r s
  | _, _ => false

def eqlR : List Value → List Value → Bool
  | [], [] => true
  | .bool a :: r, .bool b :: s => a == b && eqlR r s
  | .int _ a :: r, .int _ b :: s => a == b && eqlR r s
  | .string a :: r, .string b :: s => a == b && eqlR r s
  | _, _ => false

theorem RelL.tail {S : Sim} {w : World} {v : V} {x : Value} {vs : List V} {xs : List Value} (h : RelL S w (v :: vs) (x :: xs)) : Rel S w v x ∧ RelL S w vs xs :=
  ⟨h.2 0 v x rfl rfl, by simpa using h.1, fun i u y hu hy => h.2 (i + 1) u y (by simpa using hu) (by simpa using hy)⟩

theorem fitsR_of {S : Sim} {w : World} : ∀ (z cs : List V) (xs : List Value), RelL S w cs xs → fits z cs = true → fitsR z xs = true
  | [], [], xs, h, _ => by have := h.1; simp at this; subst this; rfl
  | [], _ :: _, _, _, hf => by simp [fits] at hf
  | a :: z, [], _, _, hf => by cases a <;> simp [fits] at hf
  | a :: z, c :: cs, [], h, _ => by have := h.1; simp at this
  | a :: z, c :: cs, x :: xs, h, hf => by
    obtain ⟨h1, h2⟩ := h.tail
    cases a <;> cases c <;> simp [fits] at hf
    · cases h1; simpa [fitsR] using fitsR_of z cs xs h2 hf
    · cases h1; simp [fitsR, hf.1]; exact fitsR_of z cs xs h2 hf.2
    · cases h1; simpa [fitsR] using fitsR_of z cs xs h2 hf

theorem eqlR_of {S : Sim} {w : World} : ∀ (z cs ds : List V) (xs ys : List Value), RelL S w cs xs → RelL S w ds ys → fits z cs = true → fits z ds = true → eqlR xs ys = eqlCells cs ds
  | [], [], [], xs, ys, h, h', _, _ => by have := h.1; simp at this; subst this; have := h'.1; simp at this; subst this; rfl
  | [], _ :: _, _, _, _, _, _, hf, _ => by simp [fits] at hf
  | [], [], _ :: _, _, _, _, _, _, hf => by simp [fits] at hf
  | a :: z, [], _, _, _, _, _, hf, _ => by cases a <;> simp [fits] at hf
  | a :: z, _ :: _, [], _, _, _, _, _, hf => by cases a <;> simp [fits] at hf
  | a :: z, c :: cs, _ :: _, [], _, h, _, _, _ => by have := h.1; simp at this
  | a :: z, c :: cs, _ :: _, _ :: _, [], _, h, _, _ => by have := h.1; simp at this
  | a :: z, c :: cs, d :: ds, x :: xs, y :: ys, h, h', hf, hf' => by
    obtain ⟨h1, h2⟩ := h.tail
    obtain ⟨h1', h2'⟩ := h'.tail
    cases a <;> cases c <;> simp [fits] at hf <;> cases d <;> simp [fits] at hf'
    · cases h1; cases h1'; simp only [eqlR, eqlCells, eqlCell]; rw [eqlR_of z cs ds xs ys h2 h2' hf hf']
    · cases h1; cases h1'; simp only [eqlR, eqlCells, eqlCell]; rw [eqlR_of z cs ds xs ys h2 h2' hf.2 hf'.2]
    · cases h1; cases h1'; simp only [eqlR, eqlCells, eqlCell]; rw [eqlR_of z cs ds xs ys h2 h2' hf hf']

theorem fitsR_length : ∀ (z : List V) (xs : List Value), fitsR z xs = true → xs.length = z.length
  | [], [], _ => rfl
  | [], _ :: _, h => by simp [fitsR] at h
  | a :: z, [], h => by cases a <;> simp [fitsR] at h
  | a :: z, x :: xs, h => by
    cases a <;> cases x <;> simp [fitsR] at h
    · simp [fitsR_length z xs h]
    · simp [fitsR_length z xs h.2]
    · simp [fitsR_length z xs h]

theorem fitsR_append : ∀ (z u : List V) (xs : List Value), fitsR (z ++ u) xs = true → fitsR z (xs.take z.length) = true ∧ fitsR u (xs.drop z.length) = true
  | [], u, xs, h => ⟨rfl, by simpa using h⟩
  | a :: z, u, [], h => by cases a <;> simp [fitsR] at h
  | a :: z, u, x :: xs, h => by
    cases a <;> cases x <;> simp [fitsR] at h
    · have := fitsR_append z u xs h; simpa [fitsR] using this
    · have := fitsR_append z u xs h.2; simp [fitsR, h.1]; exact this
    · have := fitsR_append z u xs h; simpa [fitsR] using this

theorem eqlR_split : ∀ (n : Nat) (z : List V) (xs ys : List Value), fitsR z xs = true → fitsR z ys = true → eqlR xs ys = (eqlR (xs.take n) (ys.take n) && eqlR (xs.drop n) (ys.drop n))
  | 0, _, xs, ys, _, _ => by simp [eqlR]
  | n + 1, [], [], [], _, _ => rfl
  | n + 1, [], _ :: _, _, h, _ => by simp [fitsR] at h
  | n + 1, [], [], _ :: _, _, h => by simp [fitsR] at h
  | n + 1, a :: z, [], _, h, _ => by cases a <;> simp [fitsR] at h
  | n + 1, a :: z, _ :: _, [], _, h => by cases a <;> simp [fitsR] at h
  | n + 1, a :: z, x :: xs, y :: ys, h, h' => by
    cases a <;> cases x <;> simp [fitsR] at h <;> cases y <;> simp [fitsR] at h'
    · simp only [eqlR, List.take_succ_cons, List.drop_succ_cons, Bool.and_assoc]; rw [eqlR_split n z xs ys h h']
    · simp only [eqlR, List.take_succ_cons, List.drop_succ_cons, Bool.and_assoc]; rw [eqlR_split n z xs ys h.2 h'.2]
    · simp only [eqlR, List.take_succ_cons, List.drop_succ_cons, Bool.and_assoc]; rw [eqlR_split n z xs ys h h']

def packR (P : Program) (t : TypeId) (xs : List Value) : Value := match aggT P t with | true => .agg xs.toArray | false => xs.getD 0 Go.undef

theorem run_part {P : Program} {w : World} {t : TypeId} {xs : List Value} {off : Nat} (h1 : okT P t = true) (h2 : (P.underlying t).isSome = true) (hn : aggT P t = false → P.cellsOf t = 1)
    (hl : off + P.cellsOf t ≤ xs.length) : (part t xs.toArray off).run P w = .ok (packR P t ((xs.drop off).take (P.cellsOf t))) w := by
  simp only [part, Sem.run_bind, run_isAgg' h2, Result.andThen_ok, packR]
  cases h : aggT P t
  · have hlt : off < xs.length := by have := hn h; omega
    simp [hlt, hn h]
  · simp [run_sizeOf' h1]

theorem run_equalIn_array {P : Program} (w : World) (d : Nat) (t e : TypeId) (len : Nat) (xs ys : Array Value) (ht : P.underlying t = some (.array len e)) (h1 : okT P e = true) (r : Nat → Bool)
    (hr : ∀ i, i < len → ∃ a b, (part e xs (i * P.cellsOf e)).run P w = .ok a w ∧ (part e ys (i * P.cellsOf e)).run P w = .ok b w ∧ (Op.equalIn d e a b).run P w = .ok (r i) w) :
    (Op.equalIn (d + 1) t (.agg xs) (.agg ys)).run P w = .ok ((List.range len).all r) w := by
  simp only [Op.equalIn, Sem.run_bind, run_underlying' ht, Result.andThen_ok, run_sizeOf' h1]
  simp only [Std.Legacy.Range.forIn_eq_forIn_range', Std.Legacy.Range.size, Nat.sub_zero, Nat.add_sub_cancel, Nat.div_one]
  rw [List.range_eq_range']
  have hr' : ∀ i, 0 ≤ i → i < 0 + len → ∃ a b, (part e xs (i * P.cellsOf e)).run P w = .ok a w ∧ (part e ys (i * P.cellsOf e)).run P w = .ok b w ∧ (Op.equalIn d e a b).run P w = .ok (r i) w :=
    fun i _ hi => hr i (by omega)
  clear hr ht
  generalize (0 : Nat) = s at hr' ⊢
  induction len generalizing s with
  | zero => simp
  | succ n ih =>
    obtain ⟨a, b, ha, hb, hq⟩ := hr' s (Nat.le_refl _) (by omega)
    rw [List.range'_succ]
    simp only [List.forIn_cons, Sem.run_bind, ha, hb, hq, Result.andThen_ok, List.all_cons, Sem.run_ite]
    cases h : r s
    · simp
    · simpa using ih (s + 1) (fun i h1 h2 => hr' i (by omega) (by omega))

def fieldsFit (P : Program) (n : Nat) (total : Nat) (fs : List Field) : Nat → Bool :=
  fs.foldr (fun f k off => f.name != "_" && f.offset == off && okT P f.type && (P.underlying f.type).isSome && plainT P n f.type
        && (match zeroC P n f.type with | some z => z.length == P.cellsOf f.type | none => false) && k (off + P.cellsOf f.type)) (fun off => off == total)

def fieldsZero (P : Program) (n : Nat) (fs : List Field) : Option (List V) :=
  fs.foldr (fun f acc => match zeroC P n f.type, acc with | some a, some b => some (a ++ b) | _, _ => none) (some [])

def EqOk (P : Program) (w : World) (n : Nat) : Prop :=
  ∀ (t : TypeId) (z : List V), plainT P n t = true → zeroC P n t = some z → ∀ d, n ≤ d → ∀ xs ys : List Value, fitsR z xs = true → fitsR z ys = true →
    (Op.equalIn d t (packR P t xs) (packR P t ys)).run P w = .ok (eqlR xs ys) w ∧ (aggT P t = false → z.length = 1)

theorem eqFields_plain {P : Program} {w : World} {n d : Nat} (hn : n ≤ d) (ih : EqOk P w n) (total : Nat) : ∀ (fs : List Field) (off : Nat) (z : List V) (xs ys : List Value),
    fieldsFit P n total fs off = true → fieldsZero P n fs = some z → off ≤ xs.length → off ≤ ys.length → fitsR z (xs.drop off) = true → fitsR z (ys.drop off) = true →
    (Op.eqFields d xs.toArray ys.toArray fs).run P w = .ok (eqlR (xs.drop off) (ys.drop off)) w
  | [], off, z, xs, ys, _, hz, _, _, hx, hy => by
    simp [fieldsZero] at hz
    subst hz
    have h1 := fitsR_length _ _ hx
    have h2 := fitsR_length _ _ hy
    rw [List.length_nil] at h1 h2
    rw [List.eq_nil_of_length_eq_zero h1, List.eq_nil_of_length_eq_zero h2]
    rfl
  | f :: fs, off, z, xs, ys, hf, hz, ox, oy, hx, hy => by
    simp only [fieldsFit, List.foldr_cons, Bool.and_eq_true] at hf
    obtain ⟨⟨⟨⟨⟨⟨h1, h2⟩, h3⟩, h4⟩, h5⟩, h6⟩, h7⟩ := hf
    simp only [fieldsZero, List.foldr_cons] at hz
    cases hzf : zeroC P n f.type with
    | none => rw [hzf] at hz; cases hz
    | some za =>
      rw [hzf] at hz h6
      simp only [beq_iff_eq] at h2 h6
      have hz' : ∃ zb, fieldsZero P n fs = some zb ∧ za ++ zb = z := by
        unfold fieldsZero
        split at hz
        · rename_i a b ha hb
          cases ha
          exact ⟨b, hb, by simpa using hz⟩
        · cases hz
      obtain ⟨zb, hzb, rfl⟩ := hz'
      obtain ⟨hx1, hx2⟩ := fitsR_append za zb _ hx
      obtain ⟨hy1, hy2⟩ := fitsR_append za zb _ hy
      rw [h6] at hx1 hx2 hy1 hy2
      rw [List.drop_drop] at hx2 hy2
      have hr := ih f.type za h5 hzf d hn _ _ hx1 hy1
      have lx := fitsR_length _ _ hx
      have ly := fitsR_length _ _ hy
      simp only [List.length_drop, List.length_append] at lx ly
      have hone : aggT P f.type = false → P.cellsOf f.type = 1 := fun h => by rw [← h6]; exact hr.2 h
      have px := run_part (w := w) (xs := xs) (off := off) h3 h4 hone (by omega)
      have py := run_part (w := w) (xs := ys) (off := off) h3 h4 hone (by omega)
      have hne : f.name ≠ "_" := by simpa using h1
      simp only [Op.eqFields, if_pos hne, Sem.run_bind, ← h2] at *
      rw [px]
      simp only [Result.andThen_ok]
      rw [py]
      simp only [Result.andThen_ok]
      rw [hr.1]
      simp only [Result.andThen_ok, Sem.run_ite]
      have hsplit := eqlR_split (P.cellsOf f.type) (za ++ zb) _ _ hx hy
      rw [hsplit]
      cases hb : eqlR (List.take (P.cellsOf f.type) (List.drop f.offset xs)) (List.take (P.cellsOf f.type) (List.drop f.offset ys))
      · simp
      · simp only [Bool.not_true, Bool.false_eq_true, if_false, Bool.true_and]
        have := eqFields_plain hn ih total fs (f.offset + P.cellsOf f.type) zb xs ys h7 hzb (by omega) (by omega) hx2 hy2
        rw [List.drop_drop, List.drop_drop]
        exact this

theorem replicate_fits (z : List V) : ∀ (k i : Nat) (xs : List Value), i < k → fitsR (List.replicate k z).flatten xs = true →
    fitsR z ((xs.drop (i * z.length)).take z.length) = true
  | 0, _, _, h, _ => by omega
  | k + 1, i, xs, h, hf => by
    rw [List.replicate_succ, List.flatten_cons] at hf
    obtain ⟨h1, h2⟩ := fitsR_append _ _ _ hf
    cases i with
    | zero => simpa using h1
    | succ i =>
      have := replicate_fits z k i _ (by omega) h2
      rw [List.drop_drop] at this
      rwa [show z.length + i * z.length = (i + 1) * z.length from by rw [Nat.succ_mul]; omega] at this

theorem eqlR_chunks (z : List V) : ∀ (k : Nat) (xs ys : List Value), fitsR (List.replicate k z).flatten xs = true → fitsR (List.replicate k z).flatten ys = true →
    eqlR xs ys = (List.range k).all fun i => eqlR ((xs.drop (i * z.length)).take z.length) ((ys.drop (i * z.length)).take z.length)
  | 0, xs, ys, hx, hy => by
    have h1 := fitsR_length _ _ hx
    have h2 := fitsR_length _ _ hy
    simp at h1 h2
    subst h1; subst h2; rfl
  | k + 1, xs, ys, hx, hy => by
    rw [eqlR_split z.length _ xs ys hx hy]
    rw [List.replicate_succ, List.flatten_cons] at hx hy
    obtain ⟨_, hx2⟩ := fitsR_append _ _ _ hx
    obtain ⟨_, hy2⟩ := fitsR_append _ _ _ hy
    rw [eqlR_chunks z k _ _ hx2 hy2, List.range_succ_eq_map, List.all_cons, List.all_map]
    congr 1
    · simp
    · congr 1
      funext i
      simp only [Function.comp, List.drop_drop]
      rw [show z.length + i * z.length = (i + 1) * z.length from by rw [Nat.succ_mul]; omega]

theorem eqOk (P : Program) (w : World) : ∀ n, EqOk P w n
  | 0 => fun t z h => by simp [plainT] at h
  | n + 1 => fun t z hp hz d hd xs ys hx hy => by
    obtain ⟨d, rfl⟩ : ∃ e, d = e + 1 := ⟨d - 1, by omega⟩
    have ih := eqOk P w n
    unfold plainT at hp
    unfold zeroC at hz
    cases hu : P.underlying t with
    | none => rw [hu] at hp; simp at hp
    | some ds =>
      rw [hu] at hp hz
      have lx := fitsR_length _ _ hx
      have ly := fitsR_length _ _ hy
      cases ds <;> simp only [reduceCtorEq] at hp hz <;> try (cases hp)
      case bool =>
        cases hz
        have ha : aggT P t = false := by simp [aggT, hu]
        match xs, ys, lx, ly with
        | [x], [y], _, _ =>
          cases x <;> simp [fitsR] at hx
          cases y <;> simp [fitsR] at hy
          refine ⟨?_, fun _ => rfl⟩
          simp [packR, ha, Op.equalIn, run_underlying' hu, eqlR]
      case int k =>
        cases hz
        have ha : aggT P t = false := by simp [aggT, hu]
        match xs, ys, lx, ly with
        | [x], [y], _, _ =>
          cases x <;> simp [fitsR] at hx
          cases y <;> simp [fitsR] at hy
          have e1 := kindEq_eq hx
          have e2 := kindEq_eq hy
          subst e1; subst e2
          refine ⟨?_, fun _ => rfl⟩
          simp [packR, ha, Op.equalIn, run_underlying' hu, eqlR]
      case string =>
        cases hz
        have ha : aggT P t = false := by simp [aggT, hu]
        match xs, ys, lx, ly with
        | [x], [y], _, _ =>
          cases x <;> simp [fitsR] at hx
          cases y <;> simp [fitsR] at hy
          refine ⟨?_, fun _ => rfl⟩
          simp [packR, ha, Op.equalIn, run_underlying' hu, eqlR]
      case struct fs =>
        have ha : aggT P t = true := by simp [aggT, hu]
        refine ⟨?_, fun h => by rw [ha] at h; cases h⟩
        simp only [Bool.and_eq_true, Bool.not_eq_true'] at hp
        have hfo : P.fieldsOf t = fs := by simp [Program.fieldsOf, hu]
        simp only [packR, ha]
        rw [run_equalIn_struct w d t xs.toArray ys.toArray (by rw [hfo]; exact hu) hp.1, hfo]
        have := eqFields_plain (d := d) (by omega) ih (P.cellsOf t) fs.toList 0 z xs ys hp.2 hz (by omega) (by omega) (by simpa using hx) (by simpa using hy)
        simpa using this
      case array k e =>
        have ha : aggT P t = true := by simp [aggT, hu]
        refine ⟨?_, fun h => by rw [ha] at h; cases h⟩
        simp only [Bool.and_eq_true, beq_iff_eq] at hp
        obtain ⟨⟨⟨⟨h1, h2⟩, h3⟩, h4⟩, h5⟩ := hp
        cases hze : zeroC P n e with
        | none => rw [hze] at h4; simp at h4
        | some ze =>
          rw [hze] at h4 hz
          simp only [beq_iff_eq] at h4
          simp only [Option.map_some, Option.some.injEq] at hz
          subst hz
          simp only [packR, ha]
          rw [run_equalIn_array w d t e k xs.toArray ys.toArray hu h1 (fun i => eqlR ((xs.drop (i * ze.length)).take ze.length) ((ys.drop (i * ze.length)).take ze.length)) ?_]
          · rw [eqlR_chunks ze k xs ys hx hy]
          · intro i hi
            have fx := replicate_fits ze k i xs hi hx
            have fy := replicate_fits ze k i ys hi hy
            have hr := ih e ze h3 hze d (by omega) _ _ fx fy
            have l1 := fitsR_length _ _ fx
            have l2 := fitsR_length _ _ fy
            simp only [List.length_take, List.length_drop] at l1 l2
            simp only [List.length_flatten, List.map_replicate, List.sum_replicate_nat] at lx ly
            rw [h4] at *
            have hone : aggT P e = false → P.cellsOf e = 1 := hr.2
            have hmul : i * P.cellsOf e + P.cellsOf e ≤ k * P.cellsOf e := by
              rw [← Nat.succ_mul]; exact Nat.mul_le_mul_right _ hi
            exact ⟨_, _, run_part h1 h2 hone (by omega), run_part h1 h2 hone (by omega), hr.1⟩
end Jb
end

section
/- Quiet operations, the rest; and all of them together. -/
namespace Jb
open Go Go.RowKit

section
variable {P : Program} {S : Sim} {w : World} {lm : Nat → Option Nat}

theorem run_eql (t : TypeId) (x y : Value) (b : Bool) (h : (Op.equal t x y).run P w = .ok b w) (hi : ∀ k n, x ≠ .int k n) (hf : ∀ k n, x ≠ .float k n) (hc : ∀ k n m, x ≠ .complex k n m) (hs : ∀ s, x ≠ .string s) :
    (binOp .eql t x y).run P w = .ok (.bool b) w := by
  have : binOp .eql t x y = (do pure (.bool (← Op.equal t x y)) : Sem Value) := by
    cases x <;> first | rfl | exact (hi _ _ rfl).elim | exact (hf _ _ rfl).elim | exact (hc _ _ _ rfl).elim | exact (hs _ rfl).elim
  rw [this]
  simp [h]

theorem run_neq (t : TypeId) (x y : Value) (b : Bool) (h : (Op.equal t x y).run P w = .ok b w) (hi : ∀ k n, x ≠ .int k n) (hf : ∀ k n, x ≠ .float k n) (hc : ∀ k n m, x ≠ .complex k n m) (hs : ∀ s, x ≠ .string s) :
    (binOp .neq t x y).run P w = .ok (.bool (!b)) w := by
  have : binOp .neq t x y = (do pure (.bool (!(← Op.equal t x y))) : Sem Value) := by
    cases x <;> first | rfl | exact (hi _ _ rfl).elim | exact (hf _ _ rfl).elim | exact (hc _ _ _ rfl).elim | exact (hs _ rfl).elim
  rw [this]
  simp [h]

def eqOp (no : Bool) : BinOp := match no with | true => .neq | false => .eql

theorem eq_yields (no : Bool) (t : TypeId) (x y : Operand) {a b : Value} {r : Bool} (hg : (eqGuard (eqOp no) t x y a b).run P w = .ok () w) (h : (Op.equal t a b).run P w = .ok r w)
    (hi : ∀ k n, a ≠ .int k n) (hf : ∀ k n, a ≠ .float k n) (hc : ∀ k n m, a ≠ .complex k n m) (hs : ∀ s, a ≠ .string s) :
    Yields S w lm ((do eqGuard (eqOp no) t x y a b; binOp (eqOp no) t a b : Sem Value).run P w) (.bool (neg no r)) := by
  refine .same ?_ (Rel.bool _)
  cases no
  · simp only [Sem.run_bind, hg, Result.andThen_ok]; exact run_eql t a b r h hi hf hc hs
  · simp only [Sem.run_bind, hg, Result.andThen_ok]; exact run_neq t a b r h hi hf hc hs

theorem eqIn_ptr_left (d : Nat) {t e : TypeId} (he : P.underlying t = some (.pointer e)) (q : Option Addr) : (Op.equalIn (d + 1) t (.pointer none) (.pointer q)).run P w = .ok q.isNone w := by
  simp [Op.equalIn, run_underlying' he]

theorem eqIn_ptr_right (d : Nat) {t e : TypeId} (he : P.underlying t = some (.pointer e)) (q : Addr) : (Op.equalIn (d + 1) t (.pointer (some q)) (.pointer none)).run P w = .ok false w := by
  simp [Op.equalIn, run_underlying' he]

theorem eqIn_if_left (d : Nat) {t : TypeId} {ms : Array (String × TypeId)} (he : P.underlying t = some (.interface ms)) (u : TypeId) (b : Value) : (Op.equalIn (d + 1) t .nilIface (.iface u b)).run P w = .ok false w := by
  simp [Op.equalIn, run_underlying' he]

theorem eqIn_if_right (d : Nat) {t : TypeId} {ms : Array (String × TypeId)} (he : P.underlying t = some (.interface ms)) (u : TypeId) (b : Value) : (Op.equalIn (d + 1) t (.iface u b) .nilIface).run P w = .ok false w := by
  simp [Op.equalIn, run_underlying' he]

theorem ptrT_some {t : TypeId} (h : ptrT P t = true) : ∃ e, P.underlying t = some (.pointer e) := by
  unfold ptrT at h
  split at h
  · rename_i e he; exact ⟨e, he⟩
  · cases h

theorem ifaceT_some {t : TypeId} (h : ifaceT P t = true) : ∃ ms, P.underlying t = some (.interface ms) := by
  unfold ifaceT at h
  split at h
  · rename_i e he; exact ⟨e, he⟩
  · cases h

theorem ptr_left (no : Bool) (t : TypeId) (x y : Operand) (q : Option Addr) (hp : ptrT P t = true) :
    Yields S w lm ((do eqGuard (eqOp no) t x y (.pointer none) (.pointer q); binOp (eqOp no) t (.pointer none) (.pointer q) : Sem Value).run P w) (.bool (neg no q.isNone)) := by
  obtain ⟨e, he⟩ := ptrT_some hp
  refine eq_yields no t x y ?_ (eqIn_ptr_left 9999 he q) (by simp) (by simp) (by simp) (by simp)
  cases no <;> simp [eqGuard, eqOp]

theorem ptr_right (no : Bool) (t : TypeId) (x y : Operand) (q : Addr) (hp : ptrT P t = true) :
    Yields S w lm ((do eqGuard (eqOp no) t x y (.pointer (some q)) (.pointer none); binOp (eqOp no) t (.pointer (some q)) (.pointer none) : Sem Value).run P w) (.bool (neg no false)) := by
  obtain ⟨e, he⟩ := ptrT_some hp
  refine eq_yields no t x y ?_ (eqIn_ptr_right 9999 he q) (by simp) (by simp) (by simp) (by simp)
  cases no <;> simp [eqGuard, eqOp]

theorem funcT_some {t : TypeId} (h : funcT P t = true) : ∃ a b c, P.underlying t = some (.func a b c) := by
  unfold funcT at h
  split at h
  · exact ⟨_, _, _, by assumption⟩
  · cases h

theorem eqIn_fn (d : Nat) {t : TypeId} {p q : Array TypeId} {c : Bool} (he : P.underlying t = some (.func p q c)) {a b : Value} {r : Bool}
    (ha : a = .nilFunc ∧ b = .nilFunc ∧ r = true ∨ a = .nilFunc ∧ (∃ f p q, b = .func f p q) ∧ r = false ∨ (∃ f p q, a = .func f p q) ∧ b = .nilFunc ∧ r = false) : (Op.equalIn (d + 1) t a b).run P w = .ok r w := by
  rcases ha with ⟨rfl, rfl, rfl⟩ | ⟨rfl, ⟨f, p, q, rfl⟩, rfl⟩ | ⟨⟨f, p, q, rfl⟩, rfl, rfl⟩ <;> simp [Op.equalIn, run_underlying' he]

theorem fn_eq (no : Bool) (t : TypeId) (x y : Operand) (a b : Value) (r : Bool) (hp : funcT P t = true) (ha : a = .nilFunc ∧ b = .nilFunc ∧ r = true ∨ a = .nilFunc ∧ (∃ f p q, b = .func f p q) ∧ r = false ∨ (∃ f p q, a = .func f p q) ∧ b = .nilFunc ∧ r = false) :
    Yields S w lm ((do eqGuard (eqOp no) t x y a b; binOp (eqOp no) t a b : Sem Value).run P w) (.bool (neg no r)) := by
  obtain ⟨p, q, c, he⟩ := funcT_some hp
  have hg : (eqGuard (eqOp no) t x y a b).run P w = .ok () w := by
    rcases ha with ⟨rfl, rfl, _⟩ | ⟨rfl, ⟨f, p, q, rfl⟩, _⟩ | ⟨⟨f, p, q, rfl⟩, rfl, _⟩ <;> cases no <;> simp [eqGuard, eqOp]
  refine eq_yields no t x y hg (eqIn_fn 9999 he ha) ?_ ?_ ?_ ?_ <;> rcases ha with ⟨rfl, _⟩ | ⟨rfl, _⟩ | ⟨⟨f, p, q, rfl⟩, _⟩ <;> simp

theorem mapT_some {t : TypeId} (h : mapT P t = true) : ∃ k e, P.underlying t = some (.map k e) := by
  unfold mapT at h
  split at h
  · rename_i k e he; exact ⟨k, e, he⟩
  · cases h

theorem eqIn_map (d : Nat) {t k e : TypeId} (he : P.underlying t = some (.map k e)) {m n : Option Nat} {r : Bool} (hn : (n = none ∧ r = m.isNone) ∨ (m = none ∧ ∃ k, n = some k ∧ r = false)) : (Op.equalIn (d + 1) t (.map m) (.map n)).run P w = .ok r w := by
  rcases hn with ⟨rfl, rfl⟩ | ⟨rfl, k, rfl, rfl⟩
  · cases m <;> simp [Op.equalIn, run_underlying' he]
  · simp [Op.equalIn, run_underlying' he]

theorem map_eq (no : Bool) (t : TypeId) (x y : Operand) {m n : Option Nat} {r : Bool} (hp : mapT P t = true) (hn : (n = none ∧ r = m.isNone) ∨ (m = none ∧ ∃ k, n = some k ∧ r = false) := by exact .inl ⟨rfl, rfl⟩) :
    Yields S w lm ((do eqGuard (eqOp no) t x y (.map m) (.map n); binOp (eqOp no) t (.map m) (.map n) : Sem Value).run P w) (.bool (neg no r)) := by
  obtain ⟨k, e, he⟩ := mapT_some hp
  refine eq_yields no t x y ?_ ?_ (by simp) (by simp) (by simp) (by simp)
  · cases no <;> simp [eqGuard, eqOp]
  · exact eqIn_map 9999 he hn

theorem str_sound (op : BinOp) (t : TypeId) (x y : Operand) (a b : ByteArray) :
    Snd S w lm ((do eqGuard op t x y (.string a) (.string b); binOp op t (.string a) (.string b) : Sem Value).run P w) (strQ op a b) := by
  cases op <;> try exact True.intro
  · intro hc
    refine .same (x := .string (a ++ b)) ?_ (Rel.str _)
    have h : ¬ ((a.size + b.size : Nat) : Int) > IntKind.i64.max := by
      have : (4611686018427387904 : Int) ≤ IntKind.i64.max := by decide
      omega
    simp only [Sem.run_bind, binOp_string_add, Op.stringOp]
    rw [if_neg h]
    simp [eqGuard]
  · refine .same ?_ (Rel.bool _)
    simp [eqGuard, binOp_string_eql, ByteArray.toList_eq]
  · refine .same ?_ (Rel.bool _)
    simp [eqGuard, binOp_string_neq, ByteArray.toList_eq]

theorem eql_sound (no : Bool) (t : TypeId) (x y : Operand) {u v : V} {a b : Value} (hu : TmRel S w lm u a) (hv : TmRel S w lm v b) :
    Snd S w lm ((do eqGuard (eqOp no) t x y a b; binOp (eqOp no) t a b : Sem Value).run P w) (eqlQ P no t u v) := by
  generalize hq : eqlQ P no t u v = q
  unfold eqlQ at hq
  split at hq
  · split at hq
    · rename_i hp
      subst hq
      cases (show Rel S w .nilfn a from hu)
      cases (show Rel S w .nilfn b from hv)
      exact fn_eq no t x y _ _ _ hp (.inl ⟨rfl, rfl, rfl⟩)
    · subst hq; exact True.intro
  · split at hq
    · rename_i hp
      subst hq
      cases (show Rel S w .nilfn a from hu)
      cases (show Rel S w (.fn _ _ _) b from hv)
      exact fn_eq no t x y _ _ _ hp (.inr (.inl ⟨rfl, ⟨_, _, _, rfl⟩, rfl⟩))
    · subst hq; exact True.intro
  · split at hq
    · rename_i hp
      subst hq
      cases (show Rel S w (.fn _ _ _) a from hu)
      cases (show Rel S w .nilfn b from hv)
      exact fn_eq no t x y _ _ _ hp (.inr (.inr ⟨⟨_, _, _, rfl⟩, rfl, rfl⟩))
    · subst hq; exact True.intro
  · rename_i p r
    split at hq
    · rename_i hb
      subst hq
      cases (show Rel S w (.bool p) a from hu)
      cases (show Rel S w (.bool r) b from hv)
      unfold boolT at hb
      split at hb
      · rename_i he
        refine eq_yields no t x y ?_ (run_equal_bool w t p r he) (by simp) (by simp) (by simp) (by simp)
        cases no <;> simp [eqGuard, eqOp]
      · cases hb
    · subst hq; exact True.intro
  · split at hq
    · rename_i r hp hr
      subst hq
      cases (show Rel S w .nilp a from hu)
      cases v <;> simp [nilEql] at hr
      · subst hr; cases (show Rel S w .nilp b from hv); exact ptr_left no t x y none hp
      · subst hr; cases (show Rel S w (.ptr _ _) b from hv); exact ptr_left no t x y (some _) hp
      · subst hr; obtain ⟨rb, _, rfl⟩ := hv; exact ptr_left no t x y (some _) hp
      · subst hr; obtain ⟨rb, o, rfl, _⟩ := cptr_at (show Rel S w (.cptr _ _) b from hv); exact ptr_left no t x y (some _) hp
    · subst hq; exact True.intro
  · split at hq
    · rename_i r hp hr
      subst hq
      cases (show Rel S w .nilp b from hv)
      cases u <;> simp [nilEql] at hr
      · subst hr; cases (show Rel S w .nilp a from hu); exact ptr_left no t x y none hp
      · subst hr; cases (show Rel S w (.ptr _ _) a from hu); exact ptr_right no t x y _ hp
      · subst hr; obtain ⟨rb, _, rfl⟩ := hu; exact ptr_right no t x y _ hp
      · subst hr; obtain ⟨rb, o, rfl, _⟩ := cptr_at (show Rel S w (.cptr _ _) a from hu); exact ptr_right no t x y _ hp
    · subst hq; exact True.intro
  · split at hq
    · rename_i hp
      subst hq
      obtain ⟨ms, he⟩ := ifaceT_some hp
      cases (show Rel S w .nilif a from hu)
      cases (show Rel S w (.iface _ _) b from hv)
      refine eq_yields no t x y ?_ (eqIn_if_left 9999 he _ _) (by simp) (by simp) (by simp) (by simp)
      cases no <;> simp [eqGuard, eqOp]
    · subst hq; exact True.intro
  · split at hq
    · rename_i hp
      subst hq
      obtain ⟨ms, he⟩ := ifaceT_some hp
      cases (show Rel S w (.iface _ _) a from hu)
      cases (show Rel S w .nilif b from hv)
      refine eq_yields no t x y ?_ (eqIn_if_right 9999 he _ _) (by simp) (by simp) (by simp) (by simp)
      cases no <;> simp [eqGuard, eqOp]
    · subst hq; exact True.intro
  · rename_i cs ds
    split at hq
    · rename_i z ha hz
      subst hq
      rintro ⟨f1, f2⟩
      obtain ⟨xs, rfl, hx, _⟩ := (show Rel S w (.agg cs) a from hu).agg_inv
      obtain ⟨ys, rfl, hy, _⟩ := (show Rel S w (.agg ds) b from hv).agg_inv
      unfold eqKinds at hz
      split at hz
      · rename_i hp
        simp only [Bool.and_eq_true, Bool.not_eq_true'] at hp
        have := (eqOk P w 20 t z hp.1 hz 10000 (by omega) xs ys (fitsR_of z cs xs hx f1) (fitsR_of z ds ys hy f2)).1
        simp only [packR, ha] at this
        rw [eqlR_of z cs ds xs ys hx hy f1 f2] at this
        exact eq_yields no t x y (run_eqGuard_agg w _ t x y _ _ hp.2) this (by simp) (by simp) (by simp) (by simp)
      · cases hz
    · subst hq; exact True.intro
  · rename_i m
    split at hq
    · rename_i hp
      subst hq
      cases (show Rel S w (.map m) a from hu)
      cases (show Rel S w (.map none) b from hv)
      exact map_eq no t x y hp (.inl ⟨rfl, rfl⟩)
    · subst hq; exact True.intro
  · rename_i m
    split at hq
    · rename_i hp
      subst hq
      cases (show Rel S w (.map none) a from hu)
      cases (show Rel S w (.map (some m)) b from hv)
      exact map_eq no t x y hp (.inr ⟨rfl, m, rfl, rfl⟩)
    · subst hq; exact True.intro
  · subst hq; exact True.intro

theorem bin_sound (op : BinOp) (t : TypeId) (x y : Operand) {u v : V} {a b : Value} (hu : TmRel S w lm u a) (hv : TmRel S w lm v b) :
    Snd S w lm ((do eqGuard op t x y a b; binOp op t a b : Sem Value).run P w) (binQ P op t u v) := by
  generalize hq : binQ P op t u v = q
  unfold binQ at hq
  split at hq
  · rename_i p r
    subst hq
    cases (show Rel S w (.str p) a from hu)
    cases (show Rel S w (.str r) b from hv)
    exact str_sound op t x y p r
  · rename_i k m k' n
    cases (show Rel S w (.int k m) a from hu)
    cases (show Rel S w (.int k' n) b from hv)
    have hg : (eqGuard op t x y (.int k m) (.int k' n)).run P w = .ok () w := by cases op <;> simp [eqGuard]
    have e : (do eqGuard op t x y (.int k m) (.int k' n); binOp op t (.int k m) (.int k' n) : Sem Value).run P w = (binOp op t (.int k m) (.int k' n)).run P w := by simp [hg]
    rw [e]
    subst hq
    cases op <;> simp only
    case shl => exact shift_sound _ k k' m n t (.inl rfl)
    case shr => exact shift_sound _ k k' m n t (.inr rfl)
    all_goals
      split
      · rename_i hk
        have hk := kindEq_eq hk
        subst hk
        exact int_sound _ k m n ⟨by simp, by simp⟩ t
      · exact True.intro
  · subst hq
    cases op <;> first | exact eql_sound false t x y hu hv | exact eql_sound true t x y hu hv | exact True.intro

theorem eqIn_if_nil (d : Nat) {t : TypeId} {ms : Array (String × TypeId)} (he : P.underlying t = some (.interface ms)) : (Op.equalIn (d + 1) t .nilIface .nilIface).run P w = .ok true w := by
  simp [Op.equalIn, run_underlying' he]

theorem nilC_const {x : Operand} (h : nilC x = true) : ∃ v, x = .const v := by
  unfold nilC at h
  split at h
  · exact ⟨_, rfl⟩
  · cases h

theorem binn_sound (op : BinOp) (t : TypeId) (x y : Operand) {u v : V} {a b : Value} (hu : TmRel S w lm u a) (hv : TmRel S w lm v b) :
    Snd S w lm ((do eqGuard op t x y a b; binOp op t a b : Sem Value).run P w) (binQn P op t x y u v) := by
  generalize hq : binQn P op t x y u v = q
  unfold binQn at hq
  split at hq
  · rename_i hc
    cases (show Rel S w .nilif a from hu)
    cases (show Rel S w .nilif b from hv)
    unfold nilNilQ at hq
    have key : ∀ no, ifaceT P t = true → Yields S w lm ((do eqGuard (eqOp no) t x y .nilIface .nilIface; binOp (eqOp no) t .nilIface .nilIface : Sem Value).run P w) (.bool (neg no true)) := by
      intro no hp
      obtain ⟨ms, he⟩ := ifaceT_some hp
      refine eq_yields no t x y ?_ (eqIn_if_nil 9999 he) (by simp) (by simp) (by simp) (by simp)
      rcases Bool.or_eq_true_iff.1 hc with hc | hc <;> obtain ⟨v, rfl⟩ := nilC_const hc <;> cases no <;> simp [eqGuard, eqOp]
    split at hq
    · rename_i hp; subst hq; exact key false hp
    · rename_i hp; subst hq; exact key true hp
    · subst hq; exact True.intro
  · subst hq; exact bin_sound op t x y hu hv

theorem boolOf_rel {v : V} {x : Value} {g : Option Bool} {r : Bool} (h : boolOf v = some (g, r)) (hv : TmRel S w lm v x) (hg : ∀ b, g = some b → b = true) : x = .bool r := by
  unfold boolOf at h
  split at h
  · cases h; cases (show Rel S w (.bool r) x from hv); rfl
  · rename_i b r'
    split at h
    · cases h
      cases (show Rel S w (.bool r) x from hv.1 (hg b rfl)); rfl
    · cases h; have := hg false rfl; cases this
    · cases h
  · cases h; have := hg false rfl; cases this
  · cases h

theorem validIf_iff (t : Prop) (g : Option Bool) (R : Prop) : validIf t g R ↔ (t → ∀ b, g = some b → b = true) ∧ R := by
  cases g with
  | none => simp [validIf]
  | some b => simp [validIf]

theorem pick_sound {c a b : V} {x y z : Value} (hc : TmRel S w lm c x) (ha : TmRel S w lm a y) (hb : TmRel S w lm b z) :
    Snd S w lm ((do pure (if ← Go.asBool x then y else z) : Sem Value).run P w) (pickQ c a b) := by
  generalize hq : pickQ c a b = q
  unfold pickQ at hq
  split at hq
  · rename_i t
    cases (show Rel S w (.bool t) x from hc)
    split at hq
    · rename_i g1 r1 g2 r2 h1 h2
      subst hq
      intro hv
      rw [validIf_iff, validIf_iff] at hv
      cases t
      · have := boolOf_rel h2 hb (hv.2.1 rfl)
        subst this
        exact .same (by simp [Go.asBool]) (Rel.bool _)
      · have := boolOf_rel h1 ha (hv.1 rfl)
        subst this
        exact .same (by simp [Go.asBool]) (Rel.bool _)
    · subst hq; exact True.intro
  · subst hq; exact True.intro
end
end Jb
end

section
/- Building; and quiet operations all together. -/
namespace Jb
open Go Go.RowKit

section
variable {P : Program} {S : Sim} {w : World} {lm : Nat → Option Nat}

theorem run_mapM_list {α β : Type} (f : α → Sem β) (g : α → β) : ∀ l : List α, (∀ a ∈ l, (f a).run P w = .ok (g a) w) → (l.mapM f).run P w = .ok (l.map g) w
  | [], _ => rfl
  | a :: l, h => by
    simp only [List.mapM_cons, Sem.run_bind, h a (by simp), Result.andThen_ok, run_mapM_list f g l (fun b hb => h b (by simp [hb]))]
    rfl

theorem run_mapM_array {α β : Type} (f : α → Sem β) (g : α → β) (l : Array α) (h : ∀ a ∈ l.toList, (f a).run P w = .ok (g a) w) : (l.mapM f).run P w = .ok (l.map g) w := by
  rw [Array.mapM_eq_mapM_toList, Sem.run_map, run_mapM_list f g l.toList h]
  simp only [Result.andThen_ok]
  congr 1
  apply Array.ext'
  simp

theorem one_cells {v : V} {x : Value} (ho : v.one = true) (h : Rel S w v x) : x.cells = #[x] := by
  cases h <;> first | rfl | (simp [V.one] at ho)

theorem one_oneCell {v : V} {x : Value} (ho : v.one = true) (h : Rel S w v x) : x.oneCell' = true := by
  cases h <;> first | rfl | (simp [V.one] at ho)

theorem cells_rel {size : Nat} {v : V} {x : Value} {new : List V} {c : Prop} (h : TmRel S w lm v x) (hq : cellsQ size v = some (new, c)) (hc : c) :
    x.cells.toList.length = size ∧ new.length = size ∧ RelL S w new x.cells.toList ∧ ∀ y ∈ x.cells.toList, y.oneCell' = true := by
  unfold cellsQ at hq
  split at hq
  · cases hq
    obtain ⟨xs, rfl, hx, ho⟩ := (show Rel S w (.agg _) x from h).agg_inv
    have h1 := hx.1
    refine ⟨?_, hc, ?_, ?_⟩
    · simp [Value.cells, h1]; exact hc
    · simpa [Value.cells] using hx
    · simpa [Value.cells] using ho
  · split at hq
    · rename_i ho
      cases hq
      have hr : Rel S w v x := h.rel (by cases v <;> first | rfl | (simp [V.one] at ho))
      rw [one_cells ho hr]
      exact ⟨rfl, rfl, .cons hr .nil, fun y hy => by simp at hy; subst hy; exact one_oneCell ho hr⟩
    · cases hq

theorem fold_set (off : Nat) : ∀ (l : List Value) (k : Nat) (cells : Array Value), off + k + l.length ≤ cells.size →
    ((l.zipIdx k).foldl (fun (cs : Array Value) (p : Value × Nat) => cs.setIfInBounds (off + p.2) p.1) cells).toList = cells.toList.take (off + k) ++ l ++ cells.toList.drop (off + k + l.length)
  | [], k, cells, _ => by simp
  | x :: l, k, cells, h => by
    simp only [List.length_cons] at h
    rw [List.zipIdx_cons, List.foldl_cons, fold_set off l (k + 1) _ (by simp; omega)]
    have hk : off + k < cells.toList.length := by simp; omega
    simp only [Array.toList_setIfInBounds]
    rw [List.set_eq_take_append_cons_drop, if_pos hk]
    have e1 : List.take (off + (k + 1)) (List.take (off + k) cells.toList ++ x :: List.drop (off + k + 1) cells.toList) = List.take (off + k) cells.toList ++ [x] := by
      rw [List.take_append, List.take_of_length_le (by simp; omega)]
      have : off + (k + 1) - (List.take (off + k) cells.toList).length = 1 := by simp; omega
      rw [this]; rfl
    have e2 : List.drop (off + (k + 1) + l.length) (List.take (off + k) cells.toList ++ x :: List.drop (off + k + 1) cells.toList) = List.drop (off + k + (l.length + 1)) cells.toList := by
      rw [List.drop_append, List.drop_eq_nil_of_le (by simp; omega), List.nil_append]
      have : off + (k + 1) + l.length - (List.take (off + k) cells.toList).length = l.length + 1 := by simp; omega
      rw [this, List.drop_succ_cons, List.drop_drop]
      congr 1
      omega
    rw [e1, e2]
    simp

theorem lay_sound (place : Nat → Option (Nat × Nat)) (n : Nat) : ∀ (parts : List (Nat × V)) (reals : List (Nat × Value)) (cs : List V) (cells : Array Value) (cs' : List V) (c : Prop),
    reals.length = parts.length → (∀ (i : Nat) (p : Nat × V) (r : Nat × Value), parts[i]? = some p → reals[i]? = some r → r.1 = p.1 ∧ TmRel S w lm p.2 r.2) →
    RelL S w cs cells.toList → cells.size = n → (∀ y ∈ cells.toList, y.oneCell' = true) → layQ place n cs parts = some (cs', c) → c →
    ∃ cells' : Array Value, Instr.fill place cells reals = some cells' ∧ RelL S w cs' cells'.toList ∧ cells'.size = n ∧ ∀ y ∈ cells'.toList, y.oneCell' = true
  | [], [], cs, cells, cs', c, _, _, h, hn, ho, hq, _ => by
    simp only [layQ, Option.some.injEq, Prod.mk.injEq] at hq
    rw [← hq.1]
    exact ⟨cells, rfl, h, hn, ho⟩
  | [], _ :: _, _, _, _, _, hl, _, _, _, _, _, _ => by simp at hl
  | _ :: _, [], _, _, _, _, hl, _, _, _, _, _, _ => by simp at hl
  | (i, v) :: parts, (i', x) :: reals, cs, cells, cs', c, hl, hr, h, hn, ho, hq, hc => by
    obtain ⟨rfl, hv⟩ := hr 0 _ _ rfl rfl
    simp only at hv
    simp only [layQ] at hq
    simp only [Instr.fill]
    cases hp : place i' with
    | none => rw [hp] at hq; cases hq
    | some os =>
      obtain ⟨off, size⟩ := os
      rw [hp] at hq
      simp only at hq ⊢
      split at hq
      · rename_i new c0 hd hcq
        split at hq
        · rename_i cs2 c2 hq2
          simp only [Option.some.injEq, Prod.mk.injEq] at hq
          obtain ⟨rfl, rfl⟩ := hq
          obtain ⟨hc0, hc2⟩ := hc
          obtain ⟨h1, h2, h3, h4⟩ := cells_rel hv hcq hc0
          have hd : off + size ≤ n := by simpa using hd
          have hsz : x.cells.size = size := by simpa using h1
          have hcs : cells.size = n := hn
          rw [if_neg (by simp [hsz, hcs]; omega)]
          have hf := fold_set off x.cells.toList 0 cells (by simp; omega)
          have hcl : cs.length = n := by have := h.1; simp at this; omega
          refine lay_sound place n parts reals _ _ cs2 c2 (by simpa using hl) (fun j p r hp hr' => hr (j + 1) p r (by simpa using hp) (by simpa using hr')) ?_ ?_ ?_ hq2 hc2
          · rw [← Array.foldl_toList, Array.toList_zipIdx]
            rw [hf]
            simp only [Nat.add_zero, h1]
            exact ((h.take off).append h3).append (h.drop (off + size))
          · rw [← Array.length_toList, ← Array.foldl_toList, Array.toList_zipIdx, hf]
            simp
            omega
          · rw [← Array.foldl_toList, Array.toList_zipIdx, hf]
            intro y hy
            rcases List.mem_append.1 hy with hy | hy
            · rcases List.mem_append.1 hy with hy | hy
              · exact ho y (List.mem_of_mem_take hy)
              · exact h4 y hy
            · exact ho y (List.mem_of_mem_drop hy)
        · cases hq
      · cases hq

theorem zero_cells : ∀ (cs : List V) (xs : List Value), zeroAll cs xs = true → RelL S w cs xs
  | [], [], _ => .nil
  | [], _ :: _, h => by simp [zeroAll] at h
  | _ :: _, [], h => by simp [zeroAll] at h
  | v :: cs, x :: xs, h => by
    simp only [zeroAll, Bool.and_eq_true] at h
    refine .cons ?_ (zero_cells cs xs h.2)
    have h := h.1
    unfold zeroIs at h
    split at h
    · rw [beq_iff_eq] at h; subst h; exact .bool _
    · simp only [Bool.and_eq_true, beq_iff_eq] at h; have := kindEq_eq h.1; rw [this, h.2]; exact .int _ _
    · rename_i a b; obtain ⟨a⟩ := a; obtain ⟨b⟩ := b; rw [beq_iff_eq] at h; simp only at h; subst h; exact .str _
    · exact .nilp
    · exact .slnil _ _ (by simp)
    · exact .map _
    · exact .nilfn
    · exact .nilif
    · cases h

theorem zero_one : ∀ (cs : List V) (xs : List Value), zeroAll cs xs = true → ∀ x ∈ xs, x.oneCell' = true
  | [], [], _, x, hx => by cases hx
  | [], _ :: _, h, _, _ => by simp [zeroAll] at h
  | _ :: _, [], h, _, _ => by simp [zeroAll] at h
  | v :: cs, x :: xs, h, y, hy => by
    simp only [zeroAll, Bool.and_eq_true] at h
    rcases List.mem_cons.1 hy with rfl | hy
    · have h := h.1
      cases y <;> first | rfl | (cases v <;> simp [zeroIs] at h)
    · exact zero_one cs xs h.2 y hy

theorem zeroV_some {t : TypeId} {cs : List V} (h : zeroV P t = some cs) : ∃ i z, P.info? t = some i ∧ i.zero = some z ∧ RelL S w cs z.cells.toList ∧ (∀ y ∈ z.cells.toList, y.oneCell' = true) ∧ cs.length = i.size ∧ P.cellsOf t = i.size ∧ okT P t = true := by
  unfold zeroV at h
  split at h
  · rename_i cs0 i _ hi
    split at h
    · rename_i z hz
      split at h
      · rename_i hb
        cases h
        simp only [Bool.and_eq_true, decide_eq_true_eq] at hb
        exact ⟨i, z, hi, hz, zero_cells _ _ hb.1, zero_one _ _ hb.1, hb.2, by simp [Program.cellsOf, hi], by simp [okT, hi]⟩
      · cases h
    · cases h
  · cases h

theorem run_zeroValue {t : TypeId} {cs : List V} (S : Sim) (h : zeroV P t = some cs) : ∃ z, (zeroValue t).run P w = .ok z w ∧ RelL S w cs z.cells.toList ∧ (∀ y ∈ z.cells.toList, y.oneCell' = true) ∧ cs.length = P.cellsOf t ∧ okT P t = true := by
  obtain ⟨i, z, hi, hz, hr, h1, hl, hc, ho⟩ := zeroV_some (S := S) (w := w) h
  refine ⟨z, ?_, hr, h1, by omega, ho⟩
  simp [zeroValue, typeInfo, hi, hz]

theorem build_sound (t : TypeId) (parts : List (Nat × V)) (reals : List (Nat × Value)) (hl : reals.length = parts.length)
    (hr : ∀ (i : Nat) (p : Nat × V) (r : Nat × Value), parts[i]? = some p → reals[i]? = some r → r.1 = p.1 ∧ TmRel S w lm p.2 r.2) :
    Snd S w lm ((Instr.build t reals.toArray).run P w) (buildQ P t parts) := by
  unfold buildQ
  split
  · rename_i z pl hz hp
    split
    · rename_i cs c hq
      intro hc
      obtain ⟨zv, hrun, hzr, hz1, hzl, ho⟩ := run_zeroValue (w := w) S hz
      obtain ⟨cells', hf, hr', hs, h1'⟩ := lay_sound (S := S) (w := w) (lm := lm) pl (P.cellsOf t) parts reals z zv.cells cs c hl hr hzr (by have := hzr.1; simp at this; omega) hz1 hq hc
      refine .same (x := .agg cells') ?_ (show Rel S w (.agg cs) (.agg cells') from by have := Rel.agg (S := S) (w := w) cs cells'.toList hr'.1 h1' hr'.2; simpa using this)
      unfold placesOf at hp
      split at hp
      · rename_i fs hu
        split at hp
        · rename_i hall
          cases hp
          simp only [Instr.build, Sem.run_bind, hrun, Result.andThen_ok, run_underlying' hu]
          rw [run_mapM_array _ (fun f : Field => (f.offset, P.cellsOf f.type)) fs (fun f hf => by
            have := List.all_eq_true.1 hall f hf
            simp [run_sizeOf' this])]
          simp only [Result.andThen_ok]
          have : (fun i : Nat => (Array.map (fun f : Field => (f.offset, P.cellsOf f.type)) fs)[i]?) = fun i : Nat => match fs[i]? with | some (f : Field) => some (f.offset, P.cellsOf f.type) | none => none := by
            funext i
            simp only [Array.getElem?_map]
            cases fs[i]? <;> rfl
          have hf2 : Instr.fill (fun i : Nat => (Array.map (fun f : Field => (f.offset, P.cellsOf f.type)) fs)[i]?) zv.cells reals = some cells' := by
            rw [this]; exact hf
          rw [hf2]
          rfl
        · cases hp
      · rename_i len e hu
        split at hp
        · rename_i he
          cases hp
          simp only [Instr.build, Sem.run_bind, hrun, Result.andThen_ok, run_underlying' hu, run_sizeOf' he]
          rw [hf]
          rfl
        · cases hp
      · cases hp
    · exact True.intro
  · exact True.intro

theorem elems_sound (size : Nat) : ∀ (vs : List V) (xs : List Value) (l : List (List V)) (c : Prop), xs.length = vs.length →
    (∀ (i : Nat) (v : V) (x : Value), vs[i]? = some v → xs[i]? = some x → TmRel S w lm v x) → elems size vs = some (l, c) → c →
    l.length = vs.length ∧ (∀ (i : Nat) (e : List V), l[i]? = some e → e.length = size) ∧ RelL S w l.flatten (xs.flatMap fun x => x.cells.toList) ∧ ∀ x ∈ xs, x.cells.toList.length = size ∧ ∀ y ∈ x.cells.toList, y.oneCell' = true
  | [], [], l, c, _, _, hq, _ => by
    simp only [elems, Option.some.injEq, Prod.mk.injEq] at hq
    rw [← hq.1]
    exact ⟨rfl, fun i e h => by simp at h, .nil, fun x h => by cases h⟩
  | [], _ :: _, _, _, h, _, _, _ => by simp at h
  | _ :: _, [], _, _, h, _, _, _ => by simp at h
  | v :: vs, x :: xs, l, c, hl, hr, hq, hc => by
    unfold elems at hq
    split at hq
    · rename_i new c0 l2 c2 h1 h2
      simp only [Option.some.injEq, Prod.mk.injEq] at hq
      obtain ⟨rfl, rfl⟩ := hq
      obtain ⟨hc0, hc2⟩ := hc
      obtain ⟨a1, a2, a3, a4⟩ := cells_rel (hr 0 _ _ rfl rfl) h1 hc0
      obtain ⟨b1, b2, b3, b4⟩ := elems_sound size vs xs l2 c2 (by simpa using hl) (fun i v x hv hx => hr (i + 1) v x (by simpa using hv) (by simpa using hx)) h2 hc2
      refine ⟨by simp [b1], fun i e h => ?_, by simpa using a3.append b3, fun y hy => ?_⟩
      · cases i with
        | zero => simp at h; subst h; exact a2
        | succ i => exact b2 i e (by simpa using h)
      · rcases List.mem_cons.1 hy with rfl | hy
        · exact ⟨a1, a4⟩
        · exact b4 y hy
    · cases hq

theorem fill_all (size : Nat) : ∀ (xs : List Value) (k : Nat) (cells : Array Value), (∀ x ∈ xs, x.cells.toList.length = size) → (k + xs.length) * size ≤ cells.size →
    ∃ cells', Instr.fill (fun i => some (i * size, size)) cells (xs.zipIdx k |>.map fun p => (p.2, p.1)) = some cells' ∧
      cells'.toList = cells.toList.take (k * size) ++ (xs.flatMap fun x => x.cells.toList) ++ cells.toList.drop ((k + xs.length) * size)
  | [], k, cells, _, _ => ⟨cells, rfl, by simp⟩
  | x :: xs, k, cells, hx, hle => by
    have hsz : x.cells.toList.length = size := hx x (by simp)
    have hsz' : x.cells.size = size := by simpa using hsz
    have hm : (k + (x :: xs).length) * size = k * size + size + xs.length * size := by
      simp only [List.length_cons]
      rw [show k + (xs.length + 1) = k + 1 + xs.length from by omega, Nat.add_mul, Nat.add_mul]; omega
    rw [hm] at hle ⊢
    simp only [List.zipIdx_cons, List.map_cons, Instr.fill]
    rw [if_neg (by simp [hsz']; omega)]
    have hf := fold_set (k * size) x.cells.toList 0 cells (by simp; omega)
    simp only [Nat.add_zero] at hf
    rw [← Array.foldl_toList, Array.toList_zipIdx]
    generalize hc1 : List.foldl (fun (cs : Array Value) (p : Value × Nat) => cs.setIfInBounds (k * size + p.2) p.1) cells (x.cells.toList.zipIdx) = c1 at hf ⊢
    have hlen : c1.size = cells.size := by
      rw [← Array.length_toList, hf]; simp; omega
    obtain ⟨c2, h1, h2⟩ := fill_all size xs (k + 1) c1 (fun y hy => hx y (by simp [hy])) (by rw [hlen, show k + 1 + xs.length = k + (xs.length + 1) from by omega]; rw [← List.length_cons (a := x), hm]; exact hle)
    refine ⟨c2, h1, ?_⟩
    have e0 : (k + 1) * size = k * size + size := by rw [Nat.add_mul]; omega
    have e1 : (k + 1 + xs.length) * size = k * size + size + xs.length * size := by rw [Nat.add_mul, Nat.add_mul]; omega
    rw [h2, hf, hsz, e0, e1, List.flatMap_cons]
    have t1 : List.take (k * size + size) (List.take (k * size) cells.toList ++ x.cells.toList ++ List.drop (k * size + size) cells.toList) = List.take (k * size) cells.toList ++ x.cells.toList := by
      rw [List.take_append, List.take_of_length_le (by simp; omega)]
      have : k * size + size - (List.take (k * size) cells.toList ++ x.cells.toList).length = 0 := by simp; omega
      rw [this]; simp
    have t2 : List.drop (k * size + size + xs.length * size) (List.take (k * size) cells.toList ++ x.cells.toList ++ List.drop (k * size + size) cells.toList) = List.drop (k * size + size + xs.length * size) cells.toList := by
      rw [List.drop_append, List.drop_eq_nil_of_le (by simp; omega), List.nil_append, List.drop_drop]
      congr 1
      simp
      omega
    rw [t1, t2]
    simp

theorem parts_zip {reals : List (Nat × Value)} {n : Nat} (h : reals.map (·.1) = List.range n) : reals = ((reals.map (·.2)).zipIdx 0).map fun p => (p.2, p.1) := by
  apply List.ext_getElem?
  intro i
  have hn : reals.length = n := by have := congrArg List.length h; simpa using this
  by_cases hi : i < reals.length
  · have := congrArg (fun l => l[i]?) h
    simp [hi, show i < n by omega] at this
    simp [hi]
    exact Prod.ext this rfl
  · simp [hi]

theorem alloc_run (c : Array Value) (e : TypeId) : (newRow e c).run P w = .ok ⟨w.heap.size, 0, none⟩ (w.alloc (.cells c e)) := by
  rfl

theorem Keeps_new {S : Sim} {w : World} {h : Heap} (H : HR S w h) (c : Array Value) (e : TypeId) (i : Nat) (x : Value) (hx : c[i]? = some x) (ho : x.oneCell' = true) : Keeps S (w.alloc (.cells c e)) w.heap.size i x := by
  refine ⟨?_, ?_, ho⟩
  · simp [Sim.stable, (H.fresh w.heap.size (Nat.le_refl _)).1]
  · show (match (w.heap.push (.cells c e))[w.heap.size]? with | some (.cells c _ _) => _ | _ => _) = _
    simp [hx]

theorem Ext_below {S : Sim} {w w' : World} (b : Below w.heap.size w w') : Ext S w S w' := by
  refine ⟨fun rb off x ⟨h1, h2, h3⟩ => ⟨h1, ?_, h3⟩, fun s m h => ⟨m, h, Nat.le_refl _, fun _ => rfl⟩⟩
  have hlt := World.block_lt_of_cell? w _ h2
  rw [b.cell (p := ⟨rb, off, none⟩) hlt]
  exact h2

theorem flatten_getElem (size : Nat) : ∀ (l : List (List V)) (i j : Nat) (e : List V), (∀ (i : Nat) (e : List V), l[i]? = some e → e.length = size) → l[i]? = some e → j < size → l.flatten[i * size + j]? = e[j]?
  | [], i, j, e, _, h, _ => by simp at h
  | a :: l, 0, j, e, hl, h, hj => by
    have := hl 0 a rfl
    simp at h
    subst h
    rw [List.flatten_cons, Nat.zero_mul, Nat.zero_add, List.getElem?_append_left (by omega)]
  | a :: l, i + 1, j, e, hl, h, hj => by
    have ha := hl 0 a rfl
    rw [List.flatten_cons, List.getElem?_append_right (by rw [Nat.add_mul]; omega)]
    rw [show (i + 1) * size + j - a.length = i * size + j from by rw [Nat.add_mul]; omega]
    exact flatten_getElem size l i j e (fun i e h => hl (i + 1) e (by simpa using h)) (by simpa using h) hj

theorem flatten_length (size : Nat) : ∀ l : List (List V), (∀ (i : Nat) (e : List V), l[i]? = some e → e.length = size) → l.flatten.length = l.length * size
  | [], _ => by simp
  | a :: l, h => by
    rw [List.flatten_cons, List.length_append, flatten_length size l (fun i e he => h (i + 1) e (by simpa using he)), h 0 a rfl, List.length_cons, Nat.add_mul]
    omega

theorem new_slice {h : Heap} (H : HR S w h) (e : TypeId) (size : Nat) (hs : 0 < size) (l : List (List V)) (xs : List Value) (more : List Value) (cap : Nat) (g : G) (hl : ∀ (i : Nat) (e : List V), l[i]? = some e → e.length = size)
    (hr : RelL S w l.flatten xs) (ho : ∀ x ∈ xs, x.oneCell' = true) (hcap : l.length ≤ cap) (hg : ∀ S', Claim S' g l.length w.heap.size 0 cap) :
    Rel S (w.alloc (.cells (xs ++ more).toArray e)) (.sl size l g) (.slice (some ⟨w.heap.size, 0, none⟩) l.length cap) := by
  have E : Ext S w S (w.alloc (.cells (xs ++ more).toArray e)) := Ext_below ((Below.refl _ _).alloc (Nat.le_refl _) _)
  have hx : ∀ (i : Nat) (e : List V), l[i]? = some e → ∀ (j : Nat) (c : V), e[j]? = some c → ∃ y, xs[i * size + j]? = some y ∧ Rel S w c y := by
    intro i e he j c hc
    have hj : j < size := by have := (List.getElem?_eq_some_iff.1 hc).1; have := hl i e he; omega
    have h1 := flatten_getElem size l i j e hl he hj
    rw [hc] at h1
    have hlt := (List.getElem?_eq_some_iff.1 h1).1
    rw [← hr.1] at hlt
    exact ⟨xs[i * size + j], List.getElem?_eq_getElem hlt, hr.2 _ _ _ h1 (List.getElem?_eq_getElem hlt)⟩
  refine .sl size l g w.heap.size 0 cap (fun i j => xs.getD (i * size + j) Go.undef) hs hcap (hg S) hl ?_ ?_
  · intro i e he j c hc
    obtain ⟨y, hy, _⟩ := hx i e he j c hc
    have : xs.getD (i * size + j) Go.undef = y := by simp [List.getD, hy]
    rw [this]
    refine Keeps_new H _ _ _ _ ?_ (ho y (List.mem_of_getElem? hy))
    have hlt := (List.getElem?_eq_some_iff.1 hy).1
    simp [List.getElem?_append_left hlt, hy]
  · intro i e he j c hc
    obtain ⟨y, hy, hrel⟩ := hx i e he j c hc
    have : xs.getD (i * size + j) Go.undef = y := by simp [List.getD, hy]
    rw [this]
    exact hrel.mono E

theorem buildSlice_run (t : TypeId) (n : Nat) (parts : List (Nat × V)) (reals : List (Nat × Value)) (hl : reals.length = parts.length)
    (hr : ∀ (i : Nat) (p : Nat × V) (r : Nat × Value), parts[i]? = some p → reals[i]? = some r → r.1 = p.1 ∧ TmRel S w lm p.2 r.2) {q : Q} (hq : buildSliceQ P t n parts = q) :
    match q with
    | .chk c v => c → ∃ (e : TypeId) (es : Nat) (l : List (List V)) (xs : List Value), v = .sl es l .full ∧ (Instr.buildSlice t n reals.toArray).run P w = .ok (.slice (some ⟨w.heap.size, 0, none⟩) n n) (w.alloc (.cells xs.toArray e)) ∧ 0 < es ∧
        l.length = n ∧ (∀ (i : Nat) (e : List V), l[i]? = some e → e.length = es) ∧ RelL S w l.flatten xs ∧ ∀ x ∈ xs, x.oneCell' = true
    | .ok _ => False
    | .bad => True := by
  unfold buildSliceQ at hq
  split at hq
  · rename_i e hu
    split at hq
    · rename_i z s hz hs hd
      split at hq
      · rename_i l c hq'
        subst hq
        intro hc
        have hq := hq'
        have hs : P.cellsOf e = s + 1 := hs
        simp only [Bool.and_eq_true, decide_eq_true_eq, beq_iff_eq] at hd
        obtain ⟨zv, hrun, hzr, _, hzl, ho⟩ := run_zeroValue (w := w) S hz
        have hidx : reals.map (·.1) = List.range n := by
          rw [← hd.2]
          apply List.ext_getElem?
          intro i
          by_cases hi : i < parts.length
          · have hi' : i < reals.length := by omega
            have := (hr i parts[i] reals[i] (List.getElem?_eq_getElem hi) (List.getElem?_eq_getElem hi')).1
            simp [hi, hi', this]
          · simp [hi, show ¬ i < reals.length by omega]
        have hn : reals.length = n := by have := congrArg List.length hidx; simpa using this
        obtain ⟨b1, b2, b3, b4⟩ := elems_sound (S := S) (w := w) (lm := lm) (s + 1) (parts.map (·.2)) (reals.map (·.2)) l c (by simp [hl]) (fun i v x hv hx => by
          simp only [List.getElem?_map, Option.map_eq_some_iff] at hv hx
          obtain ⟨p, hp, rfl⟩ := hv
          obtain ⟨r, hr', rfl⟩ := hx
          exact (hr i p r hp hr').2) hq hc
        have hln : l.length = n := by rw [b1]; simp; omega
        let z0 : Array Value := (Array.range (n * (s + 1))).map (fun i => (if n * (s + 1) = 0 then #[] else zv.cells)[i % (if n * (s + 1) = 0 then #[] else zv.cells).size]!)
        have hz0 : z0.size = n * (s + 1) := by simp [z0]
        obtain ⟨cells', hf, hcl⟩ := fill_all (s + 1) (reals.map (·.2)) 0 z0 (fun x hx => (b4 x hx).1) (by simp [hn, hz0])
        rw [← parts_zip hidx] at hf
        have hcl' : cells'.toList = (reals.map (·.2)).flatMap fun x => x.cells.toList := by
          rw [hcl]
          simp [hn, hz0]
        have hce : cells' = ((reals.map (·.2)).flatMap fun x => x.cells.toList).toArray := by rw [← hcl']
        refine ⟨e, s + 1, l, (reals.map (·.2)).flatMap fun x => x.cells.toList, rfl, ?_, by omega, hln, b2, b3, fun x hx => by obtain ⟨y, hy, hx⟩ := List.mem_flatMap.1 hx; exact (b4 y hy).2 x hx⟩
        rw [← hce]
        · simp only [Instr.buildSlice, Sem.run_bind, run_underlying' hu, Result.andThen_ok, run_sizeOf' ho, hs]
          rw [if_neg (by have := hd.1; rw [hs] at this; simp; omega)]
          rw [Sem.run_ite]
          have hfin : ∀ zz : Array Value, (if n * (s + 1) = 0 then #[] else zv.cells) = zz →
              (Sem.run P (match Instr.fill (fun i => some (i * (s + 1), s + 1)) (Array.map (fun x => zz[x % zz.size]!) (Array.range (n * (s + 1)))) reals with
                | some cells => do
                  let a ← newRow e cells
                  pure (Value.slice (some a) n n)
                | x => stuck "buildSlice: a part of the wrong size") w) = .ok (.slice (some ⟨w.heap.size, 0, none⟩) n n) (w.alloc (.cells cells' e)) := by
            rintro zz rfl
            have : Instr.fill (fun i => some (i * (s + 1), s + 1)) (Array.map (fun x => (if n * (s + 1) = 0 then #[] else zv.cells)[x % (if n * (s + 1) = 0 then #[] else zv.cells).size]!) (Array.range (n * (s + 1)))) reals = some cells' := hf
            rw [this]
            rfl
          by_cases h0 : n * (s + 1) = 0
          · rw [if_pos h0]
            simp only [Sem.run_bind, Sem.run_pure, Result.andThen_ok]
            exact hfin _ (if_pos h0)
          · rw [if_neg h0]
            simp only [Sem.run_bind, Sem.run_pure, hrun, Result.andThen_ok]
            exact hfin _ (if_neg h0)
      · subst hq; exact True.intro
    · subst hq; exact True.intro
  · subst hq; exact True.intro

theorem buildSlice_sound {h : Heap} (H : HR S w h) (t : TypeId) (n : Nat) (parts : List (Nat × V)) (reals : List (Nat × Value)) (hl : reals.length = parts.length)
    (hr : ∀ (i : Nat) (p : Nat × V) (r : Nat × Value), parts[i]? = some p → reals[i]? = some r → r.1 = p.1 ∧ TmRel S w lm p.2 r.2) :
    Snd S w lm ((Instr.buildSlice t n reals.toArray).run P w) (buildSliceQ P t n parts) := by
  cases hq : buildSliceQ P t n parts with
  | bad => exact True.intro
  | ok v => exact (buildSlice_run (S := S) (w := w) (lm := lm) t n parts reals hl hr hq).elim
  | chk c v =>
    have h := buildSlice_run (S := S) (w := w) (lm := lm) t n parts reals hl hr hq
    intro hc
    obtain ⟨e, es, l, xs, rfl, hrun, hes, hln, b2, b3, b4⟩ := h hc
    refine ⟨_, _, hrun, (Below.refl _ _).alloc (Nat.le_refl _) _, ?_⟩
    have := new_slice H e es hes l xs [] n .full b2 b3 b4 (by omega) (fun S' => by simp [Claim, hln])
    rw [hln] at this
    simpa using TmRel.of_rel (lm := lm) this
end
end Jb
end

section
/- Conversions; parts of slices; maps. -/
namespace Jb
open Go Go.RowKit

section
variable {P : Program} {S : Sim} {w : World} {lm : Nat → Option Nat}

def KeptRow (S : Sim) (w : World) (rb o : Nat) (xs : List Value) : Prop := ∀ (i : Nat) (y : Value), xs[i]? = some y → Keeps S w rb (o + i) y

theorem block_slice {es : Nat} {l : List (List V)} {g : G} {rb o cap : Nat} {xs : List Value} (hes : 0 < es) (hlen : ∀ (i : Nat) (e : List V), l[i]? = some e → e.length = es) (hcap : l.length ≤ cap)
    (hg : Claim S g l.length rb o cap) (hk : KeptRow S w rb o xs) (hr : RelL S w l.flatten xs) : Rel S w (.sl es l g) (.slice (some ⟨rb, o, none⟩) l.length cap) := by
  have hx : ∀ (i : Nat) (e : List V), l[i]? = some e → ∀ (j : Nat) (c : V), e[j]? = some c → ∃ y, xs[i * es + j]? = some y ∧ Rel S w c y := by
    intro i e he j c hc
    have hj : j < es := by have := (List.getElem?_eq_some_iff.1 hc).1; have := hlen i e he; omega
    have h1 := flatten_getElem es l i j e hlen he hj
    rw [hc] at h1
    have hlt := (List.getElem?_eq_some_iff.1 h1).1
    rw [← hr.1] at hlt
    exact ⟨xs[i * es + j], List.getElem?_eq_getElem hlt, hr.2 _ _ _ h1 (List.getElem?_eq_getElem hlt)⟩
  refine .sl es l g rb o cap (fun i j => xs.getD (i * es + j) Go.undef) hes hcap hg hlen ?_ ?_
  · intro i e he j c hc
    obtain ⟨y, hy, _⟩ := hx i e he j c hc
    have : xs.getD (i * es + j) Go.undef = y := by simp [List.getD, hy]
    rw [this]
    have := hk _ y hy
    rwa [← Nat.add_assoc] at this
  · intro i e he j c hc
    obtain ⟨y, hy, hrel⟩ := hx i e he j c hc
    have : xs.getD (i * es + j) Go.undef = y := by simp [List.getD, hy]
    rw [this]
    exact hrel

theorem slice_parts {es : Nat} {l : List (List V)} {g : G} {x : Value} (hv : Rel S w (.sl es l g) x) :
    (l = [] ∧ (∃ b, x = .slice b 0 0) ∧ ∀ s, g ≠ .own s) ∨
    ∃ rb o cap xs, x = .slice (some ⟨rb, o, none⟩) l.length cap ∧ 0 < es ∧ l.length ≤ cap ∧ Claim S g l.length rb o cap ∧ (∀ (i : Nat) (e : List V), l[i]? = some e → e.length = es) ∧
      KeptRow S w rb o xs ∧ RelL S w l.flatten xs := by
  cases hv with
  | slnil _ _ hg => exact .inl ⟨rfl, ⟨_, rfl⟩, hg⟩
  | sl _ _ _ rb o cap f hes hcap hg hlen hk hr =>
    refine .inr ⟨rb, o, cap, (List.range (l.length * es)).map (fun k => f (k / es) (k % es)), rfl, hes, hcap, hg, hlen, ?_, ?_, ?_⟩
    · intro i y hy
      simp only [List.getElem?_map, Option.map_eq_some_iff] at hy
      obtain ⟨k, hk0, rfl⟩ := hy
      obtain ⟨hlt, hk1⟩ := List.getElem?_eq_some_iff.1 hk0
      simp at hlt hk1
      subst hk1
      have hi : i / es < l.length := Nat.div_lt_of_lt_mul (by rw [Nat.mul_comm]; exact hlt)
      have he : l[i / es]? = some l[i / es] := List.getElem?_eq_getElem hi
      have hj : i % es < (l[i / es]).length := by rw [hlen _ _ he]; exact Nat.mod_lt _ hes
      have := hk _ _ he _ _ (List.getElem?_eq_getElem hj)
      rwa [show o + i / es * es + i % es = o + i from by have := Nat.div_add_mod i es; rw [Nat.mul_comm] at this; omega] at this
    · rw [flatten_length es l hlen]; simp
    · intro i v y hv hy
      simp only [List.getElem?_map, Option.map_eq_some_iff] at hy
      obtain ⟨k, hk0, rfl⟩ := hy
      obtain ⟨hlt, hk1⟩ := List.getElem?_eq_some_iff.1 hk0
      simp at hlt hk1
      subst hk1
      have hi : i / es < l.length := Nat.div_lt_of_lt_mul (by rw [Nat.mul_comm]; exact hlt)
      have he : l[i / es]? = some l[i / es] := List.getElem?_eq_getElem hi
      have hj : i % es < (l[i / es]).length := by rw [hlen _ _ he]; exact Nat.mod_lt _ hes
      have h1 := flatten_getElem es l (i / es) (i % es) _ hlen he (Nat.mod_lt _ hes)
      rw [show i / es * es + i % es = i from by have := Nat.div_add_mod i es; rw [Nat.mul_comm] at this; omega, hv] at h1
      exact hr _ _ he _ _ h1.symm

theorem kept_load {rb o : Nat} {xs : List Value} (hk : KeptRow S w rb o xs) (n : Nat) (hn : n = xs.length) : (loadCells ⟨rb, o, none⟩ n).run P w = .ok xs.toArray w := by
  subst hn
  exact run_loadCells_list (P := P) w _ xs (fun j v hv => by rw [add_none]; exact (hk j v hv).2.1)

theorem kept_one {rb o : Nat} {xs : List Value} (hk : KeptRow S w rb o xs) : ∀ x ∈ xs, x.oneCell' = true := by
  intro x hx
  obtain ⟨i, hi, rfl⟩ := List.getElem_of_mem hx
  exact (hk i _ (List.getElem?_eq_getElem hi)).2.2

theorem elems_at {o : Nat} {rb : Nat} {cs : List V} (h : At S w rb o cs) {off n : Nat} (hn : off + n ≤ cs.length) :
    ∃ xs : List Value, (loadCells ⟨rb, o + off, none⟩ n).run P w = .ok xs.toArray w ∧ RelL S w ((cs.drop off).take n) xs := by
  obtain ⟨xs, h1, h2, _⟩ := h.loaded hn P
  exact ⟨xs, h1, h2⟩

theorem chunks_one : ∀ (n : Nat) (cs : List V), n ≤ cs.length → chunks 1 n cs = (cs.take n).map fun c => [c]
  | 0, _, _ => by simp [chunks]
  | n + 1, [], h => by simp at h
  | n + 1, c :: cs, h => by
    simp only [chunks, List.take_succ_cons, List.map_cons]
    rw [show List.drop 1 (c :: cs) = cs from rfl, chunks_one n cs (by simpa using h)]
    simp

theorem bytes_of {cs : List V} {xs : List Value} (hr : RelL S w cs xs) (hb : (cs.map fun c => [c]).all isByte = true) :
    ∃ ns : List Int, xs = ns.map (Value.int .u8) ∧ cs.map (fun c => byteOf [c]) = ns.map fun n => UInt8.ofNat n.toNat := by
  induction cs generalizing xs with
  | nil =>
    have : xs = [] := List.length_eq_zero_iff.1 (by simpa using hr.1)
    subst this
    exact ⟨[], rfl, rfl⟩
  | cons c cs ih =>
    cases xs with
    | nil => have := hr.1; simp at this
    | cons x xs =>
      have h1 := hr.2 0 c x rfl rfl
      have h2 : RelL S w cs xs := ⟨by simpa using hr.1, fun i v y hv hy => hr.2 (i + 1) v y (by simpa using hv) (by simpa using hy)⟩
      simp only [List.map_cons, List.all_cons, Bool.and_eq_true] at hb
      obtain ⟨ns, rfl, e⟩ := ih h2 hb.2
      have hb1 := hb.1
      cases c <;> simp only [isByte] at hb1 <;> try cases hb1
      rename_i k n
      have hk : k = .u8 := by cases k <;> first | rfl | cases hb1
      subst hk
      cases h1
      exact ⟨n :: ns, rfl, by rw [List.map_cons, e, List.map_cons]; rfl⟩

theorem push_all : ∀ (ns : List Int) (s : ByteArray), ns.foldl (fun r n => r.push (UInt8.ofNat n.toNat)) s = ⟨s.data ++ (ns.map fun n => UInt8.ofNat n.toNat).toArray⟩
  | [], s => by simp
  | n :: ns, s => by
    rw [List.foldl_cons, push_all ns]
    simp [ByteArray.push]

theorem text_run {a : Addr} {len cap : Nat} {cs : List V} {xs : List Value} (hl : (loadCells a len).run P w = .ok xs.toArray w) (hr : RelL S w cs xs) (hb : (cs.map fun c => [c]).all isByte = true) :
    (Conv.bytesToString (.slice (some a) len cap)).run P w = .ok (.string (textOf (cs.map fun c => [c]))) w := by
  obtain ⟨ns, rfl, e⟩ := bytes_of hr hb
  rw [run_bytesToString w a len cap ns hl, push_all]
  simp [textOf, e, Function.comp_def]

theorem zeroIsByte_some {e : TypeId} (h : zeroIsByte P e = true) : P.underlying e = some (.int .u8) := by
  unfold zeroIsByte at h
  split at h
  · rename_i k hk
    rw [hk]
    cases k <;> first | rfl | cases h
  · cases h

theorem ones_map : ∀ (l : List (List V)), (∀ (i : Nat) (e : List V), l[i]? = some e → e.length = 1) → l = (l.flatten).map fun c => [c]
  | [], _ => rfl
  | e :: l, h => by
    have h1 : e.length = 1 := h 0 e rfl
    have h2 := ones_map l fun i e hi => h (i + 1) e (by simpa using hi)
    match e, h1 with
    | [c], _ => simpa using h2

theorem stringBytes_below (e : TypeId) (s : ByteArray) : Below w.heap.size w (Lib.bytesWorld w e s) := by
  refine ⟨rfl, rfl, rfl, by rw [Lib.bytesWorld_size]; omega, fun k hk => Lib.bytesWorld_at_old w e s k hk⟩

theorem conv_sound {h : Heap} (H : HR S w h) (s d : TypeId) {v : V} {x : Value} (hv : TmRel S w lm v x) : Snd S w lm ((convert s d x).run P w) (convQ P h s d v) := by
  unfold convQ
  split
  · rename_i h1 h2 
    rename_i ds k k0 n
    cases (show Rel S w (.int k0 n) x from hv)
    refine .same ?_ (Rel.int k (k.wrap n))
    simp only [convert, Sem.run_bind, run_underlying' h1, run_underlying' h2, Result.andThen_ok]
    rfl
  · rename_i e es l g h1 h2
    split
    case h_2 => exact True.intro
    rename_i hz
    have he := zeroIsByte_some hz
    intro hb
    rcases slice_parts (show Rel S w (.sl 1 l g) x from hv) with ⟨rfl, ⟨b0, rfl⟩, _⟩ | ⟨rb, o, cap, xs, rfl, _, _, _, hlen, hk, hr⟩
    · refine .same (x := .string (textOf [])) ?_ (Rel.str _)
      rw [run_convert_bytes_string w s d e b0 0 0 h1 he h2]
      cases b0 with
      | none => rfl
      | some b0 => exact text_run (S := S) (cs := []) (xs := []) (by simp [loadCells, loadCellsFrom]) .nil rfl
    · have hl := ones_map l hlen
      have hxl : l.length = xs.length := by rw [hr.1, flatten_length 1 l hlen]; omega
      refine .same (x := .string (textOf l)) ?_ (Rel.str _)
      rw [run_convert_bytes_string w s d e _ _ _ h1 he h2]
      have := text_run (P := P) (len := l.length) (cap := cap) (kept_load (P := P) hk l.length hxl) hr (by rw [← hl]; exact hb)
      rw [this, ← hl]
  · rename_i e es l off n c h1 h2
    split
    case h_2 => exact True.intro
    rename_i hz
    have he := zeroIsByte_some hz
    rintro ⟨hn, hb⟩
    by_cases hn0 : n = 0
    · subst hn0
      have e : ∃ b, x = .slice b 0 c := by cases (show Rel S w (.sref 1 l off 0 c) x from hv) <;> exact ⟨_, rfl⟩
      obtain ⟨b, rfl⟩ := e
      refine .same (x := .string (textOf [])) ?_ (Rel.str _)
      rw [run_convert_bytes_string w s d _ _ _ _ h1 he h2]
      cases b with
      | none => rfl
      | some b => exact text_run (S := S) (cs := []) (xs := []) (by simp [loadCells, loadCellsFrom]) .nil rfl
    have hn := hn.resolve_left hn0
    rw [chunks_one n _ (by simp; omega)] at hb ⊢
    cases (show Rel S w (.sref 1 l off n c) x from hv) with
    | sref =>
      refine .same ?_ (Rel.str _)
      rw [run_convert_bytes_string w s d e _ _ _ h1 he h2]
      obtain ⟨xs, g1, g2⟩ := elems_at (P := P) (H.at l) hn
      rw [Nat.zero_add] at g1
      exact text_run g1 g2 hb
    | srefnil _ _ _ b => exact (hn0 rfl).elim
  · rename_i e s' h1 h2
    split
    case h_2 => exact True.intro
    rename_i hz
    have he := zeroIsByte_some hz
    cases (show Rel S w (.str s') x from hv)
    refine ⟨_, _, Lib.run_convert_string_bytes w s d e s' h1 h2 he, stringBytes_below e s', ?_⟩
    have hB := stringBytes_below (w := w) e s'
    have hlen : (bytesOf s').length = s'.size := by simp [bytesOf]
    have hflat : (bytesOf s').flatten = s'.data.toList.map fun b => V.int .u8 b.toNat := by
      unfold bytesOf
      induction s'.data.toList with
      | nil => rfl
      | cons b r ih => simp [ih]
    have hs : (bytesOf s').length = s'.size := hlen
    have := block_slice (S := S) (w := Lib.bytesWorld w e s') (es := 1) (l := bytesOf s') (g := .no) (rb := w.heap.size) (o := 0) (cap := grownCap w s'.size 0 e)
      (xs := s'.data.toList.map fun b => Value.int .u8 b.toNat) (by omega)
      (by
        intro i c hc
        simp only [bytesOf, List.getElem?_map, Option.map_eq_some_iff] at hc
        obtain ⟨b, _, rfl⟩ := hc
        rfl)
      (by rw [hlen]; exact grownCap_ge _ _ _ _)
      trivial
      (by
        intro i y hy
        simp only [List.getElem?_map, Option.map_eq_some_iff] at hy
        obtain ⟨b, hb, rfl⟩ := hy
        have hi : i < s'.size := (List.getElem?_eq_some_iff.1 hb).1
        refine ⟨?_, ?_, rfl⟩
        · unfold Sim.stable
          rw [(H.fresh w.heap.size (Nat.le_refl _)).1]
          trivial
        · rw [Nat.zero_add, Lib.bytesWorld_cell w e s' i hi]
          simp [List.getD, hb])
      (by
        rw [hflat]
        refine ⟨by simp, fun i v y hv hy => ?_⟩
        simp only [List.getElem?_map, Option.map_eq_some_iff] at hv hy
        obtain ⟨b, hb, rfl⟩ := hv
        obtain ⟨b', hb', rfl⟩ := hy
        rw [hb] at hb'; cases hb'
        exact .int _ _)
    rw [hlen] at this
    exact this
  · exact True.intro

theorem keyEq_sound {k v : V} {x y : Value} {d : TypeDesc} {b : Bool} (hk : Rel S w k x) (hv : Rel S w v y) (hb : keyEq k v = some b) (hd : fitK d k = true) : Instr.sameNow d x y = some b := by
  cases k <;> cases v <;> simp only [keyEq] at hb <;> try cases hb
  all_goals (cases hk; cases hv; cases d <;> simp only [fitK] at hd <;> try cases hd)
  all_goals first
    | rfl
    | (split at hb
       · rename_i he
         have := kindEq_eq he
         subst this
         cases hb
         simp [Instr.sameNow]
       · cases hb)

theorem find_sound {k : V} {x : Value} {d : TypeDesc} (hk : Rel S w k x) (hd : fitK d k = true) :
    ∀ (es : List (V × V)) (ents : List MapEntry) (i : Nat) (r : Option V), ents.length = es.length →
      (∀ (j : Nat) (a b : V) (e : MapEntry), es[j]? = some (a, b) → ents[j]? = some e → Rel S w a e.key ∧ Rel S w b e.val) → findV k es = some r →
      (match r with | none => Instr.findNow d x ents i = some none | some v => ∃ j y, Instr.findNow d x ents i = some (some (j, y)) ∧ Rel S w v y)
  | [], ents, i, r, hl, _, hf => by
    have : ents = [] := List.length_eq_zero_iff.1 hl
    subst this
    simp only [findV] at hf
    cases hf
    rfl
  | (a, b) :: es, ents, i, r, hl, hr, hf => by
    cases ents with
    | nil => simp at hl
    | cons e ents =>
      have h0 := hr 0 a b e rfl rfl
      simp only [findV] at hf
      split at hf
      · rename_i he
        cases hf
        have := keyEq_sound hk h0.1 he hd
        exact ⟨i, e.val, by rw [Instr.findNow, this], h0.2⟩
      · rename_i he
        have := find_sound hk hd es ents (i + 1) r (by simpa using hl) (fun j a b e h1 h2 => hr (j + 1) a b e (by simpa using h1) (by simpa using h2)) hf
        rw [Instr.findNow, keyEq_sound hk h0.1 he hd]
        exact this
      · cases hf

theorem keyT_some {t : TypeId} {k : V} (h : keyT P t k = true) : ∃ d, P.underlying t = some d ∧ fitK d k = true := by
  unfold keyT at h
  split at h
  · exact ⟨_, by assumption, h⟩
  · cases h

theorem run_checkKey {t : TypeId} {k : V} {x : Value} (b : Bool) (h : keyT P t k = true) : (Instr.checkKey b 10000 t x).run P w = .ok () w := by
  obtain ⟨d, hu, hd⟩ := keyT_some h
  show (Instr.checkKey b (9999 + 1) t x).run P w = .ok () w
  unfold Instr.checkKey
  simp only [Sem.run_bind, run_underlying' hu, Result.andThen_ok]
  cases d <;> first | rfl | cases hd

theorem zeroVal_run {t : TypeId} {v : V} (h : zeroVal P t = some v) : ∃ z, (zeroValue t).run P w = .ok z w ∧ Rel S w v z := by
  unfold zeroVal at h
  split at h
  · rename_i cs i hz hi
    obtain ⟨i', z, hi', hz', hr, h1, _⟩ := zeroV_some (S := S) (w := w) hz
    rw [hi] at hi'
    cases hi'
    have hrun : (zeroValue t).run P w = .ok z w := by simp [zeroValue, typeInfo, hi, hz']
    refine ⟨z, hrun, ?_⟩
    rw [hz'] at h
    cases z with
    | agg c =>
      simp only at h
      cases h
      exact .agg _ _ hr.1 h1 hr.2
    | _ =>
      cases cs with
      | nil => simp at h
      | cons u r => cases r with
        | nil => simp only at h; cases h; exact hr.2 0 v _ rfl rfl
        | cons _ _ => simp at h
  · cases h

theorem lookup_sound {h : Heap} (H : HR S w h) (t : TypeId) (ok : Bool) {v i : V} {x y : Value} (hv : TmRel S w lm v x) (hi : TmRel S w lm i y) : Snd S w lm ((Instr.lookup t x y ok).run P w) (lookupQ P h t v i ok) := by
  unfold lookupQ
  split
  case h_2 => exact True.intro
  rename_i kt e hu
  split
  case h_2 => exact True.intro
  rename_i es hkt hm
  obtain ⟨d, hud, hd⟩ := keyT_some hkt
  have hir : Rel S w i y := by
    cases i <;> first | exact hi | (cases d <;> simp [fitK] at hd)
  -- the entries
  have hent : ∃ ents : Array MapEntry, ents.size = es.length ∧ (∀ (j : Nat) (a b : V) (e : MapEntry), es[j]? = some (a, b) → ents.toList[j]? = some e → Rel S w a e.key ∧ Rel S w b e.val) ∧
      (x = .map none ∧ ents = #[] ∨ ∃ r clock, x = .map (some r) ∧ w.heap[r]? = some (.map ents clock)) := by
    cases v <;> simp only [mapAt] at hm <;> try cases hm
    rename_i r
    cases (show Rel S w (.map r) x from hv)
    cases r with
    | none => cases hm; exact ⟨#[], rfl, fun j a b e h => by simp at h, .inl ⟨rfl, rfl⟩⟩
    | some r =>
      simp only at hm
      split at hm
      · rename_i es' hh
        cases hm
        obtain ⟨_, o, ho, ents, clock, rfl, hs, hr⟩ := H.obs r _ hh
        exact ⟨ents, hs, fun j a b e h1 h2 => hr j a b e h1 (by rw [← Array.getElem?_toList]; exact h2), .inr ⟨r, clock, rfl, ho⟩⟩
      · cases hm
  obtain ⟨ents, hs, hr, hx⟩ := hent
  have hlen : ents.toList.length = es.length := by simpa using hs
  have hrun : ∀ (q : Option (Nat × Value)) (z : Value), Instr.findNow d y ents.toList 0 = some q → (q = none → (zeroValue e).run P w = .ok z w) → (∀ j u, q = some (j, u) → u = z) →
      (Instr.lookup t x y ok).run P w = .ok (if ok then .tuple #[z, .bool q.isSome] else z) w := by
    intro q z hq hz0 hz1
    rcases hx with ⟨rfl, rfl⟩ | ⟨r, clock, rfl, ho⟩
    · simp only [Instr.lookup, Sem.run_bind, run_underlying' hu, Result.andThen_ok, Sem.run_pure, run_checkKey _ hkt, Instr.findKey, run_underlying' hud, hq]
      cases q with
      | none => simp [hz0 rfl]
      | some p => obtain ⟨j, u⟩ := p; have := hz1 j u rfl; subst this; cases ok <;> rfl
    · simp only [Instr.lookup, Sem.run_bind, run_underlying' hu, Result.andThen_ok, Sem.run_pure, MapKept.run_getObj_map ho, run_checkKey _ hkt, Instr.findKey, run_underlying' hud, hq]
      cases q with
      | none => simp [hz0 rfl]
      | some p => obtain ⟨j, u⟩ := p; have := hz1 j u rfl; subst this; cases ok <;> rfl
  split
  · rename_i u hf
    obtain ⟨j, z, h1, h2⟩ := find_sound (d := d) hir hd es ents.toList 0 (some u) hlen hr hf
    intro hp
    rw [deLp_same hp]
    refine .same (hrun (some (j, z)) z h1 (fun h => by cases h) (fun j' u' h => by cases h; rfl)) ?_
    cases ok
    · exact .of_rel h2
    · exact .of_rel (.tup _ [z, .bool true] rfl (RelL.cons h2 (.cons (.bool _) .nil)).2)
  · rename_i z hf hz
    have h1 := find_sound (d := d) hir hd es ents.toList 0 none hlen hr hf
    obtain ⟨zz, hz1, hz2⟩ := zeroVal_run (S := S) (w := w) hz
    intro hp
    rw [deLp_same hp]
    refine .same (hrun none zz h1 (fun _ => hz1) (fun j' u' h => by cases h)) ?_
    cases ok
    · exact .of_rel hz2
    · exact .of_rel (.tup _ [zz, .bool false] rfl (RelL.cons hz2 (.cons (.bool _) .nil)).2)
  · exact True.intro
end
end Jb
end

section
/- Quiet operations all together, as they are carried out. -/
namespace Jb
open Go Go.RowKit

def YieldsN (S : Sim) (w : World) (lm : Nat → Option Nat) (r : Result Next) (v : V) : Prop :=
  ∃ x w', r = .ok (.value x) w' ∧ Below w.heap.size w w' ∧ TmRel S w' lm v x

def SndN (S : Sim) (w : World) (lm : Nat → Option Nat) (r : Result Next) : Q → Prop
  | .ok v => YieldsN S w lm r v
  | .chk c v => c → YieldsN S w lm r v
  | .bad => True

section
variable {P : Program} {S : Sim} {w : World} {lm : Nat → Option Nat}

theorem Snd.next {s : Sem Value} {q : Q} (h : Snd S w lm (s.run P w) q) : SndN S w lm ((do pure (Next.value (← s)) : Sem Next).run P w) q := by
  have key : ∀ v, Yields S w lm (s.run P w) v → YieldsN S w lm ((do pure (Next.value (← s)) : Sem Next).run P w) v := by
    rintro v ⟨x, w', hr, hb, hv⟩
    exact ⟨x, w', by simp [hr], hb, hv⟩
  cases q with
  | ok v => exact key v h
  | chk c v => exact fun hc => key v (h hc)
  | bad => exact True.intro

theorem bnd_rel {v : Option V} {x : Option Value} {d n : Int} (h : bndI v d = some n) (hr : ∀ u, v = some u → ∃ y, x = some y ∧ TmRel S w lm u y) (hn : v = none → x = none) :
    (v = none ∧ x = none ∧ n = d) ∨ ∃ k, x = some (.int k n) ∧ v ≠ none := by
  unfold bndI at h
  split at h
  · cases h; exact .inl ⟨rfl, hn rfl, rfl⟩
  · rename_i k m
    cases h
    obtain ⟨y, hy, hv⟩ := hr _ rfl
    cases (show Rel S w (.int k n) y from hv)
    exact .inr ⟨k, hy, by simp⟩
  · cases h

theorem run_bound (k : IntKind) (n : Int) (y : Nat) (code : BoundsCode) (h : 0 ≤ n ∧ n ≤ y) : (Instr.sliceBound (.int k n) y code).run P w = .ok n.toNat w := by
  simp [Instr.sliceBound, asIntOf_int, h]

theorem sub_slice {es : Nat} {l : List (List V)} {g : G} {rb o : Nat} (hes : 0 < es)
    (xs : Nat → Nat → Value) (hlen : ∀ (i : Nat) (e : List V), l[i]? = some e → e.length = es)
    (hk : ∀ (i : Nat) (e : List V), l[i]? = some e → ∀ (j : Nat) (c : V), e[j]? = some c → Keeps S w rb (o + i * es + j) (xs i j))
    (hr : ∀ (i : Nat) (e : List V), l[i]? = some e → ∀ (j : Nat) (c : V), e[j]? = some c → Rel S w c (xs i j))
    (a b m : Nat) (hab : a ≤ b) (hb : b ≤ l.length) (hbm : b ≤ m) (ofs : Nat) (hofs : a < b → ofs = a) (hg : ∀ o', Claim S g (b - a) rb o' (m - a)) :
    Rel S w (.sl es ((l.take b).drop a) g) (.slice (some ⟨rb, o + ofs * es, none⟩) (b - a) (m - a)) := by
  have hl : ((l.take b).drop a).length = b - a := by simp; omega
  have hget : ∀ (i : Nat) (e : List V), ((l.take b).drop a)[i]? = some e → l[a + i]? = some e ∧ a < b := by
    intro i e h
    rw [List.getElem?_drop, List.getElem?_take] at h
    split at h
    · exact ⟨h, by omega⟩
    · cases h
  have := Rel.sl (S := S) (w := w) es ((l.take b).drop a) g rb (o + ofs * es) (m - a) (fun i j => xs (a + i) j) hes (by rw [hl]; omega) (by rw [hl]; exact hg _)
    (fun i e h => hlen _ e (hget i e h).1)
    (fun i e h j c hc => by
      obtain ⟨h1, h2⟩ := hget i e h
      have := hk _ e h1 j c hc
      rw [hofs h2]
      rwa [show o + a * es + i * es + j = o + (a + i) * es + j from by rw [Nat.add_mul]; omega])
    (fun i e h j c hc => hr _ e (hget i e h).1 j c hc)
  rw [hl] at this
  exact this

theorem bounds_run (isS : Bool) (len cap : Nat) {lo hi mx : Option V} {lo' hi' mx' : Option Value} {a b c : Int}
    (hlo : ∀ u, lo = some u → ∃ y, lo' = some y ∧ TmRel S w lm u y) (hlo0 : lo = none → lo' = none)
    (hhi : ∀ u, hi = some u → ∃ y, hi' = some y ∧ TmRel S w lm u y) (hhi0 : hi = none → hi' = none)
    (hmx : ∀ u, mx = some u → ∃ y, mx' = some y ∧ TmRel S w lm u y) (hmx0 : mx = none → mx' = none)
    (ha : bndI lo 0 = some a) (hb : bndI hi len = some b) (hc : bndI mx cap = some c) (hm : mx ≠ none → hi ≠ none)
    (h1 : 0 ≤ a) (h2 : a ≤ b) (h3 : b ≤ c) (h4 : c ≤ cap) :
    (Instr.sliceBounds isS len cap lo' hi' mx').run P w = .ok (a.toNat, b.toNat, c.toNat) w := by
  rcases bnd_rel hc hmx hmx0 with ⟨h, rfl, hc'⟩ | ⟨km, rfl, hmn⟩
  · subst hc'
    rcases bnd_rel hb hhi hhi0 with ⟨_, rfl, hb'⟩ | ⟨k, rfl, _⟩
    · subst hb'
      rcases bnd_rel ha hlo hlo0 with ⟨_, rfl, ha'⟩ | ⟨k', rfl, _⟩
      · subst ha'; simp [Instr.sliceBounds]
      · simp [Instr.sliceBounds, run_bound k' a len .sliceB ⟨h1, by omega⟩]
    · have hB := fun code => run_bound (P := P) (w := w) k b cap code ⟨by omega, by omega⟩
      rcases bnd_rel ha hlo hlo0 with ⟨_, rfl, ha'⟩ | ⟨k', rfl, _⟩
      · subst ha'; cases isS <;> simp [Instr.sliceBounds, hB]
      · cases isS <;> simp [Instr.sliceBounds, hB, run_bound k' a b.toNat .sliceB ⟨h1, by omega⟩]
  · rcases bnd_rel hb hhi hhi0 with ⟨hn, _, _⟩ | ⟨k, rfl, _⟩
    · exact (hm hmn hn).elim
    · have hB := fun code => run_bound (P := P) (w := w) km c cap code ⟨by omega, by omega⟩
      have hB2 := fun code => run_bound (P := P) (w := w) k b c.toNat code ⟨by omega, by omega⟩
      rcases bnd_rel ha hlo hlo0 with ⟨_, rfl, ha'⟩ | ⟨k', rfl, _⟩
      · subst ha'; cases isS <;> simp [Instr.sliceBounds, hB, hB2]
      · cases isS <;> simp [Instr.sliceBounds, hB, hB2, run_bound k' a b.toNat .slice3C ⟨h1, by omega⟩]

theorem slice_sound (t : TypeId) {v : V} {x : Value} {lo hi mx : Option V} {lo' hi' mx' : Option Value} (hv : TmRel S w lm v x)
    (hlo : ∀ u, lo = some u → ∃ y, lo' = some y ∧ TmRel S w lm u y) (hlo0 : lo = none → lo' = none)
    (hhi : ∀ u, hi = some u → ∃ y, hi' = some y ∧ TmRel S w lm u y) (hhi0 : hi = none → hi' = none)
    (hmx : ∀ u, mx = some u → ∃ y, mx' = some y ∧ TmRel S w lm u y) (hmx0 : mx = none → mx' = none) :
    Snd S w lm ((Instr.sliceAt t x lo' hi' mx').run P w) (sliceQ P t v lo hi mx) := by
  generalize hq : sliceQ P t v lo hi mx = q
  unfold sliceQ at hq
  split at hq
  · rename_i e hu
    split at hq
    · rename_i es l g he
      split at hq
      · -- no max
        rename_i hes
        rw [beq_iff_eq] at hes
        subst hes
        split at hq
        · rename_i a b ha hb
          subst hq
          rintro ⟨h1, h2, h3⟩
          have hmx' := hmx0 rfl
          subst hmx'
          have hB : ∀ cap : Nat, l.length ≤ cap → (Instr.sliceBounds true l.length cap lo' hi' none).run P w = .ok (a.toNat, b.toNat, cap) w := by
            intro cap hcap
            rcases bnd_rel hb hhi hhi0 with ⟨_, rfl, hb'⟩ | ⟨k, rfl, _⟩
            · rcases bnd_rel ha hlo hlo0 with ⟨_, rfl, ha'⟩ | ⟨k', rfl, _⟩
              · subst ha'; subst hb'; simp [Instr.sliceBounds]
              · subst hb'; simp [Instr.sliceBounds, run_bound k' a l.length .sliceB ⟨h1, by omega⟩]
            · rcases bnd_rel ha hlo hlo0 with ⟨_, rfl, ha'⟩ | ⟨k', rfl, _⟩
              · subst ha'; simp [Instr.sliceBounds, run_bound k b cap .sliceAcap ⟨by omega, by omega⟩]
              · simp [Instr.sliceBounds, run_bound k b cap .sliceAcap ⟨by omega, by omega⟩, run_bound k' a b.toNat .sliceB ⟨h1, by omega⟩]
          cases (show Rel S w (.sl (P.cellsOf e) l g) x from hv) with
          | slnil _ _ hg b0 =>
            have ha0 : a.toNat = 0 := by simp at h3; omega
            have hb0 : b.toNat = 0 := by simp at h3; omega
            have hB := hB 0 (Nat.le_refl _)
            simp only [List.length_nil] at hB
            refine .same (x := .slice b0 0 0) ?_ ?_
            · simp [Instr.sliceAt, Instr.slice, run_underlying' hu, hB, run_sizeOf' he, ha0, hb0]
            · have := TmRel.of_rel (lm := lm) (Rel.slnil (S := S) (w := w) (P.cellsOf e) .no (by simp) b0); simpa using this
          | sl _ _ _ rb o cap xs hes hcap hg hlen hk hr =>
            refine .same (x := .slice (some ⟨rb, o + (if cap = a.toNat then 0 else a.toNat) * P.cellsOf e, none⟩) (b.toNat - a.toNat) (cap - a.toNat)) ?_ ?_
            · simp only [Instr.sliceAt, Instr.slice, Sem.run_bind, run_underlying' hu, Result.andThen_ok, hB cap hcap, run_sizeOf' he, Sem.run_pure]
              split
              · simp
              · simp [add_none]
            · exact TmRel.of_rel (sub_slice hes xs hlen hk hr a.toNat b.toNat cap (by omega) (by omega) (by omega) _ (fun h => if_neg (by omega)) (fun o' => True.intro))
        · subst hq; exact True.intro
      · -- a max
        rename_i m hes
        rw [beq_iff_eq] at hes
        subst hes
        split at hq
        · rename_i a b c ha hb hc
          subst hq
          rintro ⟨h1, h2, h3, h4⟩
          subst h4
          rcases bnd_rel hc hmx hmx0 with ⟨h, _, _⟩ | ⟨km, rfl, _⟩
          · cases h
          cases hi with
          | none => cases hb
          | some hv' =>
          rcases bnd_rel hb hhi hhi0 with ⟨hn, _, _⟩ | ⟨k, rfl, _⟩
          · cases hn
          · have hB : ∀ cap : Nat, l.length ≤ cap → (Instr.sliceBounds true l.length cap lo' (some (.int k c)) (some (.int km c))).run P w = .ok (a.toNat, c.toNat, c.toNat) w := by
              intro cap hcap
              rcases bnd_rel ha hlo hlo0 with ⟨_, rfl, ha'⟩ | ⟨k', rfl, _⟩
              · subst ha'; simp [Instr.sliceBounds, run_bound km c cap .slice3Acap ⟨by omega, by omega⟩, run_bound k c c.toNat .slice3B ⟨by omega, by omega⟩]
              · simp [Instr.sliceBounds, run_bound km c cap .slice3Acap ⟨by omega, by omega⟩, run_bound k c c.toNat .slice3B ⟨by omega, by omega⟩, run_bound k' a c.toNat .slice3C ⟨h1, by omega⟩]
            cases (show Rel S w (.sl (P.cellsOf e) l g) x from hv) with
            | slnil _ _ hg b0 =>
              have ha0 : a.toNat = 0 := by simp at h3; omega
              have hc0 : c.toNat = 0 := by simp at h3; omega
              have hB := hB 0 (Nat.le_refl _)
              simp only [List.length_nil] at hB
              refine .same (x := .slice b0 0 0) ?_ ?_
              · simp [Instr.sliceAt, Instr.slice, run_underlying' hu, hB, run_sizeOf' he, ha0, hc0]
              · have := TmRel.of_rel (lm := lm) (Rel.slnil (S := S) (w := w) (P.cellsOf e) .full (by simp) b0); simpa using this
            | sl _ _ _ rb o cap xs hes hcap hg hlen hk hr =>
              refine .same (x := .slice (some ⟨rb, o + (if c.toNat = a.toNat then 0 else a.toNat) * P.cellsOf e, none⟩) (c.toNat - a.toNat) (c.toNat - a.toNat)) ?_ ?_
              · simp only [Instr.sliceAt, Instr.slice, Sem.run_bind, run_underlying' hu, Result.andThen_ok, hB cap hcap, run_sizeOf' he, Sem.run_pure]
                split
                · simp
                · simp [add_none]
              · exact TmRel.of_rel (sub_slice hes xs hlen hk hr a.toNat c.toNat c.toNat (by omega) (by omega) (by omega) _ (fun h => if_neg (by omega)) (fun o' => rfl))
        · subst hq; exact True.intro
      · subst hq; exact True.intro
    · -- it may be written to
      rename_i es l off n cap he
      split at hq
      · rename_i hes
        rw [beq_iff_eq] at hes
        subst hes
        unfold sliceR at hq
        split at hq
        · rename_i a b c ha hb hc hm
          subst hq
          rintro ⟨h1, h2, h3, h4⟩
          have hm' : mx ≠ none → hi ≠ none := by
            intro e1 e2
            subst e2
            cases mx with
            | none => exact e1 rfl
            | some _ => simp at hm
          have hB := bounds_run (P := P) (S := S) (w := w) (lm := lm) true n cap hlo hlo0 hhi hhi0 hmx hmx0 ha hb hc hm' h1 h2 h3 h4
          have hrun : ∀ (ba : Option Addr), (Instr.sliceAt t (.slice ba n cap) lo' hi' mx').run P w =
              .ok (.slice (if c.toNat = a.toNat then ba else ba.map (·.add (a.toNat * P.cellsOf e))) (b.toNat - a.toNat) (c.toNat - a.toNat)) w := by
            intro ba
            simp only [Instr.sliceAt, Instr.slice, Sem.run_bind, run_underlying' hu, Result.andThen_ok, hB, run_sizeOf' he, Sem.run_pure]
          have e1 : (b - a).toNat = b.toNat - a.toNat := by omega
          have e2 : (c - a).toNat = c.toNat - a.toNat := by omega
          rw [e1, e2]
          cases (show Rel S w (.sref (P.cellsOf e) l off n cap) x from hv) with
          | sref _ _ _ _ _ hcap =>
            refine .same (hrun _) ?_
            by_cases hca : c.toNat = a.toNat
            · have : c = a := by omega
              subst this
              simp only [if_true, beq_self_eq_true]
              exact Rel.sref _ _ _ _ _ (by omega)
            · have : (c == a) = false := by simp; omega
              rw [if_neg hca, this]
              simp only [Option.map_some, add_none]
              exact Rel.sref _ _ _ _ _ (by omega)
          | srefnil _ _ _ ba =>
            have : a.toNat = 0 ∧ b.toNat = 0 ∧ c.toNat = 0 := by omega
            refine .same (hrun _) ?_
            rw [this.1, this.2.1, this.2.2]
            simp only [if_true]
            exact Rel.srefnil _ _ _ _
        · subst hq; exact True.intro
      · subst hq; exact True.intro
    · subst hq; exact True.intro
  · -- a text
    rename_i hu
    split at hq
    · rename_i s a ha
      split at hq
      · rename_i b hb
        subst hq
        rintro ⟨h1, h2, h3⟩
        cases (show Rel S w (.str s) x from hv)
        have hmx' := hmx0 rfl
        subst hmx'
        have hB := bounds_run (P := P) (S := S) (w := w) (lm := lm) (mx := none) (mx' := none) (c := s.size) false s.size s.size hlo hlo0 hhi hhi0 (fun u h => by cases h) (fun _ => rfl) ha hb rfl (fun h => (h rfl).elim) h1 h2 h3 (by omega)
        refine .same (x := .string (s.extract a.toNat b.toNat)) ?_ (Rel.str _)
        simp only [Instr.sliceAt, Instr.slice, Sem.run_bind, run_underlying' hu, Result.andThen_ok, hB, Sem.run_pure]
        simp [hB]
      · subst hq; exact True.intro
    · subst hq; exact True.intro
  · -- an array
    rename_i len e hu
    split at hq
    · rename_i l off he
      unfold sliceR at hq
      split at hq
      · rename_i a b c ha hb hc hm
        subst hq
        rintro ⟨h1, h2, h3, h4⟩
        have hm' : mx ≠ none → hi ≠ none := by
          intro e1 e2
          subst e2
          cases mx with
          | none => exact e1 rfl
          | some _ => simp at hm
        have hB := bounds_run (P := P) (S := S) (w := w) (lm := lm) false len len hlo hlo0 hhi hhi0 hmx hmx0 ha hb hc hm' h1 h2 h3 h4
        cases (show Rel S w (.ptr l off) x from hv)
        have e1 : (b - a).toNat = b.toNat - a.toNat := by omega
        have e2 : (c - a).toNat = c.toNat - a.toNat := by omega
        rw [e1, e2]
        refine .same (x := .slice (some (if c.toNat = a.toNat then ⟨l, off, none⟩ else Addr.add ⟨l, off, none⟩ (a.toNat * P.cellsOf e))) (b.toNat - a.toNat) (c.toNat - a.toNat)) ?_ ?_
        · simp only [Instr.sliceAt, Instr.sureAddr, Sem.run_bind, run_underlying' hu, Result.andThen_ok, hB, run_sizeOf' he, Sem.run_pure]
        · by_cases hca : c.toNat = a.toNat
          · have : c = a := by omega
            subst this
            simp only [if_true, beq_self_eq_true]
            exact Rel.sref _ _ _ _ _ (by omega)
          · have : (c == a) = false := by simp; omega
            rw [if_neg hca, this]
            simp only [add_none]
            exact Rel.sref _ _ _ _ _ (by omega)
      · subst hq; exact True.intro
    · subst hq; exact True.intro
  · subst hq; exact True.intro

theorem optNeed_iff (g : Option Bool) (v : V) (R : Prop) : optNeed g v R ↔ (∀ b u, v = .opt b u → (match g with | none => b = true | some c => (c = true → b = true))) ∧ R := by
  cases v <;> simp only [optNeed, reduceCtorEq, false_implies, implies_true, true_and]
  constructor
  · rintro ⟨h1, h2⟩
    exact ⟨fun b u e => by cases e; exact h1, h2⟩
  · rintro ⟨h1, h2⟩
    exact ⟨h1 _ _ rfl, h2⟩

theorem optNeeds_iff (g : Option Bool) : ∀ (vs : List V) (R : Prop), optNeeds g vs R ↔ (∀ v ∈ vs, ∀ b u, v = .opt b u → (match g with | none => b = true | some c => (c = true → b = true))) ∧ R
  | [], R => by simp [optNeeds]
  | v :: vs, R => by
    rw [optNeeds, optNeed_iff, optNeeds_iff g vs R, ← and_assoc]
    refine and_congr ⟨?_, ?_⟩ Iff.rfl
    · rintro ⟨h1, h2⟩ u hu
      rcases List.mem_cons.1 hu with rfl | hu
      · exact h1
      · exact h2 u hu
    · intro h
      exact ⟨h v (by simp), fun u hu => h u (by simp [hu])⟩

theorem strip_rel {v : V} {x : Value} (h : TmRel S w lm v x) (hb : ∀ b u, v = .opt b u → b = true) : TmRel S w lm v.strip x := by
  cases v <;> first | exact h.1 (hb _ _ rfl) | exact h

theorem map_rel (ρ : Operand → V) (ev : Operand → Value) (l : List Operand) (h : ∀ x ∈ l, TmRel S w lm (ρ x) (ev x)) :
    ∀ (i : Nat) (v : V) (x : Value), (l.map ρ)[i]? = some v → (l.map ev)[i]? = some x → TmRel S w lm v x := by
  intro i v x hv hx
  simp only [List.getElem?_map, Option.map_eq_some_iff] at hv hx
  obtain ⟨o, ho, rfl⟩ := hv
  obtain ⟨o', ho', rfl⟩ := hx
  rw [ho] at ho'
  cases ho'
  exact h o (List.mem_of_getElem? ho)

theorem relL_of_plain {vs : List V} {xs : List Value} (hl : xs.length = vs.length) (hp : vs.all V.plain = true) (h : ∀ (i : Nat) (v : V) (x : Value), vs[i]? = some v → xs[i]? = some x → TmRel S w lm v x) : RelL S w vs xs :=
  ⟨hl, fun i v x hv hx => (h i v x hv hx).rel (List.all_eq_true.1 hp v (List.mem_of_getElem? hv))⟩

theorem parts_rel (ρ : Operand → V) (ev : Operand → Value) (ps : List (Nat × Operand)) (h : ∀ x ∈ ps.map (·.2), TmRel S w lm (ρ x) (ev x)) :
    ∀ (i : Nat) (p : Nat × V) (r : Nat × Value), (ps.map fun e => (e.1, ρ e.2))[i]? = some p → (ps.map fun e => (e.1, ev e.2))[i]? = some r → r.1 = p.1 ∧ TmRel S w lm p.2 r.2 := by
  intro i p r hp hr
  simp only [List.getElem?_map, Option.map_eq_some_iff] at hp hr
  obtain ⟨o, ho, rfl⟩ := hp
  obtain ⟨o', ho', rfl⟩ := hr
  rw [ho] at ho'
  cases ho'
  exact ⟨rfl, h _ (List.mem_map.2 ⟨o, List.mem_of_getElem? ho, rfl⟩)⟩

theorem opt_rel (ρ : Operand → V) (ev : Operand → Value) (lo : Option Operand) (h : ∀ x, lo = some x → TmRel S w lm (ρ x) (ev x)) : (∀ u, lo.map ρ = some u → ∃ y, lo.map ev = some y ∧ TmRel S w lm u y) ∧ (lo.map ρ = none → lo.map ev = none) := by
  cases lo with
  | none => exact ⟨fun u h => (by cases h), fun _ => rfl⟩
  | some x => exact ⟨fun u hu => (by cases hu; exact ⟨_, rfl, h x rfl⟩), fun h => (by cases h)⟩

theorem arr_map (f : Operand → Value) (l : Array Operand) : (l.toList.map f).toArray = l.map f := by apply Array.ext'; simp

theorem qop_sound {B : Nat} {h : Heap} {fr : Fr} {a : Act} (m : Nat) (H : HR S w h) (F : FR B S w h fr lm a) (o : Oper) (ρ : Operand → V) (hρ : ∀ x ∈ o.op.operands.toList, TmRel S w lm (ρ x) (a.eval x)) :
    SndN S w lm ((execOp a.eval o).run P w) (qop P m fr h ρ o.op) := by
  obtain ⟨dst, op, type, pos, after, guard⟩ := o
  simp only at hρ ⊢
  cases op <;> try exact True.intro
  case move x => exact ⟨_, w, rfl, .refl _ _, hρ x (by simp [Op.operands])⟩
  case assign x => exact ⟨_, w, rfl, .refl _ _, hρ x (by simp [Op.operands])⟩
  case build t ps =>
    refine Snd.next ?_
    have := build_sound (P := P) (S := S) (w := w) (lm := lm) t (ps.toList.map fun e => (e.1, ρ e.2)) (ps.toList.map fun e => (e.1, a.eval e.2)) (by simp)
      (parts_rel ρ a.eval ps.toList (fun x hx => hρ x (by simpa [Op.operands] using hx)))
    have e : (ps.toList.map fun e => (e.1, a.eval e.2)).toArray = ps.map fun (i, x) => (i, a.eval x) := by apply Array.ext'; simp
    rw [e] at this
    exact this
  case buildSlice t n ps =>
    refine Snd.next ?_
    have := buildSlice_sound (P := P) (S := S) (w := w) (lm := lm) H t n (ps.toList.map fun e => (e.1, ρ e.2)) (ps.toList.map fun e => (e.1, a.eval e.2)) (by simp)
      (parts_rel ρ a.eval ps.toList (fun x hx => hρ x (by simpa [Op.operands] using hx)))
    have e : (ps.toList.map fun e => (e.1, a.eval e.2)).toArray = ps.map fun (i, x) => (i, a.eval x) := by apply Array.ext'; simp
    rw [e] at this
    exact this
  case load t x =>
    refine Snd.next ?_
    have := load_sound (P := P) H F m t (hρ x (by simp [Op.operands]))
    show Snd S w lm _ (loadQ P m fr h t (ρ x))
    cases hq : loadQ P m fr h t (ρ x) with
    | ok v => rw [hq] at this; exact this.elim
    | bad => exact True.intro
    | chk c v =>
      rw [hq] at this
      intro hc
      obtain ⟨y, hy, hr⟩ := this hc
      exact .same hy (.of_rel hr)
  case nilCheck x =>
    show SndN S w lm _ (nilQ (ρ x))
    have hx := hρ x (by simp [Op.operands])
    generalize ρ x = v at hx ⊢
    cases v with
    | ptr l off =>
      have hx' : Rel S w (.ptr l off) (a.eval x) := hx
      simp only [execOp]
      generalize a.eval x = y at hx' ⊢
      cases hx'
      exact ⟨_, w, rfl, .refl _ _, Rel.ptr l off⟩
    | lp d off =>
      obtain ⟨rb, hd, e⟩ := hx
      simp only [execOp, e]
      exact ⟨_, w, rfl, .refl _ _, rb, hd, rfl⟩
    | cptr cs off =>
      have hx' : Rel S w (.cptr cs off) (a.eval x) := hx
      obtain ⟨rb, o, e, _⟩ := cptr_at hx'
      simp only [execOp, e]
      exact ⟨_, w, rfl, .refl _ _, by rw [e] at hx; exact hx⟩
    | fn f first caps =>
      cases f with
      | func k =>
        have hx' : Rel S w (.fn (.func k) first caps) (a.eval x) := hx
        simp only [execOp]
        generalize a.eval x = y at hx hx' ⊢
        cases hx' with
        | fn _ _ _ xs ys h1 h2 _ _ => exact ⟨_, w, rfl, .refl _ _, hx⟩
      | _ => exact True.intro
    | _ => exact True.intro
  case binOp op t x y t2 => exact Snd.next (binn_sound op t x y (hρ x (by simp [Op.operands])) (hρ y (by simp [Op.operands])))
  case unOp op t x => exact Snd.next (un_sound op (hρ x (by simp [Op.operands])))
  case convert s d x => exact Snd.next (conv_sound H s d (hρ x (by simp [Op.operands])))
  case makeInterface t x =>
    refine Snd.next ?_
    show Snd S w lm _ (match P.underlying t, (ρ x).plain with | some (.interface _), _ => .bad | some _, true => .ok (.iface t (ρ x)) | _, _ => .bad)
    have hx := hρ x (by simp [Op.operands])
    cases hu : P.underlying t with
    | none => exact True.intro
    | some d =>
      cases hp : (ρ x).plain with
      | false => cases d <;> exact True.intro
      | true =>
        cases d <;> first
          | exact True.intro
          | exact .same (by simp [Instr.makeInterface, run_underlying' hu]) (Rel.iface t _ _ (hx.rel hp))
  case makeFunc f xs ys =>
    cases f <;> try exact True.intro
    case func k =>
      refine Snd.next ?_
      show Snd S w lm _ (match (xs.toList.map ρ).all V.plain && (ys.toList.map ρ).all V.plain with | true => .ok (.fn (.func k) (xs.toList.map ρ) (ys.toList.map ρ)) | false => .bad)
      split
      · rename_i hp
        simp only [Bool.and_eq_true] at hp
        have h1 := relL_of_plain (S := S) (w := w) (lm := lm) (by simp) hp.1 (map_rel ρ a.eval xs.toList (fun x hx => hρ x (by simp [Op.operands]; exact .inl (by simpa using hx))))
        have h2 := relL_of_plain (S := S) (w := w) (lm := lm) (by simp) hp.2 (map_rel ρ a.eval ys.toList (fun x hx => hρ x (by simp [Op.operands]; exact .inr (by simpa using hx))))
        refine .same (x := .func (.func k) (xs.toList.map a.eval).toArray (ys.toList.map a.eval).toArray) ?_ (Rel.fn _ _ _ _ _ h1.1 h2.1 h1.2 h2.2)
        simp [Instr.makeFunc, arr_map]
      · exact True.intro
  case slice t x lo hi mx =>
    refine Snd.next ?_
    have o1 := opt_rel (S := S) (w := w) (lm := lm) ρ a.eval lo (fun u hu => hρ u (by simp [Op.operands, hu]))
    have o2 := opt_rel (S := S) (w := w) (lm := lm) ρ a.eval hi (fun u hu => hρ u (by simp [Op.operands, hu]))
    have o3 := opt_rel (S := S) (w := w) (lm := lm) ρ a.eval mx (fun u hu => hρ u (by simp [Op.operands, hu]))
    exact slice_sound t (hρ x (by simp [Op.operands])) o1.1 o1.2 o2.1 o2.2 o3.1 o3.2
  case fieldAddr s x f => exact Snd.next (fieldAddr_sound s f (hρ x (by simp [Op.operands])))
  case field s x f => exact Snd.next (field_sound s f m (hρ x (by simp [Op.operands])))
  case indexAddr t x i => exact Snd.next (indexAddr_sound t (hρ x (by simp [Op.operands])) (hρ i (by simp [Op.operands])))
  case index t x i => exact Snd.next (index_sound t m (hρ x (by simp [Op.operands])) (hρ i (by simp [Op.operands])))
  case lookup t x i ok => exact Snd.next (lookup_sound H t ok (hρ x (by simp [Op.operands])) (hρ i (by simp [Op.operands])))
  case extract x i => exact Snd.next (extract_sound i (hρ x (by simp [Op.operands])))
  case call c =>
    obtain ⟨callee, args, ts⟩ := c
    cases callee <;> try exact True.intro
    case builtin b =>
      have hargs : ∀ x ∈ args.toList, TmRel S w lm (ρ x) (a.eval x) := fun x hx => hρ x (by simp [Op.operands, Call.operands]; simpa using hx)
      cases b <;> try exact True.intro
      case len =>
        show SndN S w lm _ (match ts.toList, args.toList with | t :: _, x :: _ => lenQ P t (ρ x) | _, _ => .bad)
        split
        · rename_i t _ x _ ht hx
          have e : (execOp a.eval { dst, op := .call { callee := .builtin .len, args, argTypes := ts }, type, pos, after, guard }).run P w =
              (do pure (Next.value (← Builtin.len_ ts type (args.map a.eval))) : Sem Next).run P w := by simp [execOp, resolve, invoke, builtin]
          rw [e]
          refine Snd.next (len_sound t ts (args.map a.eval) type ?_ (x := a.eval x) ?_ (hargs x (by rw [hx]; simp)))
          · rw [← Array.getElem?_toList, ht]; rfl
          · rw [← Array.getElem?_toList, Array.toList_map, hx]; rfl
        · exact True.intro
      case min =>
        have e : (execOp a.eval { dst, op := .call { callee := .builtin .min, args, argTypes := ts }, type, pos, after, guard }).run P w =
            (do pure (Next.value (← Builtin.min_ ts type (args.toList.map a.eval).toArray)) : Sem Next).run P w := by
          rw [arr_map]
          simp [execOp, resolve, invoke, builtin]
        rw [e]
        exact Snd.next (minmax_sound false (args.toList.map ρ) (args.toList.map a.eval) ts type (by simp) (map_rel ρ a.eval args.toList hargs))
      case max =>
        have e : (execOp a.eval { dst, op := .call { callee := .builtin .max, args, argTypes := ts }, type, pos, after, guard }).run P w =
            (do pure (Next.value (← Builtin.max_ ts type (args.toList.map a.eval).toArray)) : Sem Next).run P w := by
          rw [arr_map]
          simp [execOp, resolve, invoke, builtin]
        rw [e]
        exact Snd.next (minmax_sound true (args.toList.map ρ) (args.toList.map a.eval) ts type (by simp) (map_rel ρ a.eval args.toList hargs))
end
end Jb
end

section
/- Effects: stores, new variables, appends. -/
namespace Jb
open Go Go.RowKit

section
variable {P : Program} {S : Sim} {w : World} {h : Heap} {lm : Nat → Option Nat}

def setRow (w : World) (rb : Nat) (c : Array Value) (e : TypeId) (fz : Nat × Nat) : World := { w with heap := w.heap.setIfInBounds rb (.cells c e fz) }

theorem setRow_get (rb k : Nat) (c : Array Value) (e : TypeId) (fz : Nat × Nat) (hk : k ≠ rb) : (setRow w rb c e fz).heap[k]? = w.heap[k]? := by
  simp [setRow, Array.getElem?_setIfInBounds, Ne.symm hk]

theorem setRow_self (rb : Nat) (c : Array Value) (e : TypeId) (fz : Nat × Nat) (hlt : rb < w.heap.size) : (setRow w rb c e fz).heap[rb]? = some (.cells c e fz) := by
  simp [setRow, hlt]

theorem setRow_size (rb : Nat) (c : Array Value) (e : TypeId) (fz : Nat × Nat) : (setRow w rb c e fz).heap.size = w.heap.size := by simp [setRow]

theorem setCell_row {rb : Nat} {c : Array Value} {e : TypeId} {fz : Nat × Nat} (hb : w.heap[rb]? = some (.cells c e fz)) (off : Nat) (v : Value) :
    w.setCell ⟨rb, off, none⟩ v = setRow w rb (c.setIfInBounds off v) e fz := by
  unfold World.setCell setRow
  congr 1
  apply Array.ext_getElem?
  intro k
  simp only [Array.getElem?_modify, Array.getElem?_setIfInBounds]
  by_cases hk : rb = k
  · subst hk
    obtain ⟨hlt, hg⟩ := Array.getElem?_eq_some_iff.1 hb
    simp [hlt, hg]
  · simp [hk]

theorem setRow_setRow (rb : Nat) (c c' : Array Value) (e e' : TypeId) (fz fz' : Nat × Nat) : setRow (setRow w rb c e fz) rb c' e' fz' = setRow w rb c' e' fz' := by
  simp [setRow]

theorem setRow_same {rb : Nat} {c : Array Value} {e : TypeId} {fz : Nat × Nat} (hb : w.heap[rb]? = some (.cells c e fz)) : setRow w rb c e fz = w := by
  have hlt := (Array.getElem?_eq_some_iff.1 hb).1
  have : w.heap.setIfInBounds rb (.cells c e fz) = w.heap := by
    apply Array.ext_getElem?
    intro k
    rw [Array.getElem?_setIfInBounds]
    split
    · rename_i hk; subst hk; rw [hb]
    · rfl
  simp [setRow, this]

theorem run_storeCells {rb o : Nat} {e : TypeId} {fz : Nat × Nat} : ∀ (vs : List Value) (i : Nat) (w : World) (c : Array Value), w.heap[rb]? = some (.cells c e fz) →
    (Free fz c.size) → (∀ v ∈ vs, v.oneCell' = true) → o + i + vs.length ≤ c.size →
    ∃ c' : Array Value, (storeCells ⟨rb, o, none⟩ vs i).run P w = .ok () (setRow w rb c' e fz) ∧ c'.toList = c.toList.take (o + i) ++ vs ++ c.toList.drop (o + i + vs.length)
  | [], i, w, c, hb, _, _, _ => ⟨c, by simp [storeCells, setRow_same hb], by simp⟩
  | v :: vs, i, w, c, hb, hf, ho, hl => by
    simp only [List.length_cons] at hl
    have hlt : o + i < c.size := by omega
    have hw : rb < w.heap.size := (Array.getElem?_eq_some_iff.1 hb).1
    have hcell : w.cell? ⟨rb, o + i, none⟩ = some c[o + i] := by simp [World.cell?, hb, hlt]
    have hfr : w.frozen? ⟨rb, o + i, none⟩ = false := by
      have := hf.not hlt
      simp only [World.frozen?, hb]
      simpa using this
    obtain ⟨c', h1, h2⟩ := run_storeCells (o := o) (e := e) (fz := fz) vs (i + 1) (setRow w rb (c.setIfInBounds (o + i) v) e fz) (c.setIfInBounds (o + i) v) (setRow_self rb _ e fz hw) (by simpa using hf)
      (fun u hu => ho u (by simp [hu])) (by simp; omega)
    refine ⟨c', ?_, ?_⟩
    · simp only [storeCells, Sem.run_bind, add_none, run_store P w _ v .plain (ho v (by simp)), hcell, hfr, Bool.false_eq_true, if_false, Result.andThen_ok, setCell_row hb]
      rw [h1, setRow_setRow]
    · rw [h2]
      simp only [Array.toList_setIfInBounds]
      have hk : o + i < c.toList.length := by simpa using hlt
      rw [List.set_eq_take_append_cons_drop, if_pos hk]
      have e1 : List.take (o + (i + 1)) (List.take (o + i) c.toList ++ v :: List.drop (o + i + 1) c.toList) = List.take (o + i) c.toList ++ [v] := by
        rw [List.take_append, List.take_of_length_le (by simp; omega)]
        have : o + (i + 1) - (List.take (o + i) c.toList).length = 1 := by simp; omega
        rw [this]; rfl
      have e2 : List.drop (o + (i + 1) + vs.length) (List.take (o + i) c.toList ++ v :: List.drop (o + i + 1) c.toList) = List.drop (o + i + (vs.length + 1)) c.toList := by
        rw [List.drop_append, List.drop_eq_nil_of_le (by simp; omega), List.nil_append]
        have : o + (i + 1) + vs.length - (List.take (o + i) c.toList).length = vs.length + 1 := by simp; omega
        rw [this, List.drop_succ_cons, List.drop_drop]
        congr 1
        omega
      rw [e1, e2]
      simp

theorem run_storeVar {t : TypeId} {x : Value} {rb o : Nat} {c : Array Value} {e : TypeId} {fz : Nat × Nat} (ht : okT P t = true) (hb : w.heap[rb]? = some (.cells c e fz))
    (hf : Free fz c.size) (hx : x.cells.toList.length = P.cellsOf t) (ho : ∀ v ∈ x.cells.toList, v.oneCell' = true) (hl : o + P.cellsOf t ≤ c.size) :
    ∃ c' : Array Value, (storeVar t ⟨rb, o, none⟩ x).run P w = .ok () (setRow w rb c' e fz) ∧ c'.toList = c.toList.take o ++ x.cells.toList ++ c.toList.drop (o + P.cellsOf t) := by
  obtain ⟨c', h1, h2⟩ := run_storeCells (P := P) (rb := rb) (o := o) (e := e) (fz := fz) x.cells.toList 0 w c hb hf ho (by omega)
  refine ⟨c', ?_, ?_⟩
  · have : ¬ x.cells.size ≠ P.cellsOf t := by simpa using hx
    simp only [storeVar, Sem.run_bind, run_sizeOf' ht, Result.andThen_ok, Sem.run_ite, if_neg this]
    exact h1
  · simpa [hx] using h2

theorem CellsRel.write {l : Nat} {cs new : List V} {off : Nat} {xs : List Value} (hc : CellsRel S w l cs) (hlen : off + new.length ≤ cs.length) (hn : RelL S w new xs) (ho : ∀ v ∈ xs, v.oneCell' = true) :
    ∃ (c c' : Array Value) (e : TypeId) (fz : Nat × Nat), w.heap[l]? = some (.cells c e fz) ∧ (Free fz c.size) ∧ off + xs.length ≤ c.size ∧
      c'.toList = c.toList.take off ++ xs ++ c.toList.drop (off + xs.length) ∧ c'.size = c.size ∧
      (∀ v ∈ c'.toList, v.oneCell' = true) ∧ RelL S w (wrCells cs off new) c'.toList := by
  obtain ⟨_, ys, ⟨e, fz, hb, hf⟩, hr, h1⟩ := hc
  have hl := hr.1
  have hnl := hn.1
  refine ⟨ys.toArray, (ys.take off ++ xs ++ ys.drop (off + xs.length)).toArray, e, fz, hb, hf, by simp; omega, by simp, by simp; omega, ?_, ?_⟩
  · intro v hv
    simp only at hv
    rcases List.mem_append.1 hv with hv | hv
    · rcases List.mem_append.1 hv with hv | hv
      · exact h1 v (List.mem_of_mem_take hv)
      · exact ho v hv
    · exact h1 v (List.mem_of_mem_drop hv)
  · simp only [wrCells]
    rw [hnl]
    exact ((hr.take off).append hn).append (hr.drop (off + new.length))

theorem Ext_row {rb : Nat} {c : Array Value} {e : TypeId} {fz : Nat × Nat} (ho : S.own rb = some .cell) : Ext S w S (setRow w rb c e fz) := by
  refine ⟨fun k off x ⟨h1, h2, h3⟩ => ⟨h1, ?_, h3⟩, fun s m h => ⟨m, h, Nat.le_refl _, fun _ => rfl⟩⟩
  have hk : k ≠ rb := by
    rintro rfl
    simp [Sim.stable, ho] at h1
  rw [World.cell?_of_block (w := w) (setRow_get rb k c e fz hk)]
  exact h2

theorem Block.row {rb k : Nat} {c c' : Array Value} {e : TypeId} {fz : Nat × Nat} (hk : k ≠ rb) (hb : Block w k c') : Block (setRow w rb c e fz) k c' := by
  obtain ⟨e', fz', h1, h2⟩ := hb
  exact ⟨e', fz', by rw [setRow_get rb k c e fz hk]; exact h1, h2⟩

theorem GrowRel.row {rb s es n : Nat} {c : Array Value} {e : TypeId} {fz : Nat × Nat} (ho : S.own rb = some .cell) (g : GrowRel S w s es n) : GrowRel S (setRow w rb c e fz) s es n := by
  obtain ⟨h1, h2, r, o, cap, h3, h4, h5, c', h6, h7⟩ := g
  refine ⟨h1, h2, r, o, cap, h3, h4, h5, c', h6.row ?_, h7⟩
  rintro rfl
  rw [ho] at h5
  cases h5

theorem CellsRel.row {rb l : Nat} {cs : List V} {c : Array Value} {e : TypeId} {fz : Nat × Nat} (ho : S.own rb = some .cell) (hk : l ≠ rb) (g : CellsRel S w l cs) : CellsRel S (setRow w rb c e fz) l cs := by
  obtain ⟨h1, xs, h2, h3, h4⟩ := g
  exact ⟨h1, xs, h2.row hk, h3.mono (Ext_row ho), h4⟩

theorem heap_put {l : Nat} {cs cs' : List V} {c c' : Array Value} {e : TypeId} {fz : Nat × Nat} (H : HR S w h) (hl : h l = some (.cells cs))
    (hf : Free fz c.size) (hs : c'.size = c.size) (h1 : ∀ v ∈ c'.toList, v.oneCell' = true) (hr : RelL S w cs' c'.toList) :
    HR S (setRow w l c' e fz) (h.upd l (.cells cs')) ∧ Le (fun _ => False) h S w (h.upd l (.cells cs')) S (setRow w l c' e fz) := by
  have ho : S.own l = some .cell := (H.obs l _ hl).1
  have hlt : l < w.heap.size := H.lt ho
  refine ⟨⟨?_, ?_⟩, ?_⟩
  · intro k o hk
    simp only [Heap.upd] at hk
    split at hk
    · rename_i e'
      subst e'
      cases hk
      exact ⟨ho, c'.toList, ⟨e, fz, by rw [setRow_self k _ e fz hlt], by simpa [hs] using hf⟩, hr.mono (Ext_row ho), h1⟩
    · rename_i hne
      have := H.obs k o hk
      cases o with
      | cells cs0 => exact CellsRel.row ho hne this
      | grow es n => exact GrowRel.row ho this
      | obj q => exact ObjRel.same (Ext_row ho) this.1 (setRow_get l k _ e fz hne) this
  · intro k hk
    rw [setRow_size] at hk
    exact H.fresh k hk
  · exact { toExt := Ext_row ho, os := rfl, tape := rfl, output := rfl, size := by rw [setRow_size]; exact Nat.le_refl _
            un := fun k hk hn => ⟨setRow_get l k _ e fz (by rintro rfl; rw [ho] at hn; cases hn), hn⟩
            priv := fun k hk _ hh => ⟨setRow_get l k _ e fz (by rintro rfl; exact hh ⟨_, hl, rfl⟩), hk⟩
            dom := fun k _ ⟨o, hk, hb⟩ => by
              simp only [Heap.upd] at hk
              split at hk
              · rename_i e'; subst e'; exact ⟨_, hl, rfl⟩
              · exact ⟨_, hk, hb⟩
            all := fun k _ hk => by
              simp only [Heap.upd]
              split
              · rename_i e'; subst e'; rw [hl] at hk; cases hk
              · exact hk
            stays := fun _ hk => hk }

theorem heap_write {l : Nat} {cs cs' : List V} {c c' : Array Value} {e : TypeId} {fz : Nat × Nat} (H : HR S w h) (hl : h l = some (.cells cs)) (_ : w.heap[l]? = some (.cells c e fz))
    (hf : Free fz c.size) (hs : c'.size = c.size) (h1 : ∀ v ∈ c'.toList, v.oneCell' = true) (hr : RelL S w cs' c'.toList) :
    HR S (setRow w l c' e fz) (h.upd l (.cells cs')) ∧ Le (fun _ => False) h S w (h.upd l (.cells cs')) S (setRow w l c' e fz) := heap_put H hl hf hs h1 hr

def Sim.addCell (S : Sim) (n : Nat) : Sim := { S with own := fun k => if k = n then some .cell else S.own k }

theorem alloc_get (o : Obj) (k : Nat) (hk : k < w.heap.size) : (w.alloc o).heap[k]? = w.heap[k]? := Below.heap_alloc w o k hk

theorem Ext_addCell (H : HR S w h) (o : Obj) : Ext S w (S.addCell w.heap.size) (w.alloc o) := by
  refine ⟨fun k off x ⟨h1, h2, h3⟩ => ⟨?_, ?_, h3⟩, fun s m h => ⟨m, h, Nat.le_refl _, fun _ => rfl⟩⟩
  · have hlt := World.block_lt_of_cell? w _ h2
    have hne : k ≠ w.heap.size := by rintro rfl; exact Nat.lt_irrefl _ hlt
    simpa [Sim.stable, Sim.addCell, hne] using h1
  · have hlt := World.block_lt_of_cell? w _ h2
    rw [World.cell?_alloc_lt _ _ _ hlt]
    exact h2

theorem Block.alloc {k : Nat} {c : Array Value} (o : Obj) (hb : Block w k c) : Block (w.alloc o) k c := by
  obtain ⟨e, fz, h1, h2⟩ := hb
  exact ⟨e, fz, by rw [alloc_get o k (Array.getElem?_eq_some_iff.1 h1).1]; exact h1, h2⟩

theorem Block.lt {k : Nat} {c : Array Value} (hb : Block w k c) : k < w.heap.size := by
  obtain ⟨e, fz, h1, h2⟩ := hb
  exact (Array.getElem?_eq_some_iff.1 h1).1

theorem CellsRel.alloc {l : Nat} {cs : List V} (H : HR S w h) (o : Obj) (g : CellsRel S w l cs) : CellsRel (S.addCell w.heap.size) (w.alloc o) l cs := by
  obtain ⟨h1, xs, h2, h3, h4⟩ := g
  refine ⟨?_, xs, h2.alloc o, h3.mono (Ext_addCell H o), h4⟩
  have := h2.lt
  simp [Sim.addCell, h1, Nat.ne_of_lt this]

theorem GrowRel.alloc {s es n : Nat} (o : Obj) (g : GrowRel S w s es n) : GrowRel (S.addCell w.heap.size) (w.alloc o) s es n := by
  obtain ⟨h1, h2, r, ofs, cap, h3, h4, h5, c', h6, h7⟩ := g
  refine ⟨h1, h2, r, ofs, cap, h3, h4, ?_, c', h6.alloc o, h7⟩
  have := h6.lt
  simp [Sim.addCell, h5, Nat.ne_of_lt this]

theorem HR.none (H : HR S w h) : h w.heap.size = none := by
  cases hh : h w.heap.size with
  | none => rfl
  | some o =>
    have := H.obs _ _ hh
    obtain ⟨f1, f2⟩ := H.fresh w.heap.size (Nat.le_refl _)
    cases o with
    | cells cs => rw [this.1] at f1; cases f1
    | grow es n => rw [this.1] at f2; cases f2
    | obj q => rw [this.1] at f1; cases f1

theorem new_block (H : HR S w h) {cs : List V} {c : Array Value} (e : TypeId) (h1 : ∀ v ∈ c.toList, v.oneCell' = true) (hr : RelL S w cs c.toList) :
    CellsRel (S.addCell w.heap.size) (w.alloc (.cells c e)) w.heap.size cs ∧ HR (S.addCell w.heap.size) (w.alloc (.cells c e)) h ∧
    Le (fun _ => False) h S w h (S.addCell w.heap.size) (w.alloc (.cells c e)) := by
  refine ⟨⟨by simp [Sim.addCell], c.toList, ⟨e, (0, 0), ?_, .inl rfl⟩, hr.mono (Ext_addCell H _), h1⟩, ⟨?_, ?_⟩, ?_⟩
  · show (w.heap.push (.cells c e))[w.heap.size]? = _
    simp
  · intro k o hk
    have := H.obs k o hk
    cases o with
    | cells cs0 => exact CellsRel.alloc H _ this
    | grow es n => exact GrowRel.alloc _ this
    | obj q =>
      have hlt : k < w.heap.size := H.lt this.1
      exact ObjRel.same (Ext_addCell H _) (by simp [Sim.addCell, this.1]) (alloc_get _ k hlt) this
  · intro k hk
    rw [World.size_alloc] at hk
    have := H.fresh k (by omega)
    exact ⟨by simp [Sim.addCell, show k ≠ w.heap.size by omega, this.1], this.2⟩
  · exact { toExt := Ext_addCell H _, os := rfl, tape := rfl, output := rfl, size := by rw [World.size_alloc]; omega
            un := fun k hk hn => ⟨alloc_get _ k hk, by simp [Sim.addCell, Nat.ne_of_lt hk, hn]⟩
            priv := fun k hk _ _ => ⟨alloc_get _ k (H.lt hk), by simp [Sim.addCell, Nat.ne_of_lt (H.lt hk), hk]⟩
            dom := fun _ _ hk => hk
            all := fun _ _ hk => hk
            stays := fun k hk => by simp [Sim.addCell, Nat.ne_of_lt (H.lt hk), hk] }

theorem heap_new (H : HR S w h) {cs : List V} {c : Array Value} (e : TypeId) (h1 : ∀ v ∈ c.toList, v.oneCell' = true) (hr : RelL S w cs c.toList) :
    HR (S.addCell w.heap.size) (w.alloc (.cells c e)) (h.upd w.heap.size (.cells cs)) ∧
    Le (fun _ => False) h S w (h.upd w.heap.size (.cells cs)) (S.addCell w.heap.size) (w.alloc (.cells c e)) := by
  obtain ⟨a, b, d⟩ := new_block H e h1 hr
  refine ⟨⟨fun k o hk => ?_, b.fresh⟩, { toExt := d.toExt, os := d.os, tape := d.tape, output := d.output, size := d.size, un := d.un, priv := d.priv, stays := d.stays, all := fun k hlt hk => by simp only [Heap.upd]; rw [if_neg (by omega)]; exact hk, dom := fun k hlt hk => ?_ }⟩
  · simp only [Heap.upd] at hk
    split at hk
    · rename_i e'; subst e'; cases hk; exact a
    · exact b.obs k o hk
  · obtain ⟨o, hk, hb⟩ := hk
    simp only [Heap.upd] at hk
    split at hk
    · rename_i e'; subst e'; omega
    · exact ⟨_, hk, hb⟩

theorem HR.below {w' : World} (H : HR S w h) (b : Below w.heap.size w w') : HR S w' h := by
  refine ⟨fun l o hl => ?_, fun l hl => H.fresh l (Nat.le_trans b.size hl)⟩
  have hB : ∀ k c, Block w k c → Block w' k c := fun k c hb => by
    have hlt := hb.lt
    obtain ⟨e, fz, h1, h2⟩ := hb
    exact ⟨e, fz, by rw [b.block k hlt]; exact h1, h2⟩
  have := H.obs l o hl
  cases o with
  | cells cs =>
    obtain ⟨h1, xs, h2, h3, h4⟩ := this
    exact ⟨h1, xs, hB _ _ h2, h3.mono (Ext_below b), h4⟩
  | grow es n =>
    obtain ⟨h1, h2, r, o, cap, h3, h4, h5, c', h6, h7⟩ := this
    exact ⟨h1, h2, r, o, cap, h3, h4, h5, c', hB _ _ h6, h7⟩
  | obj q => exact ObjRel.same (Ext_below b) this.1 (b.block l (H.lt this.1)) this

theorem Le.below {w' : World} (L : Nat → Prop) (H : HR S w h) (b : Below w.heap.size w w') : Le L h S w h S w' :=
  { toExt := Ext_below b, os := b.os, tape := b.tape, output := b.output, size := b.size, un := fun k hk hn => ⟨b.block k hk, hn⟩,
    priv := fun k hk _ _ => ⟨b.block k (H.lt hk), hk⟩, dom := fun _ _ hk => hk, all := fun _ _ hk => hk, stays := fun _ hk => hk }

theorem Le.weaken {S' : Sim} {w' : World} {h' : Heap} (L : Nat → Prop) (l : Le (fun _ => False) h S w h' S' w') : Le L h S w h' S' w' :=
  { toExt := l.toExt, os := l.os, tape := l.tape, output := l.output, size := l.size, un := l.un, priv := fun k hk _ hh => l.priv k hk (fun f => f) hh, dom := l.dom, all := l.all, stays := l.stays }

theorem FR.le {B : Nat} {S' : Sim} {w' : World} {h' : Heap} {fr : Fr} {a : Act} (H : HR S w h) (F : FR B S w h fr lm a) (l : Le (fun _ => False) h S w h' S' w') : FR B S' w' h' fr lm a :=
  { size := F.size, tm := fun i v hv => (F.tm i v hv).mono l.toExt, inj := F.inj, lb := F.lb, lo := fun d rb e => l.stays _ (F.lo d rb e), nd := F.nd, dfs := F.dfs.le H l
    vars := fun e he => by
      obtain ⟨rb, h1, h2, h3⟩ := F.vars e he
      obtain ⟨g1, g2⟩ := l.priv rb h2.1 (fun f => f) h3
      obtain ⟨_, xs, ⟨ty, fz, hb, hf⟩, hr, ho⟩ := h2
      refine ⟨rb, h1, ⟨g2, xs, ⟨ty, fz, by rw [g1]; exact hb, hf⟩, hr.mono l.toExt, ho⟩, fun hc => h3 (l.dom rb (Array.getElem?_eq_some_iff.1 hb).1 hc)⟩ }
end
end Jb
end

section
/- Objects: new ones, and turned ones. -/
namespace Jb
open Go Go.RowKit

section
variable {P : Program} {S : Sim} {w : World} {h h' : Heap} {L : Nat → Prop} {l : Nat}

theorem put_get {k : Nat} (o' : Obj) (hk : k ≠ l) : (w.putObj l o').heap[k]? = w.heap[k]? := World.putObj_heap_other hk
theorem put_size (o' : Obj) : (w.putObj l o').heap.size = w.heap.size := by simp [World.putObj]

theorem Ext_put (ho : S.own l = some .cell) (o' : Obj) : Ext S w S (w.putObj l o') := by
  refine ⟨fun k off x ⟨h1, h2, h3⟩ => ⟨h1, ?_, h3⟩, fun s m h => ⟨m, h, Nat.le_refl _, fun _ => rfl⟩⟩
  have hk : k ≠ l := by
    rintro rfl
    simp [Sim.stable, ho] at h1
  rw [World.cell?_of_block (w := w) (put_get o' hk)]
  exact h2

theorem Block.put {k : Nat} {c : Array Value} (o' : Obj) (hk : k ≠ l) (hb : Block w k c) : Block (w.putObj l o') k c := by
  obtain ⟨e, fz, h1, h2⟩ := hb
  exact ⟨e, fz, by rw [put_get o' hk]; exact h1, h2⟩

theorem turn_block (H : HR S w h) (ho : S.own l = some .cell) (o' : Obj)
    (hh : ∀ k ob, h' k = some ob → (k ≠ l ∧ h k = some ob) ∨ (ob.blk = false ∧ h k = some ob) ∨ (k = l ∧ ObRel S (w.putObj l o') l ob)) : HR S (w.putObj l o') h' := by
  refine ⟨fun k ob hk => ?_, fun k hk => H.fresh k (by rwa [put_size] at hk)⟩
  rcases hh k ob hk with ⟨hne, h0⟩ | ⟨hb, h0⟩ | ⟨rfl, h0⟩
  · have := H.obs k ob h0
    cases ob with
    | cells cs =>
      obtain ⟨h1, xs, h2, h3, h4⟩ := this
      exact ⟨h1, xs, h2.put o' hne, h3.mono (Ext_put ho o'), h4⟩
    | grow es n =>
      obtain ⟨h1, h2, r, o, cap, h3, h4, h5, c', h6, h7⟩ := this
      exact ⟨h1, h2, r, o, cap, h3, h4, h5, c', h6.put o' (by rintro rfl; rw [ho] at h5; cases h5), h7⟩
    | obj q => exact ObjRel.same (Ext_put ho o') this.1 (put_get o' hne) this
  · have := H.obs k ob h0
    cases ob with
    | cells cs => cases hb
    | obj q => cases hb
    | grow es n =>
      obtain ⟨h1, h2, r, o, cap, h3, h4, h5, c', h6, h7⟩ := this
      exact ⟨h1, h2, r, o, cap, h3, h4, h5, c', h6.put o' (by rintro rfl; rw [ho] at h5; cases h5), h7⟩
  · exact h0

theorem turn_le (ho : S.own l = some .cell) (o' : Obj) (hL : Blk h l ∨ L l) (hd : ∀ k, Blk h' k → Blk h k) (ha : ∀ k, h k = none → h' k = none) : Le L h S w h' S (w.putObj l o') :=
  { toExt := Ext_put ho o', os := rfl, tape := rfl, output := rfl, size := by rw [put_size]; exact Nat.le_refl _
    un := fun k hk hn => ⟨put_get o' (by rintro rfl; rw [ho] at hn; cases hn), hn⟩
    priv := fun k hk hB hh => ⟨put_get o' (by rintro rfl; exact hL.elim hh hB), hk⟩
    dom := fun k _ hk => hd k hk
    all := fun k _ hk => ha k hk
    stays := fun _ hk => hk }

theorem priv_new (H : HR S w h) (o : Obj) : HR (S.addCell w.heap.size) (w.alloc o) h ∧ Le (fun _ => False) h S w h (S.addCell w.heap.size) (w.alloc o) := by
  refine ⟨⟨?_, ?_⟩, ?_⟩
  · intro k ob hk
    have := H.obs k ob hk
    cases ob with
    | cells cs0 => exact CellsRel.alloc H _ this
    | grow es n => exact GrowRel.alloc _ this
    | obj q =>
      have hlt : k < w.heap.size := H.lt this.1
      exact ObjRel.same (Ext_addCell H _) (by simp [Sim.addCell, this.1]) (alloc_get _ k hlt) this
  · intro k hk
    rw [World.size_alloc] at hk
    have := H.fresh k (by omega)
    exact ⟨by simp [Sim.addCell, show k ≠ w.heap.size by omega, this.1], this.2⟩
  · exact { toExt := Ext_addCell H _, os := rfl, tape := rfl, output := rfl, size := by rw [World.size_alloc]; omega
            un := fun k hk hn => ⟨alloc_get _ k hk, by simp [Sim.addCell, Nat.ne_of_lt hk, hn]⟩
            priv := fun k hk _ _ => ⟨alloc_get _ k (H.lt hk), by simp [Sim.addCell, Nat.ne_of_lt (H.lt hk), hk]⟩
            dom := fun _ _ hk => hk
            all := fun _ _ hk => hk
            stays := fun k hk => by simp [Sim.addCell, Nat.ne_of_lt (H.lt hk), hk] }

theorem obj_new (H : HR S w h) (o : Obj) (q : OQ) (hq : OQRel S w q o) :
    HR (S.addCell w.heap.size) (w.alloc o) (h.upd w.heap.size (.obj q)) ∧ Le (fun _ => False) h S w (h.upd w.heap.size (.obj q)) (S.addCell w.heap.size) (w.alloc o) := by
  obtain ⟨b, d⟩ := priv_new H o
  refine ⟨⟨fun k ob hk => ?_, b.fresh⟩, { toExt := d.toExt, os := d.os, tape := d.tape, output := d.output, size := d.size, un := d.un, priv := d.priv, stays := d.stays, all := fun k hlt hk => by simp only [Heap.upd]; rw [if_neg (by omega)]; exact hk, dom := fun k hlt hk => ?_ }⟩
  · simp only [Heap.upd] at hk
    split at hk
    · rename_i e'; subst e'; cases hk
      exact ⟨by simp [Sim.addCell], o, by show (w.heap.push o)[w.heap.size]? = _; simp, hq.mono d.toExt⟩
    · exact b.obs k ob hk
  · obtain ⟨ob, hk, hb⟩ := hk
    simp only [Heap.upd] at hk
    split at hk
    · rename_i e'; subst e'; omega
    · exact ⟨_, hk, hb⟩

theorem obj_turn (H : HR S w h) {q q' : OQ} (hl : h l = some (.obj q)) (o' : Obj) (hq : OQRel S w q' o') :
    HR S (w.putObj l o') (h.upd l (.obj q')) ∧ Le (fun _ => False) h S w (h.upd l (.obj q')) S (w.putObj l o') := by
  have ho : S.own l = some .cell := (H.obs l _ hl).1
  refine ⟨turn_block H ho o' fun k ob hk => ?_, turn_le ho o' (.inl ⟨_, hl, rfl⟩) (fun k ⟨ob, hk, hb⟩ => ?_) (fun k hk => by
    simp only [Heap.upd]
    split
    · rename_i e; subst e; rw [hl] at hk; cases hk
    · exact hk)⟩
  · simp only [Heap.upd] at hk
    split at hk
    · rename_i e; subst e; cases hk
      exact .inr (.inr ⟨rfl, ho, o', World.putObj_heap_same (H.lt ho), hq.mono (Ext_put ho o')⟩)
    · rename_i e; exact .inl ⟨e, hk⟩
  · simp only [Heap.upd] at hk
    split at hk
    · rename_i e; subst e; exact ⟨_, hl, rfl⟩
    · exact ⟨_, hk, hb⟩

theorem obj_end (H : HR S w h) {q : OQ} (hl : h l = some (.obj q)) (o' : Obj) :
    HR S (w.putObj l o') (h.del l) ∧ Le (fun _ => False) h S w (h.del l) S (w.putObj l o') := by
  have ho : S.own l = some .cell := (H.obs l _ hl).1
  refine ⟨turn_block H ho o' fun k ob hk => ?_, turn_le ho o' (.inl ⟨_, hl, rfl⟩) (fun k ⟨ob, hk, hb⟩ => ?_) (fun k hk => by
    simp only [Heap.del]
    split
    · rfl
    · exact hk)⟩
  · simp only [Heap.del] at hk
    split at hk
    · cases hk
    · rename_i e; exact .inl ⟨e, hk⟩
  · simp only [Heap.del] at hk
    split at hk
    · cases hk
    · exact ⟨_, hk, hb⟩
end
end Jb
end
