/- Proved here: of RR1, that what the Go functions of this part compute is as their contracts say (texts JbA, JbB), for every input; no condition beyond those that each theorem states. -/
import Derived.Calls
import Derived.CallsIn
import Derived.OrdersIn
import Derived.RangeFuncLeaves
import Derived.Still
import Derived.Laws.Cells
import Derived.Laws.World
import Derived.Below
set_option linter.all false
section
/- Values, heaps and the relation to real worlds: the words of the library Jb. -/
namespace Jb
open Go

/-- What is known of the room behind a slice value: none there; a right to it under a stamp; nothing. -/
inductive G where
  | full
  | own (s : Nat)
  | no
  deriving Inhabited

/-- Values. A slice value has its content; 'lp' is the address of a variable of the frame's own. -/
inductive V where
  | undef
  | bool (b : Bool)
  | int (k : IntKind) (n : Int)
  | str (s : ByteArray)
  | nilp
  | ptr (l off : Nat)
  | lp (d off : Nat)
  | cptr (cs : List V) (off : Nat)
  | sl (es : Nat) (l : List (List V)) (g : G)
  | sref (es l off len cap : Nat)
  | map (r : Option Nat)
  | fn (f : Fn) (first caps : List V)
  | nilfn
  | iface (t : TypeId) (v : V)
  | nilif
  | agg (cs : List V)
  | tup (vs : List V)
  | opt (b : Bool) (v : V)
  deriving Inhabited

/-- A range over a function: between two rounds; within one; left by a jump. -/
inductive LSt where
  | ready
  | busy
  | done (e : Code)

/-- What is no row of cells: the record of a range over a function; a map, with what it has in the order of its coming. -/
inductive OQ where
  | loop (st : LSt) (ps : List Nat) (tm : List V) (asg body : Code)
  | map (es : List (V × V))

/-- What the library knows of a block. -/
inductive Ob where
  | cells (cs : List V)
  | grow (es n : Nat)
  | obj (q : OQ)

instance : Inhabited Ob := ⟨.grow 0 0⟩

/-- Is it said of a block (and not of a stamp)? -/
def Ob.blk : Ob → Bool
  | .grow _ _ => false
  | _ => true

abbrev Heap := Nat → Option Ob

def Heap.upd (h : Heap) (l : Nat) (o : Ob) : Heap := fun x => if x = l then some o else h x

/-- Who may write to a real block: whoever has its variable; whoever has a stamp, from an offset on. No row: nobody, ever. -/
inductive Own where
  | cell
  | stamp (s lo : Nat)

/-- A block of which nothing is said any longer. -/
def Heap.del (h : Heap) (l : Nat) : Heap := fun x => if x = l then none else h x

structure Sim where
  own : Nat → Option Own
  top : Nat → Option Nat
  sig : Nat → Nat × Nat × Nat

/-- A cell that nobody will write to. -/
def Sim.stable (S : Sim) (rb off : Nat) : Prop :=
  match S.own rb with
  | none => True
  | some .cell => False
  | some (.stamp _ lo) => off < lo

def Keeps (S : Sim) (w : World) (rb off : Nat) (x : Value) : Prop := S.stable rb off ∧ w.cell? ⟨rb, off, none⟩ = some x ∧ x.oneCell' = true

def Claim (S : Sim) (g : G) (n rb o cap : Nat) : Prop :=
  match g with
  | .full => cap = n
  | .no => True
  | .own s => ∃ m, S.top s = some m ∧ n ≤ m ∧ (n = m → S.sig s = (rb, o, cap))

inductive Rel (S : Sim) (w : World) : V → Value → Prop where
  | undef (x : Value) : Rel S w .undef x
  | bool (b : Bool) : Rel S w (.bool b) (.bool b)
  | int (k : IntKind) (n : Int) : Rel S w (.int k n) (.int k n)
  | str (s : ByteArray) : Rel S w (.str s) (.string s)
  | nilp : Rel S w .nilp (.pointer none)
  | ptr (l off : Nat) : Rel S w (.ptr l off) (.pointer (some ⟨l, off, none⟩))
  | cptr (cs : List V) (off rb o : Nat) (xs : Nat → Value) (hk : ∀ (i : Nat) (c : V), cs[i]? = some c → Keeps S w rb (o + i) (xs i))
      (hr : ∀ (i : Nat) (c : V), cs[i]? = some c → Rel S w c (xs i)) : Rel S w (.cptr cs off) (.pointer (some ⟨rb, o + off, none⟩))
  | slnil (es : Nat) (g : G) (hg : ∀ s, g ≠ .own s) : Rel S w (.sl es [] g) (.slice none 0 0)
  | sl (es : Nat) (l : List (List V)) (g : G) (rb o cap : Nat) (xs : Nat → Nat → Value) (hes : 0 < es) (hcap : l.length ≤ cap)
      (hg : Claim S g l.length rb o cap) (hlen : ∀ (i : Nat) (e : List V), l[i]? = some e → e.length = es)
      (hk : ∀ (i : Nat) (e : List V), l[i]? = some e → ∀ (j : Nat) (c : V), e[j]? = some c → Keeps S w rb (o + i * es + j) (xs i j))
      (hr : ∀ (i : Nat) (e : List V), l[i]? = some e → ∀ (j : Nat) (c : V), e[j]? = some c → Rel S w c (xs i j)) :
      Rel S w (.sl es l g) (.slice (some ⟨rb, o, none⟩) l.length cap)
  | sref (es l off len cap : Nat) (hcap : len ≤ cap) : Rel S w (.sref es l off len cap) (.slice (some ⟨l, off, none⟩) len cap)
  | srefnil (es l off : Nat) (b : Option Addr) : Rel S w (.sref es l off 0 0) (.slice b 0 0)
  | map (r : Option Nat) : Rel S w (.map r) (.map r)
  | fn (f : Fn) (first caps : List V) (xs ys : List Value) (h1 : xs.length = first.length) (h2 : ys.length = caps.length)
      (hx : ∀ (i : Nat) (v : V) (x : Value), first[i]? = some v → xs[i]? = some x → Rel S w v x) (hy : ∀ (i : Nat) (v : V) (x : Value), caps[i]? = some v → ys[i]? = some x → Rel S w v x) :
      Rel S w (.fn f first caps) (.func f xs.toArray ys.toArray)
  | nilfn : Rel S w .nilfn .nilFunc
  | iface (t : TypeId) (v : V) (x : Value) (h : Rel S w v x) : Rel S w (.iface t v) (.iface t x)
  | nilif : Rel S w .nilif .nilIface
  | agg (cs : List V) (xs : List Value) (hl : xs.length = cs.length) (ho : ∀ x ∈ xs, x.oneCell' = true) (h : ∀ (i : Nat) (v : V) (x : Value), cs[i]? = some v → xs[i]? = some x → Rel S w v x) :
      Rel S w (.agg cs) (.agg xs.toArray)
  | tup (cs : List V) (xs : List Value) (hl : xs.length = cs.length) (h : ∀ (i : Nat) (v : V) (x : Value), cs[i]? = some v → xs[i]? = some x → Rel S w v x) :
      Rel S w (.tup cs) (.tuple xs.toArray)

/-- What is known stays known. -/
structure Ext (S : Sim) (w : World) (S' : Sim) (w' : World) : Prop where
  keeps : ∀ rb off x, Keeps S w rb off x → Keeps S' w' rb off x
  top : ∀ s m, S.top s = some m → ∃ m', S'.top s = some m' ∧ m ≤ m' ∧ (m' = m → S'.sig s = S.sig s)

theorem Ext.refl (S : Sim) (w : World) : Ext S w S w := ⟨fun _ _ _ h => h, fun _ m h => ⟨m, h, Nat.le_refl _, fun _ => rfl⟩⟩

theorem Ext.trans {S S1 S2 : Sim} {w w1 w2 : World} (a : Ext S w S1 w1) (b : Ext S1 w1 S2 w2) : Ext S w S2 w2 := by
  refine ⟨fun rb off x h => b.keeps _ _ _ (a.keeps _ _ _ h), fun s m h => ?_⟩
  obtain ⟨m1, h1, l1, e1⟩ := a.top s m h
  obtain ⟨m2, h2, l2, e2⟩ := b.top s m1 h1
  refine ⟨m2, h2, by omega, fun e => ?_⟩
  rw [e2 (by omega), e1 (by omega)]

theorem Claim.mono {S S' : Sim} {w w' : World} (E : Ext S w S' w') {g : G} {n rb o cap : Nat} (h : Claim S g n rb o cap) : Claim S' g n rb o cap := by
  cases g with
  | full => exact h
  | no => exact h
  | own s =>
    obtain ⟨m, hm, hle, hs⟩ := h
    obtain ⟨m', hm', hle', hs'⟩ := E.top s m hm
    exact ⟨m', hm', by omega, fun e => by rw [hs' (by omega), hs (by omega)]⟩

theorem Rel.mono {S S' : Sim} {w w' : World} (E : Ext S w S' w') {v : V} {x : Value} (h : Rel S w v x) : Rel S' w' v x := by
  induction h with
  | undef x => exact .undef x
  | bool b => exact .bool b
  | int k n => exact .int k n
  | str s => exact .str s
  | nilp => exact .nilp
  | ptr l off => exact .ptr l off
  | cptr cs off rb o xs hk _ ih => exact .cptr cs off rb o xs (fun i c h => E.keeps _ _ _ (hk i c h)) ih
  | slnil es g hg => exact .slnil es g hg
  | sl es l g rb o cap xs hes hcap hg hlen hk _ ih => exact .sl es l g rb o cap xs hes hcap (hg.mono E) hlen (fun i e h j c h' => E.keeps _ _ _ (hk i e h j c h')) ih
  | sref es l off len cap h => exact .sref es l off len cap h
  | srefnil es l off b => exact .srefnil es l off b
  | map r => exact .map r
  | fn f first caps xs ys h1 h2 _ _ ih1 ih2 => exact .fn f first caps xs ys h1 h2 ih1 ih2
  | nilfn => exact .nilfn
  | iface t v x _ ih => exact .iface t v x ih
  | nilif => exact .nilif
  | agg cs xs hl ho _ ih => exact .agg cs xs hl ho ih
  | tup cs xs hl _ ih => exact .tup cs xs hl ih

/-- Lists, place by place. -/
def RelL (S : Sim) (w : World) (vs : List V) (xs : List Value) : Prop := xs.length = vs.length ∧ ∀ (i : Nat) (v : V) (x : Value), vs[i]? = some v → xs[i]? = some x → Rel S w v x

theorem RelL.mono {S S' : Sim} {w w' : World} (E : Ext S w S' w') {vs : List V} {xs : List Value} (h : RelL S w vs xs) : RelL S' w' vs xs :=
  ⟨h.1, fun i v x hv hx => (h.2 i v x hv hx).mono E⟩

theorem RelL.nil {S : Sim} {w : World} : RelL S w [] [] := ⟨rfl, fun i v x hv => by simp at hv⟩

theorem RelL.cons {S : Sim} {w : World} {v : V} {x : Value} {vs : List V} {xs : List Value} (h : Rel S w v x) (t : RelL S w vs xs) : RelL S w (v :: vs) (x :: xs) := by
  refine ⟨by simp [t.1], fun i u y hu hy => ?_⟩
  cases i with
  | zero => simp at hu hy; subst hu; subst hy; exact h
  | succ i => simp at hu hy; exact t.2 i u y hu hy

theorem RelL.append {S : Sim} {w : World} {vs us : List V} {xs ys : List Value} (h : RelL S w vs xs) (t : RelL S w us ys) : RelL S w (vs ++ us) (xs ++ ys) := by
  refine ⟨by simp [h.1, t.1], fun i u y hu hy => ?_⟩
  by_cases hi : i < vs.length
  · rw [List.getElem?_append_left hi] at hu
    rw [List.getElem?_append_left (by rw [h.1]; exact hi)] at hy
    exact h.2 i u y hu hy
  · rw [List.getElem?_append_right (by omega)] at hu
    rw [List.getElem?_append_right (by rw [h.1]; omega), h.1] at hy
    exact t.2 _ u y hu hy

theorem RelL.drop {S : Sim} {w : World} {vs : List V} {xs : List Value} (h : RelL S w vs xs) (n : Nat) : RelL S w (vs.drop n) (xs.drop n) := by
  refine ⟨by simp [h.1], fun i u y hu hy => ?_⟩
  rw [List.getElem?_drop] at hu hy
  exact h.2 _ u y hu hy

theorem RelL.take {S : Sim} {w : World} {vs : List V} {xs : List Value} (h : RelL S w vs xs) (n : Nat) : RelL S w (vs.take n) (xs.take n) := by
  refine ⟨by simp [h.1], fun i u y hu hy => ?_⟩
  rw [List.getElem?_take] at hu hy
  split at hu
  · rename_i hi; rw [if_pos hi] at hy; exact h.2 _ u y hu hy
  · cases hu

theorem RelL.set {S : Sim} {w : World} {vs : List V} {xs : List Value} (h : RelL S w vs xs) (n : Nat) {v : V} {x : Value} (hv : Rel S w v x) : RelL S w (vs.set n v) (xs.set n x) := by
  refine ⟨by simp [h.1], fun i u y hu hy => ?_⟩
  rw [List.getElem?_set] at hu hy
  by_cases hi : n = i
  · rw [if_pos hi] at hu hy
    split at hu
    · split at hy
      · cases hu; cases hy; exact hv
      · cases hy
    · cases hu
  · rw [if_neg hi] at hu hy
    exact h.2 _ u y hu hy

theorem Rel.agg_inv {S : Sim} {w : World} {cs : List V} {x : Value} (h : Rel S w (.agg cs) x) : ∃ xs, x = .agg xs.toArray ∧ RelL S w cs xs ∧ ∀ x ∈ xs, x.oneCell' = true := by
  cases h with
  | agg _ xs hl ho h => exact ⟨xs, rfl, ⟨hl, h⟩, ho⟩

theorem Rel.tup_inv {S : Sim} {w : World} {cs : List V} {x : Value} (h : Rel S w (.tup cs) x) : ∃ xs, x = .tuple xs.toArray ∧ RelL S w cs xs := by
  cases h with
  | tup _ xs hl h => exact ⟨xs, rfl, hl, h⟩

/-- No cell is frozen. -/
def Free (fz : Nat × Nat) (n : Nat) : Prop := fz.1 = fz.2 ∨ n ≤ fz.1

theorem Free.not {fz : Nat × Nat} {n : Nat} (h : Free fz n) {off : Nat} (ho : off < n) : ¬ (fz.1 ≤ off ∧ off < fz.2) := by
  rcases h with h | h <;> omega

/-- A block of cells, none of them frozen. -/
def Block (w : World) (l : Nat) (c : Array Value) : Prop := ∃ e fz, w.heap[l]? = some (.cells c e fz) ∧ Free fz c.size

def CellsRel (S : Sim) (w : World) (l : Nat) (cs : List V) : Prop := S.own l = some .cell ∧ ∃ xs : List Value, Block w l xs.toArray ∧ RelL S w cs xs ∧ ∀ x ∈ xs, x.oneCell' = true

def GrowRel (S : Sim) (w : World) (s es n : Nat) : Prop :=
  S.top s = some n ∧ 0 < es ∧ ∃ rb o cap, S.sig s = (rb, o, cap) ∧ n ≤ cap ∧ S.own rb = some (.stamp s (o + n * es)) ∧ ∃ c, Block w rb c ∧ o + cap * es ≤ c.size

def LSt.rel (st : LSt) (r : Loop) : Prop :=
  match st with
  | .ready => r.state = .ready ∧ r.pending = none
  | .busy => True
  | .done e => r.state = .done ∧ r.pending = some e

def OQRel (S : Sim) (w : World) (q : OQ) (o : Obj) : Prop :=
  match q with
  | .loop st ps tm asg body => ∃ r : Loop, o = .loop r ∧ r.params.toList = ps ∧ r.assign = asg ∧ r.body = body ∧ RelL S w tm r.tmps.toList ∧ st.rel r
  | .map es => ∃ (ents : Array MapEntry) (clock : Nat), o = .map ents clock ∧ ents.size = es.length ∧
      ∀ (i : Nat) (k v : V) (e : MapEntry), es[i]? = some (k, v) → ents[i]? = some e → Rel S w k e.key ∧ Rel S w v e.val

def ObjRel (S : Sim) (w : World) (l : Nat) (q : OQ) : Prop := S.own l = some .cell ∧ ∃ o, w.heap[l]? = some o ∧ OQRel S w q o

def ObRel (S : Sim) (w : World) (l : Nat) : Ob → Prop
  | .cells cs => CellsRel S w l cs
  | .grow es n => GrowRel S w l es n
  | .obj q => ObjRel S w l q

theorem OQRel.mono {S S' : Sim} {w w' : World} (E : Ext S w S' w') {q : OQ} {o : Obj} (h : OQRel S w q o) : OQRel S' w' q o := by
  cases q with
  | loop st ps tm asg body =>
    obtain ⟨r, h1, h2, h3, h4, h5, h6⟩ := h
    exact ⟨r, h1, h2, h3, h4, h5.mono E, h6⟩
  | map es =>
    obtain ⟨ents, clock, h1, h2, h3⟩ := h
    exact ⟨ents, clock, h1, h2, fun i k v e a b => ⟨(h3 i k v e a b).1.mono E, (h3 i k v e a b).2.mono E⟩⟩

/-- Who is elsewhere sees an object as it was. -/
theorem ObjRel.same {S S' : Sim} {w w' : World} (E : Ext S w S' w') {l : Nat} {q : OQ} (ho : S'.own l = some .cell) (hb : w'.heap[l]? = w.heap[l]?) (h : ObjRel S w l q) : ObjRel S' w' l q := by
  obtain ⟨_, o, h2, h3⟩ := h
  exact ⟨ho, o, by rw [hb]; exact h2, h3.mono E⟩

/-- Is something said of the block? -/
def Blk (h : Heap) (l : Nat) : Prop := ∃ o, h l = some o ∧ o.blk = true

structure HR (S : Sim) (w : World) (h : Heap) : Prop where
  obs : ∀ l o, h l = some o → ObRel S w l o
  fresh : ∀ l, w.heap.size ≤ l → S.own l = none ∧ S.top l = none

/-- From a world and a heap to others: what a call, or a piece of code, may do. 'L': the blocks of the frame's own variables, as it began. -/
structure Le (L : Nat → Prop) (h : Heap) (S : Sim) (w : World) (h' : Heap) (S' : Sim) (w' : World) : Prop extends Ext S w S' w' where
  os : w'.os = w.os
  tape : w'.tape = w.tape
  output : w'.output = w.output
  size : w.heap.size ≤ w'.heap.size
  un : ∀ rb, rb < w.heap.size → S.own rb = none → w'.heap[rb]? = w.heap[rb]? ∧ S'.own rb = none
  priv : ∀ rb, S.own rb = some .cell → ¬ L rb → ¬ Blk h rb → w'.heap[rb]? = w.heap[rb]? ∧ S'.own rb = some .cell
  dom : ∀ l, l < w.heap.size → Blk h' l → Blk h l
  all : ∀ l, l < w.heap.size → h l = none → h' l = none
  stays : ∀ rb, S.own rb = some .cell → S'.own rb = some .cell

theorem Le.refl (L : Nat → Prop) (h : Heap) (S : Sim) (w : World) : Le L h S w h S w :=
  { toExt := .refl S w, os := rfl, tape := rfl, output := rfl, size := Nat.le_refl _, un := fun _ _ e => ⟨rfl, e⟩, priv := fun _ e _ _ => ⟨rfl, e⟩,
    dom := fun _ _ e => e, all := fun _ _ e => e, stays := fun _ e => e }

theorem HR.lt {S : Sim} {w : World} {h : Heap} (H : HR S w h) {rb : Nat} {o : Own} (e : S.own rb = some o) : rb < w.heap.size := by
  rcases Nat.lt_or_ge rb w.heap.size with h1 | h1
  · exact h1
  · rw [(H.fresh rb h1).1] at e; cases e

theorem Le.trans {L : Nat → Prop} {h h1 h2 : Heap} {S S1 S2 : Sim} {w w1 w2 : World} (H : HR S w h) (a : Le L h S w h1 S1 w1) (b : Le L h1 S1 w1 h2 S2 w2) : Le L h S w h2 S2 w2 :=
  { toExt := a.toExt.trans b.toExt, os := b.os.trans a.os, tape := b.tape.trans a.tape, output := b.output.trans a.output, size := Nat.le_trans a.size b.size
    un := fun rb hlt e => by
      obtain ⟨e1, o1⟩ := a.un rb hlt e
      obtain ⟨e2, o2⟩ := b.un rb (Nat.lt_of_lt_of_le hlt a.size) o1
      exact ⟨e2.trans e1, o2⟩
    priv := fun rb e hL hh => by
      obtain ⟨e1, o1⟩ := a.priv rb e hL hh
      obtain ⟨e2, o2⟩ := b.priv rb o1 hL (fun hb => hh (a.dom rb (H.lt e) hb))
      exact ⟨e2.trans e1, o2⟩
    dom := fun l hlt e => a.dom l hlt (b.dom l (Nat.lt_of_lt_of_le hlt a.size) e)
    all := fun l hlt e => b.all l (Nat.lt_of_lt_of_le hlt a.size) (a.all l hlt e)
    stays := fun rb e => b.stays rb (a.stays rb e) }

/-- A call of function 'f': from every world that the heap speaks of. -/
def CallW (P : Program) (f : FuncId) (args : List V) (h : Heap) (K : V → Heap → Prop) : Prop :=
  ∀ (S : Sim) (w : World) (xs : List Value), HR S w h → RelL S w args xs →
    Calls P f xs.toArray w fun e w' => ∃ r x h' S', e = .returned x ∧ K r h' ∧ HR S' w' h' ∧ Rel S' w' r x ∧ Le (fun _ => False) h S w h' S' w'

theorem CallW.mono {P : Program} {f : FuncId} {args : List V} {h : Heap} {K K' : V → Heap → Prop} (c : CallW P f args h K) (m : ∀ r h', K r h' → K' r h') : CallW P f args h K' :=
  fun S w xs H R => (c S w xs H R).mono fun _ _ ⟨r, x, h', S', e, k, H', R', L⟩ => ⟨r, x, h', S', e, m r h' k, H', R', L⟩

/-- A call of a function without a text: the model has a row of its own for it. -/
def ExtW (P : Program) (f : FuncId) (args : List V) (h : Heap) (K : V → Heap → Prop) : Prop :=
  ∀ (S : Sim) (w : World) (xs : List Value), HR S w h → RelL S w args xs →
    ∃ r x w' h' S', (callFunc f xs.toArray).run P w = .ok (.value x) w' ∧ K r h' ∧ HR S' w' h' ∧ Rel S' w' r x ∧ Le (fun _ => False) h S w h' S' w'

/-- A round of the range over a function that has its record at l: what 'yield' does. -/
def YieldW (P : Program) (l : Nat) (args : List V) (h : Heap) (K : V → Heap → Prop) : Prop :=
  ∀ (S : Sim) (w : World) (xs : List Value), HR S w h → RelL S w args xs →
    ∃ f tmps asg body, (Instr.yield l xs.toArray).run P w = .ok (.round l f tmps asg body) w ∧
      RoundIn Fence.wide 0 P l f tmps asg body w fun e w' => ∃ r x h' S', e = .returned x ∧ K r h' ∧ HR S' w' h' ∧ Rel S' w' r x ∧ Le (fun _ => False) h S w h' S' w'

theorem YieldW.mono {P : Program} {l : Nat} {args : List V} {h : Heap} {K K' : V → Heap → Prop} (c : YieldW P l args h K) (m : ∀ r h', K r h' → K' r h') : YieldW P l args h K' := by
  intro S w xs H R
  obtain ⟨f, tmps, asg, body, h1, h2⟩ := c S w xs H R
  exact ⟨f, tmps, asg, body, h1, h2.mono fun _ _ ⟨r, x, h', S', e, k, H', R', L⟩ => ⟨r, x, h', S', e, m r h' k, H', R', L⟩⟩

def enters (P : Program) (f : FuncId) : Bool := match P.funcs[f]? with | some fn => fn.body.isSome && fn.name != "runtime.NumGoroutine" | none => false

def AnyW (P : Program) (f : FuncId) (args : List V) (h : Heap) (K : V → Heap → Prop) : Prop :=
  match enters P f with
  | true => CallW P f args h K
  | false => ExtW P f args h K
end Jb
end

section
/- The predicate transformer over the model's Code, on the values of JbA: what is asked of each operation, region and statement. -/
namespace Jb
open Go

/-- A frame: its temporaries, and its own variables by the slot that has their address. -/
structure Fr where
  tm : List V
  lc : List (Nat × List V)
  deriving Inhabited

def Fr.var (fr : Fr) (d : Nat) : List V := match fr.lc.find? (fun e => e.1 == d) with | some e => e.2 | none => []
def lcSet (d : Nat) (cs : List V) : List (Nat × List V) → List (Nat × List V)
  | [] => [(d, cs)]
  | e :: r => match Nat.beq e.1 d, Nat.ble e.1 d with
    | true, _ => (d, cs) :: r
    | false, true => e :: lcSet d cs r
    | false, false => (d, cs) :: e :: r

def cellsAt (h : Heap) (l : Nat) : List V := match h l with | some (.cells cs) => cs | _ => []

/-- A constant of the text. -/
def ofConst : Value → V
  | .bool b => .bool b
  | .int k n => .int k n
  | .string s => .str s
  | .pointer none => .nilp
  | .nilFunc => .nilfn
  | .nilIface => .nilif
  | .map none => .map none
  | _ => .undef

def Fr.ev (fr : Fr) : Operand → V
  | .tmp t => fr.tm.getD t .undef
  | .const v => ofConst v
  | .global _ => .undef
  | .func f => .fn (.func f) [] []

/-- A value of one cell, that may be kept anywhere. -/
def V.one : V → Bool
  | .bool _ | .int _ _ | .str _ | .nilp | .ptr _ _ | .cptr _ _ | .sl _ _ _ | .sref _ _ _ _ _ | .map _ | .fn _ _ _ | .nilfn | .iface _ _ | .nilif => true
  | _ => false

def V.plain : V → Bool
  | .lp _ _ | .opt _ _ => false
  | _ => true

def V.strip : V → V
  | .opt _ v => v
  | v => v

/-- What a quiet operation comes to. -/
inductive Q where
  | ok (v : V)
  | chk (c : Prop) (v : V)
  | bad

def Q.need (q : Q) (K : V → Prop) : Prop :=
  match q with
  | .ok v => K v
  | .chk c v => c ∧ K v
  | .bad => False

def aggT (P : Program) (t : TypeId) : Bool := match P.underlying t with | some (.struct _) | some (.array _ _) => true | _ => false
def okT (P : Program) (t : TypeId) : Bool := (P.info? t).isSome

def fieldOf (P : Program) (s : TypeId) (f : Nat) : Option (Nat × TypeId) :=
  match P.underlying s with
  | some (.struct fs) => match fs[f]? with | some x => some (x.offset, x.type) | none => none
  | _ => none

def kindEq : IntKind → IntKind → Bool
  | .i8, .i8 | .i16, .i16 | .i32, .i32 | .i64, .i64 | .u8, .u8 | .u16, .u16 | .u32, .u32 | .u64, .u64 => true
  | _, _ => false

def V.isInt (k : IntKind) : V → Bool | .int k' _ => kindEq k k' | _ => false
def V.deLp : V → V
  | .lp _ _ | .opt _ _ => .undef
  | v => v
def V.isBool : V → Bool | .bool _ => true | _ => false
def V.isStr : V → Bool | .str _ => true | _ => false
def V.isSl (es : Nat) : V → Bool | .sl es' _ _ => es' == es | _ => false
def V.isAgg (n : Nat) : V → Bool | .agg cs => Nat.beq cs.length n | _ => false
def V.isTup (n : Nat) : V → Bool | .tup vs => Nat.beq vs.length n | _ => false
def V.cells : V → List V | .agg cs => cs | _ => []
def V.vs : V → List V | .tup vs => vs | _ => []
def V.num : V → Int | .int _ n => n | _ => 0
def V.flag : V → Bool | .bool b => b | _ => false
def V.text : V → ByteArray | .str s => s | _ => .empty
def V.els : V → List (List V) | .sl _ l _ => l | _ => []
def V.right : V → G | .sl _ _ g => g | _ => .no

/-- A slice that may be written to. -/
def V.isRef (es : Nat) : V → Bool
  | .sref e _ _ _ _ => Nat.beq e es
  | _ => false
def V.rl : V → Nat
  | .sref _ l _ _ _ => l
  | _ => 0
def V.ro : V → Nat
  | .sref _ _ o _ _ => o
  | _ => 0
def V.rn : V → Nat
  | .sref _ _ _ n _ => n
  | _ => 0
def V.rc : V → Nat
  | .sref _ _ _ _ c => c
  | _ => 0

/-- A value by the shape that its type gives it. 'm': of slices: 0: they are values; 1: they may be written to; else: as they come. -/
def shV (P : Program) (m : Nat) (t : TypeId) (c : Prop) (v : V) : Q :=
  match P.underlying t with
  | some .bool => .chk (c ∧ v.isBool = true) (.bool v.flag)
  | some (.int k) => .chk (c ∧ v.isInt k = true) (.int k v.num)
  | some .string => .chk (c ∧ v.isStr = true) (.str v.text)
  | some (.slice e) => match m with
    | 0 => .chk (c ∧ v.isSl (P.cellsOf e) = true) (.sl (P.cellsOf e) v.els v.right)
    | 1 => .chk (c ∧ v.isRef (P.cellsOf e) = true) (.sref (P.cellsOf e) v.rl v.ro v.rn v.rc)
    | _ => .chk (c ∧ (v.isSl (P.cellsOf e) || v.isRef (P.cellsOf e)) = true) v.deLp
  | some (.struct _) | some (.array _ _) => .chk (c ∧ v.isAgg (P.cellsOf t) = true) (.agg v.cells)
  | _ => .chk (c ∧ v.plain = true) v.deLp

/-- A part of a row of cells: a variable of type t. -/
def rdQ (P : Program) (m : Nat) (t : TypeId) (cs : List V) (off : Nat) : Q :=
  match okT P t, (P.underlying t).isSome, aggT P t with
  | true, true, true => .chk (off + P.cellsOf t ≤ cs.length) (.agg ((cs.drop off).take (P.cellsOf t)))
  | true, true, false => shV P m t (off < cs.length) (cs.getD off .undef)
  | _, _, _ => .bad

def loadQ (P : Program) (m : Nat) (fr : Fr) (h : Heap) (t : TypeId) : V → Q
  | .ptr l off => rdQ P m t (cellsAt h l) off
  | .lp d off => rdQ P m t (fr.var d) off
  | .cptr cs off => rdQ P m t cs off
  | _ => .bad

def nilQ : V → Q
  | .ptr l off => .ok (.ptr l off)
  | .lp d off => .ok (.lp d off)
  | .cptr cs off => .ok (.cptr cs off)
  | .fn (.func f) a b => .ok (.fn (.func f) a b)
  | _ => .bad

def moved (n : Nat) : V → Q
  | .ptr l off => .ok (.ptr l (off + n))
  | .lp d off => .ok (.lp d (off + n))
  | .cptr cs off => .ok (.cptr cs (off + n))
  | _ => .bad

def fieldAddrQ (P : Program) (s : TypeId) (x : V) (f : Nat) : Q :=
  match fieldOf P s f with
  | some (o, t) => match okT P t, P.cellsOf t with
    | true, _ + 1 => moved o x
    | _, _ => .bad
  | none => .bad

/-- Where an element of an array lies, of a slice. -/
def indexAddrQ (P : Program) (t : TypeId) (x i : V) : Q :=
  match i with
  | .int _ n =>
    match P.underlying t with
    | some (.array len e) =>
      match okT P e with
      | true =>
        match x with
        | .ptr l off => .chk (0 ≤ n ∧ n < len) (.ptr l (off + n.toNat * P.cellsOf e))
        | .lp d off => .chk (0 ≤ n ∧ n < len) (.lp d (off + n.toNat * P.cellsOf e))
        | .cptr cs off => .chk (0 ≤ n ∧ n < len) (.cptr cs (off + n.toNat * P.cellsOf e))
        | _ => .bad
      | false => .bad
    | some (.slice e) =>
      match okT P e with
      | true =>
        match x with
        | .sl es l _ => match es == P.cellsOf e with
          | true => .chk (0 ≤ n ∧ n < l.length) (.cptr (l.getD n.toNat []) 0)
          | false => .bad
        | .sref es l off len _ => match es == P.cellsOf e with
          | true => .chk (0 ≤ n ∧ n < len) (.ptr l (off + n.toNat * es))
          | false => .bad
        | _ => .bad
      | false => .bad
    | _ => .bad
  | _ => .bad

def fieldQ (P : Program) (m : Nat) (t : TypeId) (x : V) (f : Nat) : Q :=
  match fieldOf P t f with
  | some (o, t) => match x with | .agg cs => rdQ P m t cs o | _ => .bad
  | none => .bad

def Q.also (c : Prop) : Q → Q
  | .ok v => .chk c v
  | .chk d v => .chk (c ∧ d) v
  | .bad => .bad

/-- An element of an array that is a value; a text's byte. -/
def indexQ (P : Program) (m : Nat) (t : TypeId) (x i : V) : Q :=
  match i with
  | .int _ n =>
    match P.underlying t with
    | some (.array len e) => match x with
      | .agg cs => (rdQ P m e cs (n.toNat * P.cellsOf e)).also (0 ≤ n ∧ n < len)
      | _ => .bad
    | some .string => match x with
      | .str s => .chk (0 ≤ n ∧ n < s.size) (.int .u8 (s.data.getD n.toNat 0).toNat)
      | _ => .bad
    | _ => .bad
  | _ => .bad

def intQ (op : BinOp) (k : IntKind) (a b : Int) : Q :=
  match op with
  | .add => .ok (.int k (k.wrap (a + b)))
  | .sub => .ok (.int k (k.wrap (a - b)))
  | .mul => .ok (.int k (k.wrap (a * b)))
  | .quo => .chk (b ≠ 0) (.int k (k.wrap (a.tdiv b)))
  | .rem => .chk (b ≠ 0) (.int k (a.tmod b))
  | .and => .ok (.int k (k.wrap ((BitVec.ofInt k.bits a &&& BitVec.ofInt k.bits b).toNat : Nat)))
  | .or => .ok (.int k (k.wrap ((BitVec.ofInt k.bits a ||| BitVec.ofInt k.bits b).toNat : Nat)))
  | .xor => .ok (.int k (k.wrap ((BitVec.ofInt k.bits a ^^^ BitVec.ofInt k.bits b).toNat : Nat)))
  | .andNot => .ok (.int k (k.wrap ((BitVec.ofInt k.bits a &&& ~~~(BitVec.ofInt k.bits b)).toNat : Nat)))
  | .eql => .ok (.bool (a == b))
  | .neq => .ok (.bool (a != b))
  | .lss => .ok (.bool (decide (a < b)))
  | .leq => .ok (.bool (decide (a ≤ b)))
  | .gtr => .ok (.bool (decide (b < a)))
  | .geq => .ok (.bool (decide (b ≤ a)))
  | _ => .bad

def shiftQ (op : BinOp) (k : IntKind) (a b : Int) : Q :=
  match op with
  | .shl => .chk (0 ≤ b) (.int k (k.wrap (a * 2 ^ min b.toNat k.bits)))
  | .shr => .chk (0 ≤ b) (.int k (a.fdiv (2 ^ min b.toNat k.bits)))
  | _ => .bad

def eqlCell : V → V → Bool
  | .bool a, .bool b => a == b
  | .int _ a, .int _ b => a == b
  | .str a, .str b => a == b
  | _, _ => false

def eqlCells : List V → List V → Bool
  | [], [] => true
  | a :: r, b :: s => eqlCell a b && eqlCells r s
  | _, _ => false

/-- '==' on what is nil, or is not. -/
def nilEql (x y : V) : Option Bool :=
  match x, y with
  | .nilp, .nilp => some true
  | .nilp, .ptr _ _ | .nilp, .cptr _ _ | .nilp, .lp _ _ | .ptr _ _, .nilp | .cptr _ _, .nilp | .lp _ _, .nilp => some false
  | .nilif, .iface _ _ | .iface _ _, .nilif => some false
  | .nilfn, .nilfn => some true
  | .nilfn, .fn _ _ _ | .fn _ _ _, .nilfn => some false
  | .map none, .map none => some true
  | .map none, .map (some _) | .map (some _), .map none => some false
  | _, _ => none

def ptrT (P : Program) (t : TypeId) : Bool := match P.underlying t with | some (.pointer _) => true | _ => false
def ifaceT (P : Program) (t : TypeId) : Bool := match P.underlying t with | some (.interface _) => true | _ => false
def boolT (P : Program) (t : TypeId) : Bool := match P.underlying t with | some .bool => true | _ => false

def neg (b : Bool) (v : Bool) : Bool := match b with | true => !v | false => v

def unQ (op : UnOp) : V → Q
  | .bool b => match op with | .not => .ok (.bool (!b)) | _ => .bad
  | .int k n => match op with
    | .neg => .ok (.int k (k.wrap (0 - n)))
    | .xor => .ok (.int k (k.wrap ((BitVec.ofInt k.bits (if k.signed then -1 else k.max) ^^^ BitVec.ofInt k.bits n).toNat : Nat)))
    | _ => .bad
  | _ => .bad

def isByte : List V → Bool
  | [.int k _] => kindEq k .u8
  | _ => false
def byteOf (e : List V) : UInt8 := UInt8.ofNat (e.headD .undef).num.toNat
def zeroIsByte (P : Program) (e : TypeId) : Bool := match P.underlying e with | some (.int k) => kindEq k .u8 | _ => false
/-- Bytes as a text; a text's bytes. -/
def textOf (l : List (List V)) : ByteArray := ⟨(l.map byteOf).toArray⟩
def bytesOf (s : ByteArray) : List (List V) := s.data.toList.map fun b => [.int .u8 b.toNat]

/-- Cells as elements. -/
def chunks (es : Nat) : Nat → List V → List (List V)
  | 0, _ => []
  | n + 1, cs => cs.take es :: chunks es n (cs.drop es)

def convQ (P : Program) (h : Heap) (src dst : TypeId) (x : V) : Q :=
  match P.underlying src, P.underlying dst, x with
  | some _, some (.int k), .int _ n => .ok (.int k (k.wrap n))
  | some (.slice e), some .string, .sl es l _ => match zeroIsByte P e, es with
    | true, 1 => .chk (l.all isByte = true) (.str (textOf l))
    | _, _ => .bad
  | some (.slice e), some .string, .sref es l off n _ => match zeroIsByte P e, es with
    | true, 1 => .chk ((n = 0 ∨ off + n ≤ (cellsAt h l).length) ∧ (chunks 1 n ((cellsAt h l).drop off)).all isByte = true) (.str (textOf (chunks 1 n ((cellsAt h l).drop off))))
    | _, _ => .bad
  | some .string, some (.slice e), .str s => match zeroIsByte P e with | true => .ok (.sl 1 (bytesOf s) .no) | false => .bad
  | _, _, _ => .bad

def boolOf : V → Option (Option Bool × Bool)
  | .bool x => some (none, x)
  | .opt b v => match v, b with
    | .bool x, b => some (some b, x)
    | _, false => some (some false, false)
    | _, true => none
  | .undef => some (some false, false)
  | _ => none

def validIf (t : Prop) : Option Bool → Prop → Prop
  | none, R => R
  | some b, R => (t → b = true) ∧ R

/-- 'pick': both are bools; the one that is taken must be there. -/
def pickQ (c a b : V) : Q :=
  match c with
  | .bool t => match boolOf a, boolOf b with
    | some (ga, x), some (gb, y) => .chk (validIf (t = true) ga (validIf (t = false) gb True)) (.bool (cond t x y))
    | _, _ => .bad
  | _ => .bad

def extractQ (x : V) (i : Nat) : Q :=
  match x with
  | .tup vs => match vs[i]? with | some v => .chk (v.plain = true) v.deLp | none => .bad
  | _ => .bad

def lenQ (P : Program) (t : TypeId) (x : V) : Q :=
  match P.underlying t with
  | some (.slice _) => match x with
    | .sl _ l _ => .ok (.int .i64 l.length)
    | .sref _ _ _ n _ => .ok (.int .i64 n)
    | _ => .bad
  | some .string => match x with | .str s => .ok (.int .i64 s.size) | _ => .bad
  | some (.array n _) => .ok (.int .i64 n)
  | _ => .bad

def minmaxQ (mx : Bool) : List V → Q
  | [.int k a, .int k' b] => match kindEq k k' with
    | true => .ok (.int k (match mx with | true => if a < b then b else a | false => if b < a then b else a))
    | false => .bad
  | _ => .bad

/-- What is written: the cells of a value. -/
def cellsQ (size : Nat) (v : V) : Option (List V × Prop) :=
  match v with
  | .agg cs => some (cs, cs.length = size)
  | v => match v.one, size with | true, 1 => some ([v], True) | _, _ => none

/-- Parts laid into a row of n cells, each at its place. -/
def layQ (place : Nat → Option (Nat × Nat)) (n : Nat) : List V → List (Nat × V) → Option (List V × Prop)
  | cs, [] => some (cs, True)
  | cs, (i, v) :: r =>
    match place i with
    | none => none
    | some (off, size) =>
      match decide (off + size ≤ n), cellsQ size v with
      | true, some (new, c) =>
        match layQ place n (cs.take off ++ new ++ cs.drop (off + size)) r with
        | some (cs', c') => some (cs', c ∧ c')
        | none => none
      | _, _ => none

/-- The zero value of a type, as cells. -/
def zeroC (P : Program) : Nat → TypeId → Option (List V)
  | 0, _ => none
  | n + 1, t => match P.underlying t with
    | some .bool => some [.bool false]
    | some (.int k) => some [.int k 0]
    | some .string => some [.str .empty]
    | some (.pointer _) => some [.nilp]
    | some (.slice e) => some [.sl (P.cellsOf e) [] .full]
    | some (.map _ _) => some [.map none]
    | some (.func _ _ _) => some [.nilfn]
    | some (.interface _) => some [.nilif]
    | some (.struct fs) => fs.toList.foldr (fun f acc => match zeroC P n f.type, acc with | some a, some b => some (a ++ b) | _, _ => none) (some [])
    | some (.array k e) => (zeroC P n e).map fun z => (List.replicate k z).flatten
    | _ => none

def zeroIs : V → Value → Bool
  | .bool a, .bool b => a == b
  | .int k a, .int k' b => kindEq k k' && a == b
  | .str a, .string b => a.data == b.data
  | .nilp, .pointer none => true
  | .sl _ [] .full, .slice none 0 0 => true
  | .map none, .map none => true
  | .nilfn, .nilFunc => true
  | .nilif, .nilIface => true
  | _, _ => false

def zeroAll : List V → List Value → Bool
  | [], [] => true
  | v :: r, x :: s => zeroIs v x && zeroAll r s
  | _, _ => false

/-- The zero value's cells, held against the program's own table. -/
def zeroV (P : Program) (t : TypeId) : Option (List V) :=
  match zeroC P 20 t, P.info? t with
  | some cs, some i => match i.zero with
    | some z => match zeroAll cs z.cells.toList && decide (cs.length = i.size) with | true => some cs | false => none
    | none => none
  | _, _ => none

/-- Cells of the kinds of others. -/
def fits : List V → List V → Bool
  | [], [] => true
  | .bool _ :: r, .bool _ :: s => fits r s
  | .int k _ :: r, .int k' _ :: s => kindEq k k' && fits r s
  | .str _ :: r, .str _ :: s => fits r s
  | _, _ => false

/-- Types of which '==' looks at every cell, each a number, a bool or a text. -/
def plainT (P : Program) : Nat → TypeId → Bool
  | 0, _ => false
  | n + 1, t => match P.underlying t with
    | some .bool | some (.int _) | some .string => P.cellsOf t == 1
    | some (.struct fs) => !P.stoodInHeld t && fs.toList.foldr (fun f k off => f.name != "_" && f.offset == off && okT P f.type && (P.underlying f.type).isSome && plainT P n f.type
        && (match zeroC P n f.type with | some z => z.length == P.cellsOf f.type | none => false) && k (off + P.cellsOf f.type)) (fun off => off == P.cellsOf t) 0
    | some (.array k e) => okT P e && (P.underlying e).isSome && plainT P n e && (match zeroC P n e with | some z => z.length == P.cellsOf e | none => false) && k * P.cellsOf e == P.cellsOf t
    | _ => false

/-- '==' on structs and arrays: the kinds of their cells. -/
def eqKinds (P : Program) (t : TypeId) : Option (List V) :=
  match plainT P 20 t && !P.eqGuardType P.depth t with
  | true => zeroC P 20 t
  | false => none

/-- '==' and '!=' ('no': '!='). -/
def funcT (P : Program) (t : TypeId) : Bool := match P.underlying t with | some (.func _ _ _) => true | _ => false

def mapT (P : Program) (t : TypeId) : Bool := match P.underlying t with | some (.map _ _) => true | _ => false

def eqlQ (P : Program) (no : Bool) (t : TypeId) (x y : V) : Q :=
  match x, y with
  | .nilfn, .nilfn => match funcT P t with | true => .ok (.bool (neg no true)) | false => .bad
  | .nilfn, .fn _ _ _ => match funcT P t with | true => .ok (.bool (neg no false)) | false => .bad
  | .fn _ _ _, .nilfn => match funcT P t with | true => .ok (.bool (neg no false)) | false => .bad
  | .bool a, .bool b => match boolT P t with | true => .ok (.bool (neg no (a == b))) | false => .bad
  | .nilp, y => match ptrT P t, nilEql .nilp y with | true, some b => .ok (.bool (neg no b)) | _, _ => .bad
  | x, .nilp => match ptrT P t, nilEql x .nilp with | true, some b => .ok (.bool (neg no b)) | _, _ => .bad
  | .nilif, .iface u v => match ifaceT P t with | true => .ok (.bool (neg no false)) | false => .bad
  | .iface u v, .nilif => match ifaceT P t with | true => .ok (.bool (neg no false)) | false => .bad
  | .agg cs, .agg ds => match aggT P t, eqKinds P t with
    | true, some z => .chk (fits z cs = true ∧ fits z ds = true) (.bool (neg no (eqlCells cs ds)))
    | _, _ => .bad
  | .map a, .map none => match mapT P t with | true => .ok (.bool (neg no a.isNone)) | false => .bad
  | .map none, .map (some b) => match mapT P t with | true => .ok (.bool (neg no false)) | false => .bad
  | _, _ => .bad

/-- Texts. -/
def strQ (op : BinOp) (a b : ByteArray) : Q :=
  match op with
  | .eql => .ok (.bool (a.data.toList == b.data.toList))
  | .neq => .ok (.bool (!(a.data.toList == b.data.toList)))
  | .add => .chk (a.size + b.size ≤ 4611686018427387904) (.str (a ++ b))
  | _ => .bad

def binQ (P : Program) (op : BinOp) (t : TypeId) (x y : V) : Q :=
  match x, y with
  | .str a, .str b => strQ op a b
  | .int k a, .int k' b =>
    match op with
    | .shl | .shr => shiftQ op k a b
    | _ => match kindEq k k' with | true => intQ op k a b | false => .bad
  | x, y => match op with
    | .eql => eqlQ P false t x y
    | .neq => eqlQ P true t x y
    | _ => .bad

/-- Two nil values of an interface type, one of them the text's own nil. -/
def nilC : Operand → Bool
  | .const .nilIface => true
  | _ => false
def nilNilQ (P : Program) (op : BinOp) (t : TypeId) : Q :=
  match ifaceT P t, op with
  | true, .eql => .ok (.bool true)
  | true, .neq => .ok (.bool false)
  | _, _ => .bad
def binQn (P : Program) (op : BinOp) (t : TypeId) (x y : Operand) (u v : V) : Q :=
  match nilC x || nilC y, u, v with
  | true, .nilif, .nilif => nilNilQ P op t
  | _, _, _ => binQ P op t u v

def placesOf (P : Program) (t : TypeId) : Option (Nat → Option (Nat × Nat)) :=
  match P.underlying t with
  | some (.struct fs) => match fs.toList.all (fun f => okT P f.type) with
    | true => some fun i => match fs[i]? with | some f => some (f.offset, P.cellsOf f.type) | none => none
    | false => none
  | some (.array _ e) => match okT P e with | true => some fun i => some (i * P.cellsOf e, P.cellsOf e) | false => none
  | _ => none

def buildQ (P : Program) (t : TypeId) (parts : List (Nat × V)) : Q :=
  match zeroV P t, placesOf P t with
  | some z, some pl => match layQ pl (P.cellsOf t) z parts with | some (cs, c) => .chk c (.agg cs) | none => .bad
  | _, _ => .bad

/-- Elements of a slice that is written out. -/
def elems (size : Nat) : List V → Option (List (List V) × Prop)
  | [] => some ([], True)
  | v :: r =>
    match cellsQ size v, elems size r with
    | some (new, c), some (l, c') => some (new :: l, c ∧ c')
    | _, _ => none

def buildSliceQ (P : Program) (t : TypeId) (n : Nat) (parts : List (Nat × V)) : Q :=
  match P.underlying t with
  | some (.slice e) => match zeroV P e, P.cellsOf e, decide (n * P.cellsOf e ≤ 16777216) && (parts.map (·.1) == List.range n) with
    | some _, s + 1, true => match elems (s + 1) (parts.map (·.2)) with | some (l, c) => .chk c (.sl (s + 1) l .full) | none => .bad
    | _, _, _ => .bad
  | _ => .bad

def bndI (v : Option V) (d : Int) : Option Int :=
  match v with
  | none => some d
  | some (.int _ n) => some n
  | _ => none

/-- A part of a slice that may be written to, of an array. -/
def sliceR (es l off cap n : Nat) (lo hi mx : Option V) : Q :=
  match bndI lo 0, bndI hi n, bndI mx cap, (match mx, hi with | some _, none => false | _, _ => true) with
  | some a, some b, some c, true => .chk (0 ≤ a ∧ a ≤ b ∧ b ≤ c ∧ c ≤ cap) (.sref es l (match c == a with | true => off | false => off + a.toNat * es) (b - a).toNat (c - a).toNat)
  | _, _, _, _ => .bad

def sliceQ (P : Program) (t : TypeId) (x : V) (lo hi mx : Option V) : Q :=
  match P.underlying t with
  | some (.slice e) =>
    match okT P e, x with
    | true, .sl es l g =>
      match es == P.cellsOf e, mx with
      | true, none => match bndI lo 0, bndI hi l.length with
        | some a, some b => .chk (0 ≤ a ∧ a ≤ b ∧ b ≤ l.length) (.sl es ((l.take b.toNat).drop a.toNat) .no)
        | _, _ => .bad
      | true, some m => match bndI lo 0, (match hi with | some b => bndI (some b) 0 | none => none), bndI (some m) 0 with
        | some a, some b, some c => .chk (0 ≤ a ∧ a ≤ b ∧ b ≤ l.length ∧ c = b) (.sl es ((l.take b.toNat).drop a.toNat) .full)
        | _, _, _ => .bad
      | false, _ => .bad
    | true, .sref es l off n cap =>
      match es == P.cellsOf e with
      | true => sliceR es l off cap n lo hi mx
      | false => .bad
    | _, _ => .bad
  | some .string => match x, mx, bndI lo 0 with
    | .str s, none, some a => match bndI hi s.size with
      | some b => .chk (0 ≤ a ∧ a ≤ b ∧ b ≤ s.size) (.str (s.extract a.toNat b.toNat))
      | none => .bad
    | _, _, _ => .bad
  | some (.array len e) => match okT P e, x with
    | true, .ptr l off => sliceR (P.cellsOf e) l off len len lo hi mx
    | _, _ => .bad
  | _ => .bad

def keyEq : V → V → Option Bool
  | .int k a, .int k' b => match kindEq k k' with | true => some (a == b) | false => none
  | .str a, .str b => some (a == b)
  | .bool a, .bool b => some (a == b)
  | _, _ => none

def findV (k : V) : List (V × V) → Option (Option V)
  | [] => some none
  | e :: r => match keyEq k e.1 with
    | some true => some (some e.2)
    | some false => findV k r
    | none => none

def mapAt (h : Heap) : V → Option (List (V × V))
  | .map none => some []
  | .map (some r) => match h r with | some (.obj (.map es)) => some es | _ => none
  | _ => none

def fitK (d : TypeDesc) (k : V) : Bool :=
  match d, k with
  | .int k', .int k _ => kindEq k k'
  | .string, .str _ => true
  | .bool, .bool _ => true
  | _, _ => false

def keyT (P : Program) (t : TypeId) (k : V) : Bool :=
  match P.underlying t with
  | some d => fitK d k
  | none => false

/-- The zero value of a type. -/
def zeroVal (P : Program) (t : TypeId) : Option V :=
  match zeroV P t, P.info? t with
  | some cs, some i => match i.zero, cs with
    | some (.agg _), cs => some (.agg cs)
    | some _, [v] => some v
    | _, _ => none
  | _, _ => none

/-- What a map has of a key. -/
def lookupQ (P : Program) (h : Heap) (t : TypeId) (x i : V) (ok : Bool) : Q :=
  match P.underlying t with
  | some (.map kt e) =>
    match keyT P kt i, mapAt h x with
    | true, some es =>
      match findV i es, zeroVal P e with
      | some (some v), _ => .chk (v.plain = true) (match ok with | true => .tup [v.deLp, .bool true] | false => v.deLp)
      | some none, some z => .chk (z.plain = true) (match ok with | true => .tup [z.deLp, .bool false] | false => z.deLp)
      | _, _ => .bad
    | _, _ => .bad
  | _ => .bad

/-- A quiet operation: it changes neither the heap nor a variable. -/
def qop (P : Program) (m : Nat) (fr : Fr) (h : Heap) (ρ : Operand → V) (o : Op) : Q :=
  match o with
  | .move x | .assign x => .ok (ρ x)
  | .build t ps => buildQ P t (ps.toList.map fun e => (e.1, ρ e.2))
  | .buildSlice t n ps => buildSliceQ P t n (ps.toList.map fun e => (e.1, ρ e.2))
  | .load t a => loadQ P m fr h t (ρ a)
  | .nilCheck x => nilQ (ρ x)
  | .binOp op t x y _ => binQn P op t x y (ρ x) (ρ y)
  | .unOp op _ x => unQ op (ρ x)
  | .convert s d x => convQ P h s d (ρ x)
  | .lookup t x i ok => lookupQ P h t (ρ x) (ρ i) ok
  | .fieldAddr s x f => fieldAddrQ P s (ρ x) f
  | .indexAddr t x i => indexAddrQ P t (ρ x) (ρ i)
  | .field t x f => fieldQ P m t (ρ x) f
  | .index t x i => indexQ P m t (ρ x) (ρ i)
  | .extract x i => extractQ (ρ x) i
  | .slice t x lo hi mx => sliceQ P t (ρ x) (lo.map ρ) (hi.map ρ) (mx.map ρ)
  | .makeFunc (.func f) a b => match (a.toList.map ρ).all V.plain && (b.toList.map ρ).all V.plain with
    | true => .ok (.fn (.func f) (a.toList.map ρ) (b.toList.map ρ))
    | false => .bad
  | .makeInterface t x => match P.underlying t, (ρ x).plain with
    | some (.interface _), _ => .bad
    | some _, true => .ok (.iface t (ρ x))
    | _, _ => .bad
  | .call c => match c.callee with
    | .builtin .len => match c.argTypes.toList, c.args.toList with
      | t :: _, x :: _ => lenQ P t (ρ x)
      | _, _ => .bad
    | .builtin .min => minmaxQ false (c.args.toList.map ρ)
    | .builtin .max => minmaxQ true (c.args.toList.map ρ)
    | _ => .bad
  | _ => .bad

/-- What a call's answer looks like by its type. -/
def ptrK (r : V) (A : Nat → Nat → Prop) (B : Prop) : Prop :=
  match r with
  | .ptr l off => A l off
  | .nilp => B
  | _ => False

/-- 'mt': slices that are told may be written to. -/
def shape1 (P : Program) (mt : Nat) (t : TypeId) (r : V) (K : V → Prop) : Prop :=
  match P.underlying t, mt with
  | some (.pointer _), _ => ptrK r (fun l off => K (.ptr l off)) (K .nilp)
  | some (.slice e), 1 => r.isRef (P.cellsOf e) = true ∧ K (.sref (P.cellsOf e) r.rl r.ro r.rn r.rc)
  | some (.slice e), 2 => (r.isSl (P.cellsOf e) || r.isRef (P.cellsOf e)) = true ∧ K r.deLp
  | _, 2 => r.plain = true ∧ K r.deLp
  | _, _ => (shV P 0 t True r).need K

def shapes (P : Program) (mt : Nat) : List TypeId → Nat → List V → (List V → Prop) → Prop
  | [], _, _, K => K []
  | t :: ts, i, vs, K => shape1 P mt t (vs.getD i .undef) fun v => shapes P mt ts (i + 1) vs fun l => K (v :: l)

def shapeW (P : Program) (mt : Nat) (t : TypeId) (r : V) (K : V → Prop) : Prop :=
  match P.underlying t with
  | some (.tuple ts) => r.isTup ts.toList.length = true ∧ shapes P mt ts.toList 0 r.vs fun vs => K (.tup vs)
  | _ => shape1 P mt t r K

def wrCells (cs : List V) (off : Nat) (new : List V) : List V := cs.take off ++ new ++ cs.drop (off + new.length)

def storeW (P : Program) (t : TypeId) (a v : V) (fr : Fr) (h : Heap) (K : Fr → Heap → Prop) : Prop :=
  match okT P t, P.cellsOf t with
  | true, s + 1 =>
    match cellsQ (s + 1) v with
    | none => False
    | some (new, c) =>
      match a with
      | .ptr l off => c ∧ off + (s + 1) ≤ (cellsAt h l).length ∧ K fr (h.upd l (.cells (wrCells (cellsAt h l) off new)))
      | .lp d off => c ∧ off + (s + 1) ≤ (fr.var d).length ∧ K { fr with lc := lcSet d (wrCells (fr.var d) off new) fr.lc } h
      | _ => False
  | _, _ => False

/-- 'append' of elements to a slice value. -/
def mostLen : Nat := 4294967296

/-- What is appended: a slice's elements, a text's bytes. -/
def srcQ (P : Program) (t2 : TypeId) (size : Nat) (y : V) : Option (List (List V)) :=
  match P.underlying t2, y with
  | some (.slice _), .sl es m _ => match es == size with | true => some m | false => none
  | some .string, .str s => match size with | 1 => some (s.data.toList.map fun b => [.int .u8 b.toNat]) | _ => none
  | _, _ => none

/-- The room for what is appended. -/
def appG (es n m : Nat) (g : G) (h : Heap) (K : G → Heap → Prop) : Prop :=
  match g with
  | .own s => h s = some (.grow es n) ∧ K (.own s) (h.upd s (.grow es (n + m)))
  | .full => match m with
    | 0 => K .full h
    | _ + 1 => ∀ s, h s = none → K (.own s) (h.upd s (.grow es (n + m)))
  | .no => False

def appendW (P : Program) (t t2 : TypeId) (x y : V) (h : Heap) (K : V → Heap → Prop) : Prop :=
  match P.underlying t with
  | some (.slice e) =>
    match P.info? e with
    | some i =>
      match decide (0 < i.size) && decide (i.bytes ≤ 4096), zeroV P e, x, srcQ P t2 i.size y with
      | true, some _, .sl es l g, some m =>
        match es == i.size with
        | true =>
          l.length + m.length ≤ mostLen ∧ appG es l.length m.length g h fun g' h' => K (.sl es (l ++ m) g') h'
        | false => False
      | _, _, _, _ => False
    | none => False
  | _ => False

/-- What comes of 'append' to a slice that may be written to: it is written on where there is room, or all is copied to a new block. -/
def AppTo (es : Nat) (h : Heap) (l off n cap : Nat) (m : List (List V)) (l' off' cap' : Nat) (h' : Heap) : Prop :=
  (n + m.length ≤ cap ∧ l' = l ∧ off' = off ∧ cap' = cap ∧ h' = h.upd l (.cells (wrCells (cellsAt h l) (off + n * es) m.flatten))) ∨
  (cap < n + m.length ∧ n + m.length ≤ cap' ∧ h l' = none ∧ off' = 0 ∧
    ∃ rest : List V, rest.length = (cap' - (n + m.length)) * es ∧ h' = h.upd l' (.cells (((cellsAt h l).drop off).take (n * es) ++ m.flatten ++ rest)))

def appendM (P : Program) (t t2 : TypeId) (x y : V) (h : Heap) (K : V → Heap → Prop) : Prop :=
  match P.underlying t with
  | some (.slice e) =>
    match P.info? e with
    | some i =>
      match decide (0 < i.size) && decide (i.bytes ≤ 4096), zeroV P e, x, srcQ P t2 i.size y with
      | true, some _, .sref es l off n cap, some m =>
        match es == i.size with
        | true =>
          n + m.length ≤ mostLen ∧ 0 < m.length ∧ off + cap * es ≤ (cellsAt h l).length ∧
            ∀ l' off' cap' h', AppTo es h l off n cap m l' off' cap' h' → K (.sref es l' off' (n + m.length) cap') h'
        | false => False
      | _, _, _, _ => False
    | none => False
  | _ => False

/-- What is appended, or copied, wherever it lies. -/
def srcH (P : Program) (h : Heap) (t2 : TypeId) (size : Nat) (y : V) : Option (List (List V) × Prop) :=
  match P.underlying t2, y with
  | some (.slice _), .sref es l off n _ => match es == size with | true => some (chunks es n ((cellsAt h l).drop off), n = 0 ∨ off + n * es ≤ (cellsAt h l).length) | false => none
  | _, y => match srcQ P t2 size y with | some m => some (m, True) | none => none

/-- 'append', of whatever kind the slices are. -/
def appendD (P : Program) (t t2 : TypeId) (x y : V) (h : Heap) (K : V → Heap → Prop) : Prop :=
  match P.underlying t with
  | some (.slice e) =>
    match P.info? e with
    | some i =>
      match decide (0 < i.size) && decide (i.bytes ≤ 4096), zeroV P e, srcH P h t2 i.size y with
      | true, some _, some (m, c) =>
        c ∧ match x with
        | .sref es l off n cap =>
          match es == i.size with
          | true => n + m.length ≤ mostLen ∧ (n = 0 ∨ off + n * es ≤ (cellsAt h l).length) ∧ (0 < m.length → off + cap * es ≤ (cellsAt h l).length) ∧
              (m = [] → K (.sref es l off n cap) h) ∧ (0 < m.length → ∀ l' off' cap' h', AppTo es h l off n cap m l' off' cap' h' → K (.sref es l' off' (n + m.length) cap') h')
          | false => False
        | .sl es l .full =>
          match es == i.size with
          | true => l.length + m.length ≤ mostLen ∧ (m = [] → K (.sl es l .full) h) ∧
              (0 < m.length → ∀ (k cap : Nat) (rest : List V), h k = none → l.length + m.length ≤ cap → rest.length = (cap - (l.length + m.length)) * es →
                K (.sref es k 0 (l.length + m.length) cap) (h.upd k (.cells ((l ++ m).flatten ++ rest))))
          | false => False
        | _ => False
      | _, _, _ => False
    | none => False
  | _ => False

def appendX (P : Program) (mt : Nat) (t t2 : TypeId) (x y : V) (h : Heap) (K : V → Heap → Prop) : Prop :=
  match mt with
  | 0 => appendW P t t2 x y h K
  | 1 => appendM P t t2 x y h K
  | _ => appendD P t t2 x y h K

/-- 'copy'. -/
def copyW (P : Program) (t t2 : TypeId) (x y : V) (h : Heap) (K : V → Heap → Prop) : Prop :=
  match P.underlying t with
  | some (.slice e) =>
    match P.info? e with
    | some i =>
      match srcH P h t2 i.size y, x with
      | some (m, c), .sref es l off n _ =>
        match es == i.size with
        | true => c ∧ 0 < i.size ∧ off + n * es ≤ (cellsAt h l).length ∧ h l = some (.cells (cellsAt h l)) ∧
            K (.int .i64 (min m.length n : Nat)) (h.upd l (.cells (wrCells (cellsAt h l) off (m.take n).flatten)))
        | false => False
      | some (_, c), .sl _ [] _ => c ∧ 0 < i.size ∧ K (.int .i64 0) h
      | _, _ => False
    | none => False
  | _ => False

/-- 'clear' of a slice. -/
def clearW (P : Program) (t : TypeId) (x : V) (h : Heap) (K : V → Heap → Prop) : Prop :=
  match P.underlying t with
  | some (.slice e) =>
    match P.info? e with
    | some i =>
      match zeroV P e, x with
      | some z, .sref es l off n _ =>
        match es == i.size with
        | true => 0 < i.size ∧ off + n * es ≤ (cellsAt h l).length ∧ h l = some (.cells (cellsAt h l)) ∧ K (.tup []) (h.upd l (.cells (wrCells (cellsAt h l) off (List.replicate n z).flatten)))
        | false => False
      | _, _ => False
    | none => False
  | _ => False

/-- How many a map has. -/
def lenMW (P : Program) (t : TypeId) (x : V) (h : Heap) (K : V → Heap → Prop) : Prop :=
  match P.underlying t, mapAt h x with
  | some (.map _ _), some es => K (.int .i64 es.length) h
  | _, _ => False

/-- A new slice of zeros. -/
def makeSliceW (P : Program) (t : TypeId) (n c : V) (h : Heap) (K : V → Heap → Prop) : Prop :=
  match P.underlying t with
  | some (.slice e) =>
    match P.info? e with
    | some i =>
      match zeroV P e, n, c, decide (0 < i.size) && decide (i.bytes ≤ 4096) with
      | some z, .int _ a, .int _ b, true => 0 ≤ a ∧ a ≤ b ∧ b ≤ mostLen ∧
          ∀ k, h k = none → K (.sref i.size k 0 a.toNat b.toNat) (h.upd k (.cells (List.replicate b.toNat z).flatten))
      | _, _, _, _ => False
    | none => False
  | _ => False

def updV (k v : V) : List (V × V) → Option (List (V × V))
  | [] => some [(k, v)]
  | e :: r => match keyEq k e.1 with
    | some true => some ((k, v) :: r)
    | some false => match updV k v r with | some l => some (e :: l) | none => none
    | none => none

def mapUpdateW (P : Program) (t : TypeId) (x k v : V) (h : Heap) (K : Heap → Prop) : Prop :=
  match P.underlying t, x with
  | some (.map kt _), .map (some r) =>
    match keyT P kt k, h r, v.plain with
    | true, some (.obj (.map es)), true => match updV k v es with
      | some es' => K (h.upd r (.obj (.map es')))
      | none => False
    | _, _, _ => False
  | _, _ => False

/-- An operand, where nil may stand for a slice. -/
def typed (P : Program) (ρ : Operand → V) (t : TypeId) (x : Operand) : V :=
  match x with
  | .const (.slice none 0 0) => match P.underlying t with | some (.slice e) => .sl (P.cellsOf e) [] .full | _ => .undef
  | x => ρ x

def argsV (P : Program) (ρ : Operand → V) : List TypeId → List Operand → List V
  | _, [] => []
  | [], x :: r => ρ x :: argsV P ρ [] r
  | t :: ts, x :: r => typed P ρ t x :: argsV P ρ ts r

/-- An operation that changes the heap, or a variable. 'mt': its slices: 0: values; 1: they may be written to; 2: as they come. -/
def effW (P : Program) (mt : Nat) (o : Op) (ty : TypeId) (ρ : Operand → V) (fr : Fr) (h : Heap) (K : V → Fr → Heap → Prop) : Prop :=
  match o with
  | .alloc t => match zeroV P t with | some cs => ∀ l, h l = none → K (.ptr l 0) fr (h.upd l (.cells cs)) | none => False
  | .box t x => match okT P t, cellsQ (P.cellsOf t) (ρ x) with
    | true, some (cs, c) => c ∧ ∀ l, h l = none → K (.ptr l 0) fr (h.upd l (.cells cs))
    | _, _ => False
  | .store t a x => storeW P t (ρ a) (typed P ρ t x) fr h fun fr' h' => K .undef fr' h'
  | .buildSlice t n ps => match buildSliceQ P t n (ps.toList.map fun e => (e.1, ρ e.2)) with
    | .chk c (.sl es l _) => c ∧ ∀ k, h k = none → K (.sref es k 0 l.length l.length) fr (h.upd k (.cells l.flatten))
    | _ => False
  | .makeSlice t n c => makeSliceW P t (ρ n) (ρ c) h fun v h' => K v fr h'
  | .makeMap _ none => ∀ k, h k = none → K (.map (some k)) fr (h.upd k (.obj (.map [])))
  | .mapUpdate t m k v => mapUpdateW P t (ρ m) (ρ k) (ρ v) h fun h' => K .undef fr h'
  | .binOp op t x (.const (.slice none 0 0)) _ => match P.underlying t with
    | some (.slice _) => match op, ρ x with
      | .eql, .sl _ l _ => ∀ b : Bool, (l ≠ [] → b = false) → K (.bool b) fr h
      | .neq, .sl _ l _ => ∀ b : Bool, (l ≠ [] → b = false) → K (.bool !b) fr h
      | .eql, .sref _ _ _ n c => ∀ b : Bool, (n ≠ 0 → b = false) → K (.bool b) fr h
      | .neq, .sref _ _ _ n c => ∀ b : Bool, (n ≠ 0 → b = false) → K (.bool !b) fr h
      | _, _ => False
    | _ => False
  | .convert s d x => match s == d, P.underlying s, ρ x with
    | true, some (.slice e), .sref es l o n c => match zeroIsByte P e with | true => 0 < n ∧ h l = some (.cells (cellsAt h l)) ∧ K (.sref es l o n c) fr h | false => False
    | _, _, _ => False
  | .call c =>
    match c.callee with
    | .value f => match ρ f with
      | .fn (.func k) first caps => match (argsV P ρ c.argTypes.toList c.args.toList).all V.plain with
        | true => AnyW P k (first ++ argsV P ρ c.argTypes.toList c.args.toList ++ caps) h fun r h' => shapeW P mt ty r fun v => K v fr h'
        | false => False
      | .fn (.yield l) [] [] => match (argsV P ρ c.argTypes.toList c.args.toList).all V.plain with
        | true => YieldW P l (argsV P ρ c.argTypes.toList c.args.toList) h fun r h' => shapeW P mt ty r fun v => K v fr h'
        | false => False
      | _ => False
    | .builtin .append => match c.argTypes.toList, c.args.toList with
      | t :: t2 :: _, [x, y] => appendX P mt t t2 (typed P ρ t x) (typed P ρ t2 y) h fun v h' => K v fr h'
      | _, _ => False
    | .builtin .copy => match c.argTypes.toList, c.args.toList with
      | t :: t2 :: _, [x, y] => copyW P t t2 (typed P ρ t x) (typed P ρ t2 y) h fun v h' => K v fr h'
      | _, _ => False
    | .builtin .len => match c.argTypes.toList, c.args.toList with
      | t :: _, [x] => lenMW P t (ρ x) h fun v h' => K v fr h'
      | _, _ => False
    | .builtin .clear => match c.argTypes.toList, c.args.toList with
      | t :: _, [x] => clearW P t (typed P ρ t x) h fun v h' => K v fr h'
      | _, _ => False
    | _ => False
  | _ => False

def hasN (l : List Nat) (n : Nat) : Bool := l.any (Nat.beq n)

/-- Effects whose slot is named in 'esc': the slices that they tell may be written to. -/
def dstIn (o : Oper) (l : List Nat) : Bool := match o.dst with | some d => hasN l d | none => false

/-- 999999 in the list: slices as they come. -/
def dstMode (o : Oper) (l : List Nat) : Nat := match hasN l 999999, dstIn o l with
  | true, _ => 2
  | false, true => 1
  | false, false => 0

/-- 2000000 and a slot in the list: the slice that is written out there is a value. -/
def bsMode (o : Oper) (l : List Nat) : Nat := match (match o.dst with | some d => hasN l (2000000 + d) | none => false) with
  | true => 0
  | false => dstMode o l

/-- 4000000 and a slot in the list: the number told there is that of a map's entries. What sort an operation is of: 0 quiet; 1 it begins a variable of the frame's own; 2 it has an effect. -/
def sortOf (esc : List Nat) (o : Oper) : Nat :=
  match o.op with
  | .alloc _ | .box _ _ => (match o.dst with | some d => (match esc.contains d with | true => 2 | false => 1) | none => 2)
  | .buildSlice _ _ _ => (match bsMode o esc with | 0 => 0 | _ => 2)
  | .convert s d _ => (match s == d with | true => 2 | false => 0)
  | .binOp _ _ _ (.const (.slice none 0 0)) _ => 2
  | .store _ _ _ | .mapUpdate _ _ _ _ | .entryStore _ _ _ _ | .insert _ _ _ _ | .makeMap _ _ | .makeSlice _ _ _ | .mapEntry _ _ _ | .range _ _ | .next _ _ | .ready _ => 2
  | .call c => (match c.callee with
    | .builtin .len => (match (match o.dst with | some d => hasN esc (4000000 + d) | none => false) with | true => 2 | false => 0)
    | .builtin .min | .builtin .max | .builtin .cap => 0
    | _ => 2)
  | _ => 0

/-- All addresses of a variable are gone, when its slot is given another one. -/
def killV (d : Nat) : V → V
  | .lp e off => match Nat.beq e d with | true => .undef | false => .lp e off
  | .opt b (.lp e off) => match Nat.beq e d with | true => .undef | false => .opt b (.lp e off)
  | .opt _ (.opt _ _) => .undef
  | v => v

def ownVar (P : Program) (o : Op) (ρ : Operand → V) : Option (List V × Prop) :=
  match o with
  | .alloc t => match zeroV P t with | some cs => some (cs, True) | none => none
  | .box t x => match okT P t with | true => cellsQ (P.cellsOf t) (ρ x) | false => none
  | _ => none

def optNeed (g : Option Bool) (v : V) (R : Prop) : Prop :=
  match v with
  | .opt b _ => (match g with | none => b = true | some c => (c = true → b = true)) ∧ R
  | _ => R

def optNeeds (g : Option Bool) : List V → Prop → Prop
  | [], R => R
  | v :: r, R => optNeed g v (optNeeds g r R)

def Fr.put (fr : Fr) (dst : Option Tmp) (v : V) : Fr := match dst with | some d => { fr with tm := fr.tm.set d v } | none => fr

def putOpt (g : Option Bool) (v : V) : V := match g with | none => v | some b => .opt b v

/-- Is an operation carried out? 'none': yes. -/
def guardOf (ops : List Oper) (fr : Fr) (o : Oper) : Option (Option Bool) :=
  match o.guard with
  | none => some none
  | some (j, want) =>
    match ops[j]? with
    | some p => match p.dst with
      | some d => match fr.tm.getD d .undef with
        | .bool t => some (some (match want with | true => t | false => !t))
        | .opt b v => match v, b with
          | .bool t, b => some (some (b && (match want with | true => t | false => !t)))
          | _, false => some (some false)
          | _, true => none
        | _ => none
      | none => none
    | none => none

def isPick : Op → Bool
  | .pick _ _ _ => true
  | _ => false

/-- A slice without elements, of a type. -/
def nilSlQ (P : Program) (t : TypeId) : Q :=
  match P.underlying t with
  | some (.slice e) => .ok (.sl (P.cellsOf e) [] .full)
  | _ => .bad

/-- A quiet operation under a guard. -/
def quietQ (P : Program) (esc : List Nat) (fr : Fr) (h : Heap) (o : Oper) : Q :=
  match o.op with
  | .pick c a b => pickQ (fr.ev c).strip (fr.ev a) (fr.ev b)
  | .assign (.const (.slice none 0 0)) => nilSlQ P o.type
  | op => qop P (dstMode o esc) fr h (fun x => (fr.ev x).strip) op

def quietOps (o : Oper) (fr : Fr) : List V :=
  match o.op with
  | .pick c _ _ => [fr.ev c]
  | op => op.operands.toList.map fr.ev

def quietW (P : Program) (esc : List Nat) (g : Option Bool) (fr : Fr) (h : Heap) (o : Oper) (K : V → Prop) : Prop :=
  optNeeds g (quietOps o fr) <|
  match quietQ P esc fr h o, g with
  | .ok v, g => K (putOpt g v)
  | .chk c v, none => c ∧ K v
  | .chk c v, some b => (b = true → c) ∧ K (.opt b v)
  | .bad, none => False
  | .bad, some b => b = false ∧ K (.opt false .undef)

/-- A bool that parts the ways. -/
def brW (b : Bool) (T E : Prop) : Prop := match b with | true => T | false => E

/-- What a guarded effect tells, if it is one cell: it is there if the guard is true. -/
def yesV (P : Program) (t : TypeId) (b : Bool) (v : V) : V :=
  match P.underlying t with
  | some .bool | some (.int _) | some .string => .opt b v
  | _ => v
def noV (P : Program) (t : TypeId) (b : Bool) : V :=
  match P.underlying t with
  | some .bool => .opt b (.bool false)
  | some (.int k) => .opt b (.int k 0)
  | some .string => .opt b (.str .empty)
  | _ => .undef

def opW (P : Program) (esc : List Nat) (ops : List Oper) (o : Oper) (fr : Fr) (h : Heap) (K : Fr → Heap → Prop) : Prop :=
  match guardOf ops fr o with
  | none => False
  | some g =>
    match sortOf esc o with
    | 0 => quietW P esc g fr h o fun v => K (fr.put o.dst v) h
    | 1 => match g, o.dst, ownVar P o.op (fun x => (fr.ev x).strip) with
      | none, some d, some (cs, c) => optNeeds none (o.op.operands.toList.map fr.ev) (c ∧ K { tm := fr.tm.set d (.lp d 0), lc := lcSet d cs fr.lc } h)
      | _, _, _ => False
    | _ => match g with
      | none => optNeeds none (o.op.operands.toList.map fr.ev) (effW P (dstMode o esc) o.op o.type (fun x => (fr.ev x).strip) fr h fun v fr' h' => K (fr'.put o.dst v) h')
      | some b => brW b (optNeeds none (o.op.operands.toList.map fr.ev) (effW P (dstMode o esc) o.op o.type (fun x => (fr.ev x).strip) fr h fun v fr' h' => K (fr'.put o.dst (yesV P o.type b v)) h'))
          (K (fr.put o.dst (noV P o.type b)) h)

/-- Operations one behind the other. -/
def opsW (P : Program) (esc : List Nat) (ops : List Oper) : List Oper → Fr → Heap → (Fr → Heap → Prop) → Prop
  | [], fr, h, K => K fr h
  | o :: r, fr, h, K => opW P esc ops o fr h fun fr' h' => opsW P esc ops r fr' h' K

inductive Ex where
  | normal
  | exit (id : Nat)
  | goto (l : Nat)
  | ret

def condW (v : V) (T E : Prop) : Prop :=
  match v with
  | .bool b => brW b T E
  | _ => False

/-- The slots whose variables a region begins anew: their old addresses are gone. -/
def begun (esc : List Nat) : List Oper → List Nat
  | [] => []
  | o :: r => match sortOf esc o, o.dst with
    | 1, some d => d :: begun esc r
    | _, _ => begun esc r

def killAll : List Nat → Fr → Fr
  | [], fr => fr
  | d :: r, fr => killAll r { fr with tm := fr.tm.map (killV d) }

/-! A region whose order is free: the operations are gone through quiet ones first; the effects must stand in one row; what was read is read again behind each effect that need not wait for it. -/

def bindsOf (o : Oper) : List Nat := (o.after.toList.filter (Region.binds .any)).map (·.on)

def maskOf : List Nat → Nat
  | [] => 0
  | i :: r => maskOf r ||| (1 <<< i)

def readyM (masks : List Nat) (done i : Nat) : Bool :=
  !(done.testBit i) && match masks[i]? with | some m => (m &&& done) == m | none => false

def asap (masks sorts : List Nat) : Nat → Nat → List Nat
  | 0, _ => []
  | k + 1, done =>
    match (List.range masks.length).find? (fun i => readyM masks done i && (sorts.getD i 2 != 2)) with
    | some i => i :: asap masks sorts k (done ||| (1 <<< i))
    | none => match (List.range masks.length).find? (readyM masks done) with
      | some i => i :: asap masks sorts k (done ||| (1 <<< i))
      | none => []

def lookN (l : List (Nat × Nat)) (i : Nat) : Nat := match l.find? (fun e => e.1 == i) with | some e => e.2 | none => 0

/-- Whom an operation waits for, at whatever distance. -/
def ancOf (binds : List (List Nat)) : List Nat → List (Nat × Nat) → List (Nat × Nat)
  | [], acc => acc
  | i :: r, acc => ancOf binds r ((i, (binds.getD i []).foldr (fun j m => (m ||| lookN acc j) ||| (1 <<< j)) 0) :: acc)

def isRead : Op → Bool
  | .load _ _ => true
  | .convert _ _ _ => true
  | .lookup _ _ _ _ => true
  | _ => false

/-- Something new, without a guard: no matter when it is made. -/
def isNew (o : Oper) : Bool := match o.op, o.guard with
  | .alloc _, none => true
  | .box _ _, none => true
  | .buildSlice _ _ _, none => true
  | _, _ => false

def freeRead (x y : Oper) : Bool := isNew y && x.guard.isNone

/-- The plan of a region: each operation with those that are read again behind it. 'rds': what was read. -/
def planOf (ops : List Oper) (sorts : List Nat) (anc : List (Nat × Nat)) : List Nat → List Nat → List (Nat × List Nat)
  | [], _ => []
  | i :: r, rds =>
    match sorts.getD i 2 with
    | 2 => (i, rds.filter fun j => !((lookN anc i).testBit j) && !(match ops[j]?, ops[i]? with | some x, some y => freeRead x y | _, _ => false)) :: planOf ops sorts anc r rds
    | _ =>
      match (match ops[i]? with | some o => isRead o.op | none => false) with
      | true => (i, []) :: planOf ops sorts anc r (i :: rds)
      | false => (i, []) :: planOf ops sorts anc r rds

def nodupN : List Nat → Bool
  | [] => true
  | a :: r => !(r.any (Nat.beq a)) && nodupN r

def noSel : Op → Bool
  | .select _ _ => false
  | _ => true

def dstEq (x y : Oper) : Bool := match x.dst, y.dst with | some d, some e => Nat.beq d e | _, _ => false

/-- A call of a function; a new variable: it may be begun ahead of it. -/
def isCall (o : Oper) : Bool := match o.op with
  | .call c => (match c.callee with | .value _ => true | _ => false)
  | _ => false
def isAlloc (o : Oper) : Bool := match o.op, o.guard with
  | .alloc _, none => true
  | _, _ => false
def zerosOk (P : Program) (ops : List Oper) : Bool := ops.all fun o => match o.op with
  | .alloc t => (zeroV P t).isSome
  | _ => true

/-- What is read that does not see a new variable. -/
def rdFree (ops : List Oper) (y : Oper) (r : Nat) : Bool := match ops[r]? with
  | some z => isRead z.op && z.guard.isNone && !(dstIn y (z.looksAt ops.toArray)) && !(dstEq z y)
  | none => false

/-- Of two operations of a plan, the first one ahead: either the second waits for it, or they are apart. -/
def pairOk (ops : List Oper) (esc : List Nat) (anc : List (Nat × Nat)) (p q : Nat × List Nat) : Bool :=
  match ops[p.1]?, ops[q.1]? with
  | some x, some y =>
    !(dstEq x y) && !(isRead x.op && dstIn y (x.looksAt ops.toArray)) && !((lookN anc p.1).testBit q.1) &&
    ((lookN anc q.1).testBit p.1 ||
      (!(Nat.beq (sortOf esc x) 2) && !(dstIn x (y.looksAt ops.toArray)) && !(dstIn y (x.looksAt ops.toArray)) && (!(Nat.beq (sortOf esc y) 2) || !(isRead x.op) || hasN q.2 p.1)) ||
      ((!(Nat.beq (sortOf esc x) 2) || (isNew x && p.2.isEmpty) || (isCall x && isAlloc y && p.2.all (rdFree ops y))) && isNew y && Nat.beq (sortOf esc y) 2 && q.2.isEmpty && !(dstIn x (y.looksAt ops.toArray)) && !(dstIn y (x.looksAt ops.toArray)) && (!(isRead x.op) || x.guard.isNone)))
  | _, _ => false

def pairsOk (ops : List Oper) (esc : List Nat) (anc : List (Nat × Nat)) : List (Nat × List Nat) → Bool
  | [] => true
  | p :: r => r.all (pairOk ops esc anc p) && pairsOk ops esc anc r

def oneOk (ops : List Oper) (esc : List Nat) (anc : List (Nat × Nat)) (p : Nat × List Nat) : Bool :=
  match ops[p.1]? with
  | some x => !((lookN anc p.1).testBit p.1) && noSel x.op && !(isRead x.op && dstIn x (x.looksAt ops.toArray)) && (Nat.beq (sortOf esc x) 2 || p.2.isEmpty)
  | none => false

def ancOk (ops : List Oper) (anc : List (Nat × Nat)) : Bool :=
  (List.range ops.length).all fun i => match ops[i]? with
    | some o => Nat.beq (lookN anc i) ((bindsOf o).foldr (fun j m => (m ||| lookN anc j) ||| (1 <<< j)) 0)
    | none => false

def planOk (ops : List Oper) (esc : List Nat) (anc : List (Nat × Nat)) (plan : List (Nat × List Nat)) : Bool :=
  Nat.beq plan.length ops.length && nodupN (plan.map (·.1)) && nodupN (begun esc ops) && ancOk ops anc && plan.all (oneOk ops esc anc) && pairsOk ops esc anc plan &&
  ops.all (fun o => (bindsOf o).all fun j => Nat.ble (j + 1) ops.length) && (List.range ops.length).all (hasN (plan.map (·.1)))

def regPlan (esc : List Nat) (ops : List Oper) : Option (List (Nat × List Nat)) :=
  let binds := ops.map bindsOf
  let sorts := ops.map (sortOf esc)
  let order := asap (binds.map maskOf) sorts ops.length 0
  let anc := ancOf binds order []
  let plan := planOf ops sorts anc order []
  match planOk ops esc anc plan with
  | true => some plan
  | false => none

/-- What operation j reads is what it read. -/
def AgainOk (P : Program) (esc : List Nat) (ops : List Oper) (fr : Fr) (h : Heap) (j : Nat) : Prop :=
  match ops[j]? with
  | none => False
  | some o =>
    match guardOf ops fr o, o.dst with
    | some g, some d =>
      match quietQ P esc fr h o, g with
      | .ok v, g => putOpt g v = fr.tm.getD d .undef
      | .chk c v, none => c ∧ v = fr.tm.getD d .undef
      | .chk c v, some b => (b = true → c) ∧ .opt b v = fr.tm.getD d .undef
      | .bad, some b => b = false ∧ .opt false .undef = fr.tm.getD d .undef
      | .bad, none => False
    | _, _ => False

def agains (P : Program) (esc : List Nat) (ops : List Oper) (fr : Fr) (h : Heap) : List Nat → Prop → Prop
  | [], R => R
  | j :: r, R => AgainOk P esc ops fr h j ∧ agains P esc ops fr h r R

/-- Behind an effect that is not carried out what was read is what it was. -/
def againsG (P : Program) (esc : List Nat) (ops : List Oper) (g : Option (Option Bool)) (fr : Fr) (h : Heap) (rc : List Nat) (R : Prop) : Prop :=
  match rc with
  | [] => R
  | rc => match g with
    | some (some b) => brW b (agains P esc ops fr h rc R) R
    | _ => agains P esc ops fr h rc R

def runD (P : Program) (esc : List Nat) (ops : List Oper) : List (Nat × List Nat) → Fr → Heap → (Fr → Heap → Prop) → Prop
  | [], fr, h, K => K fr h
  | (i, rc) :: r, fr, h, K =>
    match ops[i]? with
    | none => False
    | some o => opW P esc ops o fr h fun fr' h' => againsG P esc ops (guardOf ops fr o) fr' h' rc (runD P esc ops r fr' h' K)

def regW (P : Program) (esc : List Nat) (ops : List Oper) (draw : Bool) (fr : Fr) (h : Heap) (K : Fr → Heap → Prop) : Prop :=
  match draw with
  | false => match nodupN (begun esc ops) with
    | true => opsW P esc ops ops (killAll (begun esc ops) fr) h K
    | false => False
  | true => match zerosOk P ops, regPlan esc ops with
    | true, some plan => runD P esc ops plan (killAll (begun esc ops) fr) h K
    | _, _ => False

/-- What the tool says of a function: the slots whose variables lie in the heap; the temporaries that are forgotten behind each region; whether it is a round of a range over a function that runs. -/
structure Cfg where
  esc : List Nat
  wipes : List (Nat × List Nat)
  rnd : Bool := false

def wipeT : List Nat → List V → List V
  | [], tm => tm
  | t :: r, tm => wipeT r (tm.set t .undef)

/-- A slice without elements may be written to as well. Marked in the list: 1000000 and the temporary's number. -/
def mutV : V → V
  | .sl es [] .full => .sref es 0 0 0 0
  | v => v

def mutT : List Nat → List V → List V
  | [], tm => tm
  | t :: r, tm => match Nat.ble 1000000 t with
    | true => mutT r (tm.set (t - 1000000) (mutV (tm.getD (t - 1000000) .undef)))
    | false => mutT r tm

def dropL (l : List Nat) : List (Nat × List V) → List (Nat × List V)
  | [] => []
  | e :: r => match hasN l e.1 with | true => dropL l r | false => e :: dropL l r

def Fr.wipe (fr : Fr) (l : List Nat) : Fr := { tm := mutT l (wipeT l fr.tm), lc := dropL l fr.lc }

/-- What stands behind a statement: the next one; a block's end; a loop's head, or what is behind it. -/
def seqK (y : Fr → Heap → Prop) (Q : Ex → Fr → Heap → Prop) (e : Ex) (fr : Fr) (h : Heap) : Prop :=
  match e with
  | .normal => y fr h
  | e => Q e fr h

def blockK (id : Nat) (Q : Ex → Fr → Heap → Prop) (e : Ex) (fr : Fr) (h : Heap) : Prop :=
  match e with
  | .exit i => (match Nat.beq i id with | true => Q .normal fr h | false => Q (.exit i) fr h)
  | e => Q e fr h

def wipesAt (id : Nat) : List (Nat × List Nat) → List Nat
  | [] => []
  | e :: r => match Nat.beq e.1 id with | true => e.2 | false => wipesAt id r

/-- A loop: rounds till one leaves it. -/
inductive LoopI (B : Fr → Heap → (Ex → Fr → Heap → Prop) → Prop) (Q : Ex → Fr → Heap → Prop) : Fr → Heap → Prop where
  | mk (fr : Fr) (h : Heap) (I : Fr → Heap → Prop) (hb : B fr h (seqK I Q))
      (hi : ∀ fr h, I fr h → LoopI B Q fr h) : LoopI B Q fr h

/-- What of a frame is there in a round: no addresses of its own variables. -/
def noLp : V → V
  | .lp _ _ => .undef
  | .opt _ _ => .undef
  | v => v

def exOfC : Code → Option Ex
  | .exit i => some (.exit i)
  | .goto l => some (.goto l)
  | .ret => some .ret
  | _ => none

/-- Behind a range over a function: its record tells how it was left. -/
def loopEnd (h : Heap) (l : Nat) (K : Ex → Heap → Prop) : Prop :=
  match h l with
  | some (.obj (.loop .ready _ _ _ _)) => K .normal (h.del l)
  | some (.obj (.loop (.done c) _ _ _ _)) => match exOfC c with | some e => K e (h.del l) | none => False
  | _ => False

/-- A range over a function. -/
def rangeW (P : Program) (rnd : Bool) (v : V) (ps : Array Tmp) (asg body : Code) (fr : Fr) (h : Heap) (Q : Ex → Fr → Heap → Prop) : Prop :=
  match rnd, v with
  | false, .fn (.func k) first caps =>
    enters P k = true ∧ ∀ l, h l = none →
      CallW P k (first ++ [.fn (.yield l) [] []] ++ caps) (h.upd l (.obj (.loop .ready ps.toList (fr.tm.map noLp) asg body))) fun _ h' => loopEnd h' l fun e h'' => Q e fr h''
  | _, _ => False

/-- Has a scope a label, on its spine? -/
def hasLab : Code → Nat → Bool
  | .seq a b, l => hasLab a l || hasLab b l
  | .label k, l => Nat.beq k l
  | _, _ => false

/-- Behind a scope's code: a jump to one of its labels. -/
def scopeK (c : Code) (y : Nat → Fr → Heap → Prop) (Q : Ex → Fr → Heap → Prop) (e : Ex) (fr : Fr) (h : Heap) : Prop :=
  match e with
  | .goto l => (match hasLab c l with | true => y l fr h | false => Q (.goto l) fr h)
  | e => Q e fr h

/-- A scope, from a label on: rounds till one leaves it. -/
inductive ScopeI (c : Code) (B : Nat → Fr → Heap → (Ex → Fr → Heap → Prop) → Prop) (Q : Ex → Fr → Heap → Prop) : Nat → Fr → Heap → Prop where
  | mk (l : Nat) (fr : Fr) (h : Heap) (I : Nat → Fr → Heap → Prop) (hb : B l fr h (scopeK c I Q))
      (hi : ∀ l fr h, I l fr h → ScopeI c B Q l fr h) : ScopeI c B Q l fr h

mutual
def wpA (P : Program) (g : Cfg) : Code → Fr → Heap → (Ex → Fr → Heap → Prop) → Prop
  | .skip, fr, h, Q => Q .normal fr h
  | .region id ops draw, fr, h, Q => regW P g.esc ops.toList draw fr h fun fr' h' => Q .normal (fr'.wipe (wipesAt id g.wipes)) h'
  | .seq a b, fr, h, Q => wpA P g a fr h (seqK (fun fr' h' => wpA P g b fr' h' Q) Q)
  | .cond c x y, fr, h, Q => condW (fr.ev c) (wpA P g x fr h Q) (wpA P g y fr h Q)
  | .block id c, fr, h, Q => wpA P g c fr h (blockK id Q)
  | .loop c, fr, h, Q => LoopI (fun fr h Q => wpA P g c fr h Q) Q fr h
  | .exit id, fr, h, Q => Q (.exit id) fr h
  | .ret, fr, h, Q => Q .ret fr h
  | .label _, fr, h, Q => Q .normal fr h
  | .rangeFunc f ps asg body, fr, h, Q => rangeW P g.rnd (fr.ev f) ps asg body fr h Q
  | .goto l, fr, h, Q => Q (.goto l) fr h
  | .scope c, fr, h, Q => wpA P g c fr h (scopeK c (ScopeI c (fun l fr h Q => wpL P g c l fr h Q) Q) Q)
  | .refuse _, _, _, _ => False
/-- From a label on. -/
def wpL (P : Program) (g : Cfg) : Code → Nat → Fr → Heap → (Ex → Fr → Heap → Prop) → Prop
  | .seq a b, l, fr, h, Q => (match hasLab a l with
    | true => wpL P g a l fr h (seqK (fun fr' h' => wpA P g b fr' h' Q) Q)
    | false => wpL P g b l fr h Q)
  | .label _, _, fr, h, Q => Q .normal fr h
  | _, _, _, _, _ => False
end

/-- The answer of a function, off its frame. -/
def resultV (P : Program) (m : Nat) (fr : Fr) (h : Heap) : ResultVar → Q
  | .tmp t => match fr.tm.getD t .undef with
    | .lp _ _ => .bad
    | .opt b v => match v with | .lp _ _ => .bad | .opt _ _ => .bad | v => .chk (b = true) v
    | v => .ok v
  | .cell a t => match (fr.tm.getD a .undef) with
    | .lp d off => loadQ P m fr h t (.lp d off)
    | .ptr l off => loadQ P m fr h t (.ptr l off)
    | _ => .bad

def resultsW (P : Program) (m : Nat) (fr : Fr) (h : Heap) : List ResultVar → (List V → Prop) → Prop
  | [], K => K []
  | r :: rs, K => (resultV P m fr h r).need fun v => resultsW P m fr h rs fun vs => K (v :: vs)

def answerW (P : Program) (m : Nat) (fn : Func) (fr : Fr) (h : Heap) (K : V → Prop) : Prop :=
  resultsW P m fr h fn.results.toList fun vs => match vs with | [v] => K v | vs => K (.tup vs)

def frame0 (fn : Func) (args : List V) : Fr := { tm := args ++ List.replicate (fn.ntmps - args.length) .undef, lc := [] }

def rmode (esc : List Nat) : Nat := match hasN esc 999999 with | true => 2 | false => 0

/-- What stands behind a function's body. -/
def bodyK (P : Program) (m : Nat) (fn : Func) (K : V → Heap → Prop) (e : Ex) (fr : Fr) (h : Heap) : Prop :=
  match e with
  | .normal | .ret => answerW P m fn fr h fun r => K r h
  | _ => False

/-- What is asked of a function's body. -/
def bodyW (P : Program) (g : Cfg) (fn : Func) (args : List V) (h : Heap) (K : V → Heap → Prop) : Prop :=
  match fn.body with
  | none => False
  | some c => wpA P g c (frame0 fn args) h (bodyK P (rmode g.esc) fn K)
end Jb
end
