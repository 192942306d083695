/- Proved here: of RR2, that what the Go functions of this part compute is as their contracts say (texts JtA), for every input; no condition beyond those that each theorem states. -/
import Derived.Test.YtcnlhehogkaapaaGreatRR1
set_option linter.all false
section
/- A program of the model, run on values: what a closed call comes to. -/
namespace Jt
open Go Jb
noncomputable section

/-- Places with values. -/
inductive T (α : Type) where
  | nil
  | node (v : Option α) (l r : T α)

/- Written out with recursors: the kernel runs these the fastest. -/
def T.get {α : Type} (t : T α) : Nat → Option α :=
  T.rec (motive := fun _ => Nat → Option α) (fun _ => none)
    (fun v _ _ gl gr k => Nat.rec (motive := fun _ => Option α) v (fun k _ => Bool.rec (motive := fun _ => Option α) (gr (k / 2)) (gl (k / 2)) (Nat.beq (k % 2) 0)) k) t

def T.one {α : Type} (v : Option α) (n : Nat) : Nat → T α :=
  Nat.rec (motive := fun _ => Nat → T α) (fun _ => .nil)
    (fun _ r k => Nat.rec (motive := fun _ => T α) (.node v .nil .nil) (fun k _ => Bool.rec (motive := fun _ => T α) (.node none .nil (r (k / 2))) (.node none (r (k / 2)) .nil) (Nat.beq (k % 2) 0)) k) n

def T.put {α : Type} (v : Option α) (t : T α) : Nat → T α :=
  T.rec (motive := fun _ => Nat → T α) (fun k => T.one v (k + 1) k)
    (fun u l r pl pr k => Nat.rec (motive := fun _ => T α) (.node v l r) (fun k _ => Bool.rec (motive := fun _ => T α) (.node u l (pr (k / 2))) (.node u (pl (k / 2)) r) (Nat.beq (k % 2) 0)) k) t

def T.map {α : Type} (f : Option α → Option α) : T α → T α
  | .nil => .nil
  | .node v l r => .node (f v) (l.map f) (r.map f)

def T.ofList {α : Type} : List α → Nat → T α → T α
  | [], _, t => t
  | v :: r, k, t => T.ofList r (k + 1) (t.put (some v) k)

inductive Xb where
  | cells (cs : List V)
  | loop (st : LSt) (ps : List Nat) (tm : T V) (n : Nat) (asg body : Code)
  | map (es : List (V × V))

structure St where
  tm : T V
  h : T Xb
  nx : Nat

/-! Symbolic numbers: '.iface' of a type beyond all, around '.tup [.int k 0, expression]'; slices of which nothing is known but their name. Expressions: '.int _ n': n; '.ptr i 0': the i-th number that is given; '.ptr i 1': the length of the i-th slice; '.tup [.int k c, a, b]': operation c. -/
def unk (t : TypeId) : Bool := Nat.ble 1000000000000000000000000000000 t
def isUnk : V → Bool
  | .iface t _ => unk t
  | _ => false

/-- What is given. -/
structure Vals where
  int : Nat → Int
  rows : Nat → List (List V) × G

def opI (c : Int) (k : IntKind) (a b : Int) : Int :=
  match c with
  | 1 => k.wrap (a + b)
  | 2 => k.wrap (a - b)
  | 3 => k.wrap (a * b)
  | 4 => k.wrap (a.tdiv b)
  | 5 => a.tmod b
  | 6 => k.wrap ((BitVec.ofInt k.bits a &&& BitVec.ofInt k.bits b).toNat : Nat)
  | 7 => k.wrap ((BitVec.ofInt k.bits a ||| BitVec.ofInt k.bits b).toNat : Nat)
  | 8 => k.wrap ((BitVec.ofInt k.bits a ^^^ BitVec.ofInt k.bits b).toNat : Nat)
  | 9 => k.wrap ((BitVec.ofInt k.bits a &&& ~~~(BitVec.ofInt k.bits b)).toNat : Nat)
  | 10 => k.wrap (a * 2 ^ min b.toNat k.bits)
  | 11 => a.fdiv (2 ^ min b.toNat k.bits)
  | 20 => k.wrap a
  | 21 => k.wrap (0 - a)
  | 22 => k.wrap ((BitVec.ofInt k.bits (if k.signed then -1 else k.max) ^^^ BitVec.ofInt k.bits a).toNat : Nat)
  | _ => 0

def denI (w : Vals) : V → Int
  | .int _ n => n
  | .ptr i 0 => w.int i
  | .ptr i 1 => ((w.rows i).1.length : Nat)
  | .tup [.str s, e] => ((s.data.getD (denI w e).toNat 0).toNat : Nat)
  | .tup [.int k c, a, b] => opI c k (denI w a) (denI w b)
  | _ => 0

/-- A number, symbolic or not: its kind, and its expression. -/
def symI : V → Option (IntKind × V)
  | .int k n => some (k, .int k n)
  | .iface t v => (match unk t, v with
    | true, .tup [.int k _, e] => some (k, e)
    | _, _ => none)
  | _ => none
def mkI (k : IntKind) (e : V) : V := .iface 1000000000000000000000000000000 (.tup [.int k 0, e])

/-- What a branch hangs on. -/
structure Fact where
  op : BinOp
  a : V
  b : V
def Fact.is (w : Vals) (f : Fact) : Bool :=
  match f.op with
  | .eql => denI w f.a == denI w f.b
  | .neq => denI w f.a != denI w f.b
  | .lss => decide (denI w f.a < denI w f.b)
  | .leq => decide (denI w f.a ≤ denI w f.b)
  | .gtr => decide (denI w f.b < denI w f.a)
  | .geq => decide (denI w f.b ≤ denI w f.a)
  | _ => false

/-- What is run, by what it hangs on. -/
inductive Tr (α : Type) where
  | ret (a : α)
  | node (f : Fact) (t e : Tr α)
  | fail

def Tr.bind {α β : Type} (x : Tr α) (f : α → Tr β) : Tr β :=
  Tr.rec (motive := fun _ => Tr β) f (fun c _ _ t e => .node c t e) .fail x
def optT {α : Type} : Option α → Tr α
  | some a => .ret a
  | none => .fail

/-- What comes of it. -/
def Tr.at (w : Vals) {α : Type} : Tr α → Option α
  | .ret a => some a
  | .node f t e => match f.is w with
    | true => t.at w
    | false => e.at w
  | .fail => none

theorem at_bind {α β : Type} (w : Vals) (x : Tr α) (f : α → Tr β) : (x.bind f).at w = match x.at w with | some a => (f a).at w | none => none := by
  induction x with
  | ret a => rfl
  | fail => rfl
  | node c t e it ie =>
    show (match c.is w with | true => (t.bind f).at w | false => (e.bind f).at w) = match (match c.is w with | true => t.at w | false => e.at w) with | some a => (f a).at w | none => none
    cases c.is w
    · exact ie
    · exact it
theorem at_opt {α : Type} (w : Vals) (x : Option α) : (optT x).at w = x := by cases x <;> rfl
theorem at_ret {α : Type} (w : Vals) (a : α) : (Tr.ret a).at w = some a := rfl
theorem at_fail {α : Type} (w : Vals) : (Tr.fail : Tr α).at w = none := rfl

mutual
def eqV : V → V → Bool
  | .int k a, .int k' b => kindEq k k' && a == b
  | .ptr a b, .ptr c d => Nat.beq a c && Nat.beq b d
  | .tup a, .tup b => eqVs a b
  | _, _ => false
def eqVs : List V → List V → Bool
  | [], l => l.isEmpty
  | a :: r, l => (match l with
    | b :: t => eqV a b && eqVs r t
    | [] => false)
end

def St.raw (s : St) : Operand → Option V
  | .tmp t => s.tm.get t
  | .const v => some (ofConst v)
  | .func f => some (.fn (.func f) [] [])
  | .global _ => none

def known : Option V → Option V
  | some (.opt true v) => some v
  | some (.opt false _) => none
  | some .undef => none
  | r => r

def St.ev (s : St) (x : Operand) : Option V := known (s.raw x)

/-- A nil slice of a type. -/
def nilOf (P : Program) (t : TypeId) : Option V := match P.underlying t with | some (.slice e) => some (.sl (P.cellsOf e) [] .full) | _ => none

def St.evT (P : Program) (s : St) (t : TypeId) (x : Operand) : Option V :=
  match x with
  | .const (.slice none 0 0) => nilOf P t
  | x => s.ev x

def evsT (P : Program) (s : St) : List TypeId → List Operand → Option (List V)
  | _, [] => some []
  | t :: ts, x :: r => match s.evT P t x, evsT P s ts r with
    | some v, some l => some (v :: l)
    | _, _ => none
  | [], x :: r => match s.ev x, evsT P s [] r with
    | some v, some l => some (v :: l)
    | _, _ => none

def evs (ρ : Operand → Option V) : List Operand → Option (List V)
  | [] => some []
  | x :: r => match ρ x, evs ρ r with
    | some v, some l => some (v :: l)
    | _, _ => none

def cellsX (h : T Xb) (k : Nat) : Option (List V) := match h.get k with | some (.cells cs) => some cs | _ => none

/-- A value by its type. -/
def shX (P : Program) (t : TypeId) (v : V) : Option V :=
  match P.underlying t with
  | some .bool => match v with | .bool b => some (.bool b) | _ => none
  | some (.int k) => match v with
    | .int k' n => (match kindEq k k' with | true => some (.int k n) | false => none)
    | .iface t (.tup [.int k' z, e]) => (match unk t, kindEq k k' with | true, true => some (.iface t (.tup [.int k z, e])) | _, _ => none)
    | _ => none
  | some .string => match v with | .str s => some (.str s) | _ => none
  | some (.slice e) => match v with
    | .sl es l g => (match Nat.beq es (P.cellsOf e) with | true => some (.sl es l g) | false => none)
    | .sref es l o n c => (match Nat.beq es (P.cellsOf e) with | true => some (.sref es l o n c) | false => none)
    | .iface t (.sref es l o n c) => (match unk t, Nat.beq es (P.cellsOf e) with | true, true => some (.iface t (.sref es l o n c)) | _, _ => none)
    | _ => none
  | some (.struct _) | some (.array _ _) => none
  | _ => match v.plain with | true => some v | false => none

def rdX (P : Program) (t : TypeId) (cs : List V) (off : Nat) : Option V :=
  match okT P t, (P.underlying t).isSome, aggT P t with
  | true, true, true => match Nat.ble (off + P.cellsOf t) cs.length with
    | true => some (.agg ((cs.drop off).take (P.cellsOf t)))
    | false => none
  | true, true, false => match cs[off]? with
    | some v => shX P t v
    | none => none
  | _, _, _ => none

def loadX (P : Program) (h : T Xb) (t : TypeId) : V → Option V
  | .ptr l off => match cellsX h l with | some cs => rdX P t cs off | none => none
  | .cptr cs off => rdX P t cs off
  | _ => none

def nilX : V → Option V
  | .ptr l off => some (.ptr l off)
  | .cptr cs off => some (.cptr cs off)
  | .fn (.func f) a b => some (.fn (.func f) a b)
  | _ => none

def movedX (n : Nat) : V → Option V
  | .ptr l off => some (.ptr l (off + n))
  | .cptr cs off => some (.cptr cs (off + n))
  | _ => none

def fieldAddrX (P : Program) (s : TypeId) (x : V) (f : Nat) : Option V :=
  match fieldOf P s f with
  | some (o, t) => match okT P t, P.cellsOf t with
    | true, _ + 1 => movedX o x
    | _, _ => none
  | none => none

def inB (n : Int) (len : Nat) : Bool := match n with
  | .ofNat k => Nat.blt k len
  | .negSucc _ => false

def indexAddrX (P : Program) (t : TypeId) (x i : V) : Option V :=
  match i with
  | .int _ n =>
    match P.underlying t with
    | some (.array len e) =>
      match okT P e, inB n len with
      | true, true =>
        match x with
        | .ptr l off => some (.ptr l (off + n.toNat * P.cellsOf e))
        | .cptr cs off => some (.cptr cs (off + n.toNat * P.cellsOf e))
        | _ => none
      | _, _ => none
    | some (.slice e) =>
      match okT P e, x with
      | true, .sl es l _ => match Nat.beq es (P.cellsOf e), inB n l.length with
        | true, true => some (.cptr (l.getD n.toNat []) 0)
        | _, _ => none
      | true, .sref es l off len _ => match Nat.beq es (P.cellsOf e), inB n len with
        | true, true => some (.ptr l (off + n.toNat * es))
        | _, _ => none
      | _, _ => none
    | _ => none
  | _ => none

def fieldX (P : Program) (t : TypeId) (x : V) (f : Nat) : Option V :=
  match fieldOf P t f, x with
  | some (o, t), .agg cs => rdX P t cs o
  | _, _ => none

def indexX (P : Program) (t : TypeId) (x i : V) : Option V :=
  match i with
  | .int _ n =>
    match P.underlying t with
    | some (.array len e) => match x, inB n len with
      | .agg cs, true => rdX P e cs (n.toNat * P.cellsOf e)
      | _, _ => none
    | some .string => match x with
      | .str s => match inB n s.size with
        | true => some (.int .u8 (s.data.getD n.toNat 0).toNat)
        | false => none
      | _ => none
    | _ => none
  | _ => none

def qV : Q → Option V
  | .ok v => some v
  | _ => none

def intX (op : BinOp) (k : IntKind) (a b : Int) : Option V :=
  match op with
  | .quo => match decide (b = 0) with | true => none | false => some (.int k (k.wrap (a.tdiv b)))
  | .rem => match decide (b = 0) with | true => none | false => some (.int k (a.tmod b))
  | op => qV (intQ op k a b)

def shiftX (op : BinOp) (k : IntKind) (a b : Int) : Option V :=
  match decide (0 ≤ b) with
  | true => (match op with
    | .shl => some (.int k (k.wrap (a * 2 ^ min b.toNat k.bits)))
    | .shr => some (.int k (a.fdiv (2 ^ min b.toNat k.bits)))
    | _ => none)
  | false => none

/-- Cells of the kinds of others: unknown ones among them. -/
def fitsX : List V → List V → Bool
  | [], l => l.isEmpty
  | z :: r, l => (match l with
    | [] => false
    | v :: s => (match z, v with
      | .bool _, .bool _ => true
      | .str _, .str _ => true
      | .int k _, v => (match symI v with | some (k', _) => kindEq k k' | none => false)
      | _, _ => false) && fitsX r s)

/-- Two numbers: the same? -/
def eqN (a b : V) : Tr Bool :=
  match a, b with
  | .int _ x, .int _ y => .ret (x == y)
  | a, b => match eqV a b with
    | true => .ret true
    | false => .node ⟨.eql, a, b⟩ (.ret true) (.ret false)
def eqC (a b : V) : Tr Bool :=
  match a, b with
  | .bool x, .bool y => .ret (x == y)
  | .str x, .str y => .ret (x == y)
  | a, b => match symI a, symI b with
    | some (_, x), some (_, y) => eqN x y
    | _, _ => .fail
def eqCs : List V → List V → Tr Bool
  | [], l => .ret l.isEmpty
  | a :: r, l => (match l with
    | [] => .ret false
    | b :: s => (eqC a b).bind fun c => match c with
      | true => eqCs r s
      | false => .ret false)

/-- '==' and '!=' on structs and arrays. -/
def eqlT (P : Program) (no : Bool) (t : TypeId) (cs ds : List V) : Tr V :=
  match aggT P t, eqKinds P t with
  | true, some z => match fitsX z cs && fitsX z ds with
    | true => (eqCs cs ds).bind fun b => .ret (.bool (neg no b))
    | false => .fail
  | _, _ => .fail

def strX (op : BinOp) (a b : ByteArray) : Option V :=
  match op with
  | .eql => some (.bool (a.data.toList == b.data.toList))
  | .neq => some (.bool (!(a.data.toList == b.data.toList)))
  | .add => match Nat.ble (a.size + b.size) 4611686018427387904 with
    | true => some (.str ⟨(a.data.toList ++ b.data.toList).toArray⟩)
    | false => none
  | _ => none

def binX (P : Program) (op : BinOp) (t : TypeId) (x y : V) : Option V :=
  match x, y with
  | .str a, .str b => strX op a b
  | .int k a, .int k' b =>
    match op with
    | .shl | .shr => shiftX op k a b
    | _ => match kindEq k k' with | true => intX op k a b | false => none
  | x, y => match op with
    | .eql => qV (eqlQ P false t x y)
    | .neq => qV (eqlQ P true t x y)
    | _ => none

def opCode : BinOp → Int
  | .add => 1
  | .sub => 2
  | .mul => 3
  | .quo => 4
  | .rem => 5
  | .and => 6
  | .or => 7
  | .xor => 8
  | .andNot => 9
  | .shl => 10
  | .shr => 11
  | _ => 0

def isZero : V → Bool
  | .int _ n => n == 0
  | _ => false
/-- A number that is no less than 0, or a question. -/
def nonneg (b : V) (r : V) : Tr V :=
  match b with
  | .int _ n => (match decide (0 ≤ n) with | true => .ret r | false => .fail)
  | b => .node ⟨.leq, .int .i64 0, b⟩ (.ret r) .fail
def nonzero (b : V) (r : V) : Tr V :=
  match b with
  | .int _ n => (match decide (n = 0) with | true => .fail | false => .ret r)
  | b => .node ⟨.neq, b, .int .i64 0⟩ (.ret r) .fail

/-- Symbolic numbers of one kind. -/
def symK (op : BinOp) (k : IntKind) (a b : V) : Tr V :=
  match op with
  | .eql | .neq | .lss | .leq | .gtr | .geq => .node ⟨op, a, b⟩ (.ret (.bool true)) (.ret (.bool false))
  | .add | .sub | .mul | .and | .or | .xor | .andNot => .ret (mkI k (.tup [.int k (opCode op), a, b]))
  | .quo | .rem => nonzero b (mkI k (.tup [.int k (opCode op), a, b]))
  | _ => .fail

/-- Symbolic numbers. -/
def symT (op : BinOp) (x y : V) : Tr V :=
  match symI x, symI y with
  | some (k, a), some (k', b) =>
    match op with
    | .shl | .shr => nonneg b (mkI k (.tup [.int k (opCode op), a, b]))
    | op => match kindEq k k' with
      | true => symK op k a b
      | false => .fail
  | _, _ => .fail

def binXn (P : Program) (op : BinOp) (t : TypeId) (x y : Operand) (u v : V) : Option V :=
  match nilC x || nilC y, u, v with
  | true, .nilif, .nilif => qV (nilNilQ P op t)
  | _, _, _ => binX P op t u v

def binT (P : Program) (op : BinOp) (t : TypeId) (x y : Operand) (u v : V) : Tr V :=
  match isUnk u || isUnk v with
  | true => symT op u v
  | false => match u, v, op with
    | .agg cs, .agg ds, .eql => eqlT P false t cs ds
    | .agg cs, .agg ds, .neq => eqlT P true t cs ds
    | u, v, op => optT (binXn P op t x y u v)

def unX (op : UnOp) (v : V) : Option V :=
  match isUnk v, op with
  | true, .neg => (match symI v with | some (k, e) => some (mkI k (.tup [.int k 21, e, .int .i64 0])) | none => none)
  | true, .xor => (match symI v with | some (k, e) => some (mkI k (.tup [.int k 22, e, .int .i64 0])) | none => none)
  | true, _ => none
  | false, _ => qV (unQ op v)

def cellsOfX (size : Nat) (v : V) : Option (List V) :=
  match v with
  | .agg cs => match Nat.beq cs.length size with | true => some cs | false => none
  | v => match v.one, size with | true, 1 => some [v] | _, _ => none

def layX (place : Nat → Option (Nat × Nat)) (n : Nat) : List V → List (Nat × V) → Option (List V)
  | cs, [] => some cs
  | cs, (i, v) :: r =>
    match place i with
    | none => none
    | some (off, size) =>
      match Nat.ble (off + size) n, cellsOfX size v with
      | true, some new => layX place n (cs.take off ++ new ++ cs.drop (off + size)) r
      | _, _ => none

def buildX (P : Program) (t : TypeId) (parts : List (Nat × V)) : Option V :=
  match zeroV P t, placesOf P t with
  | some z, some pl => match layX pl (P.cellsOf t) z parts with | some cs => some (.agg cs) | none => none
  | _, _ => none

def elemsX (size : Nat) : List V → Option (List (List V))
  | [] => some []
  | v :: r => match cellsOfX size v, elemsX size r with
    | some new, some l => some (new :: l)
    | _, _ => none

def buildSliceX (P : Program) (t : TypeId) (n : Nat) (parts : List (Nat × V)) : Option V :=
  match P.underlying t with
  | some (.slice e) => match zeroV P e, P.cellsOf e, decide (n * P.cellsOf e ≤ 16777216) && (parts.map (·.1) == List.range n) with
    | some _, s + 1, true => match elemsX (s + 1) (parts.map (·.2)) with | some l => some (.sl (s + 1) l .full) | none => none
    | _, _, _ => none
  | _ => none

/-- A bound, if there is one: between two numbers. -/
def bndX (v : Option V) (d : Nat) : Option Nat :=
  match v with
  | none => some d
  | some (.int _ (.ofNat n)) => some n
  | _ => none

/-- A part of a slice with a block. 'cap' of a slice with a block: twice the number; one more: it is just that. Block 0: without elements, wherever it may lie. -/
def part0X (es l off n c : Nat) (lo hi mx : Option V) : Option V :=
  match bndX lo 0, bndX hi n, mx with
  | some a, some b, none => match Nat.ble a b && Nat.ble b (c / 2) with
    | true => (match Nat.beq (c / 2) a, Nat.beq (c % 2) 1 with
      | true, true => some (.sref es l off (b - a) (c - 2 * a))
      | true, false => some (.sref es 0 0 0 0)
      | false, _ => some (.sref es l (off + a * es) (b - a) (c - 2 * a)))
    | false => none
  | some a, some b, some m => match bndX (some m) 0, hi with
    | some d, some _ => match Nat.ble a b && Nat.ble b d && Nat.ble d (c / 2) && Nat.blt 0 l with
      | true => some (.sref es l (match Nat.beq d a with | true => off | false => off + a * es) (b - a) (2 * (d - a) + 1))
      | false => none
    | _, _ => none
  | _, _, _ => none

def partX (es l off n c : Nat) (lo hi mx : Option V) : Option V := match Nat.blt 0 es with | true => part0X es l off n c lo hi mx | false => none

def sliceX (P : Program) (t : TypeId) (x : V) (lo hi mx : Option V) : Option V :=
  match P.underlying t with
  | some (.slice e) =>
    match okT P e, x with
    | true, .sl es l _ =>
      match Nat.beq es (P.cellsOf e), bndX lo 0, bndX hi l.length with
      | true, some a, some b =>
        match Nat.ble a b && Nat.ble b l.length, mx with
        | true, none => some (.sl es ((l.take b).drop a) .no)
        | true, some m => match bndX (some m) 0, hi with
          | some c, some _ => match Nat.beq c b with | true => some (.sl es ((l.take b).drop a) .full) | false => none
          | _, _ => none
        | false, _ => none
      | _, _, _ => none
    | true, .sref es l off n c => match Nat.beq es (P.cellsOf e) with
      | true => partX es l off n c lo hi mx
      | false => none
    | _, _ => none
  | some .string => match x, mx with
    | .str s, none => match bndX lo 0, bndX hi s.size with
      | some a, some b => match Nat.ble a b && Nat.ble b s.size with
        | true => some (.str (s.extract a b))
        | false => none
      | _, _ => none
    | _, _ => none
  | some (.array len e) => match okT P e, x with
    | true, .ptr l off => partX (P.cellsOf e) l off len (2 * len + 1) lo hi mx
    | _, _ => none
  | _ => none

def chunksX (es : Nat) : Nat → List V → List (List V)
  | 0, _ => []
  | n + 1, cs => cs.take es :: chunksX es n (cs.drop es)

/-- What a slice has. -/
def elsX (h : T Xb) (size : Nat) : V → Option (List (List V))
  | .sl es l _ => match Nat.beq es size with | true => some l | false => none
  | .sref es l off 0 _ => match Nat.beq es size with
    | true => some []
    | false => none
  | .sref es l off n _ => match Nat.beq es size, cellsX h l with
    | true, some cs => (match Nat.ble (off + n * es) cs.length with
      | true => some (chunksX es n (cs.drop off))
      | false => none)
    | _, _ => none
  | _ => none

def byteX : List (List V) → Option (List UInt8)
  | [] => some []
  | [.int .u8 n] :: r => match byteX r with | some l => some (UInt8.ofNat n.toNat :: l) | none => none
  | _ => none

def textX (l : List UInt8) : ByteArray := ⟨l.toArray⟩

def convX (P : Program) (h : T Xb) (src dst : TypeId) (x : V) : Option V :=
  match P.underlying src, P.underlying dst, x with
  | some (.int _), some (.int k), .int _ n => some (.int k (k.wrap n))
  | some (.int _), some (.int k), .iface t (.tup [.int _ _, e]) => (match unk t with | true => some (mkI k (.tup [.int k 20, e, .int .i64 0])) | false => none)
  | some (.slice e), some .string, x => match zeroIsByte P e, elsX h 1 x with
    | true, some l => (match byteX l with | some b => some (.str (textX b)) | none => none)
    | _, _ => none
  | some .string, some (.slice e), .str s => match zeroIsByte P e with
    | true => some (.sl 1 (bytesOf s) .no)
    | false => none
  | _, _, _ => none

def boolX : Option V → Option (Option Bool)
  | some (.bool b) => some (some b)
  | some (.opt true (.bool b)) => some (some b)
  | some (.opt false _) => some none
  | _ => none

def pickX (c : Option V) (a b : Option V) : Option V :=
  match c, boolX a, boolX b with
  | some (.bool true), some (some x), some _ => some (.bool x)
  | some (.bool false), some _, some (some y) => some (.bool y)
  | _, _, _ => none

def extractX (x : V) (i : Nat) : Option V :=
  match x with
  | .tup vs => match vs[i]? with
    | some v => match v.plain with | true => some v | false => none
    | none => none
  | _ => none

def lenX (P : Program) (t : TypeId) (x : V) : Option V :=
  match P.underlying t with
  | some (.slice _) => match x with
    | .sl _ l _ => some (.int .i64 l.length)
    | .sref _ _ _ n _ => some (.int .i64 n)
    | .iface t (.sref _ id _ _ _) => (match unk t with | true => some (mkI .i64 (.ptr id 1)) | false => none)
    | _ => none
  | some .string => match x with | .str s => some (.int .i64 s.size) | _ => none
  | some (.array n _) => some (.int .i64 n)
  | _ => none

def mapX (h : T Xb) : V → Option (List (V × V))
  | .map none => some []
  | .map (some r) => match h.get r with | some (.map es) => some es | _ => none
  | _ => none

def lookupX (P : Program) (h : T Xb) (t : TypeId) (x i : V) (ok : Bool) : Option V :=
  match P.underlying t with
  | some (.map kt e) =>
    match keyT P kt i, mapX h x with
    | true, some es =>
      (match findV i es, zeroVal P e with
      | some (some v), _ => (match v.plain with | true => some (match ok with | true => .tup [v, .bool true] | false => v) | false => none)
      | some none, some z => (match z.plain with | true => some (match ok with | true => .tup [z, .bool false] | false => z) | false => none)
      | _, _ => none)
    | _, _ => none
  | _ => none

def partsX (ρ : Operand → Option V) : List (Nat × Operand) → Option (List (Nat × V))
  | [] => some []
  | (i, x) :: r => match ρ x, partsX ρ r with
    | some v, some l => some ((i, v) :: l)
    | _, _ => none

def optX (ρ : Operand → Option V) : Option Operand → Option (Option V)
  | none => some none
  | some x => match ρ x with | some v => some (some v) | none => none

/-- A quiet operation. -/
def qx (P : Program) (s : St) (o : Op) (ty : TypeId) : Option V :=
  match o with
  | .pick c a b => pickX (s.ev c) (s.raw a) (s.raw b)
  | .assign x => s.evT P ty x
  | .move x => s.ev x
  | .build t ps => match partsX s.ev ps.toList with | some l => buildX P t l | none => none
  | .buildSlice t n ps => match partsX s.ev ps.toList with | some l => buildSliceX P t n l | none => none
  | .load t a => match s.ev a with | some v => loadX P s.h t v | none => none
  | .nilCheck x => match s.ev x with | some v => nilX v | none => none
  | .unOp op _ x => match s.ev x with | some v => unX op v | none => none
  | .convert a d x => match s.ev x with | some v => convX P s.h a d v | none => none
  | .fieldAddr t x f => match s.ev x with | some v => fieldAddrX P t v f | none => none
  | .indexAddr t x i => match s.ev x, s.ev i with | some v, some j => indexAddrX P t v j | _, _ => none
  | .field t x f => match s.ev x with | some v => fieldX P t v f | none => none
  | .index t x i => match s.ev x, s.ev i with | some v, some j => indexX P t v j | _, _ => none
  | .extract x i => match s.ev x with | some v => extractX v i | none => none
  | .lookup t x i ok => match s.ev x, s.ev i with | some v, some j => lookupX P s.h t v j ok | _, _ => none
  | .slice t x lo hi mx => match s.ev x, optX s.ev lo, optX s.ev hi, optX s.ev mx with
    | some v, some a, some b, some c => sliceX P t v a b c
    | _, _, _, _ => none
  | .makeFunc (.func f) a b => match evs s.ev a.toList, evs s.ev b.toList with
    | some u, some v => match u.all V.plain && v.all V.plain with | true => some (.fn (.func f) u v) | false => none
    | _, _ => none
  | .makeInterface t x => match P.underlying t, s.ev x with
    | some (.interface _), _ => none
    | some _, some v => match v.plain && !unk t with | true => some (.iface t v) | false => none
    | _, _ => none
  | .call c => match evs s.ev c.args.toList with
    | some vs => (match c.callee with
      | .builtin .len => (match c.argTypes.toList, vs with
        | t :: _, x :: _ => lenX P t x
        | _, _ => none)
      | .builtin .min => qV (minmaxQ false vs)
      | .builtin .max => qV (minmaxQ true vs)
      | _ => none)
    | none => none
  | _ => none

/-- ... which may hang on something. -/
def qT (P : Program) (s : St) (o : Op) (ty : TypeId) : Tr V :=
  match o with
  | .binOp op t x y _ => (match s.ev x, s.ev y with | some a, some b => binT P op t x y a b | _, _ => .fail)
  | .index t x i => (match s.ev x, s.ev i with
    | some (.str b), some (.iface u (.tup [.int _ _, e])) => (match unk u, P.underlying t with
      | true, some .string => .node ⟨.leq, .int .i64 0, e⟩ (.node ⟨.lss, e, .int .i64 b.size⟩ (.ret (mkI .u8 (.tup [.str b, e]))) .fail) .fail
      | _, _ => .fail)
    | _, _ => optT (qx P s (.index t x i) ty))
  | o => optT (qx P s o ty)

/-- What is appended. -/
def srcX (P : Program) (h : T Xb) (t2 : TypeId) (size : Nat) (y : V) : Option (List (List V)) :=
  match P.underlying t2, y with
  | some (.slice _), y => elsX h size y
  | some .string, .str s => match size with | 1 => some (s.data.toList.map fun b => [.int .u8 b.toNat]) | _ => none
  | _, _ => none

/-- A write into a block. -/
def St.write (s : St) (l off : Nat) (cs new : List V) : Option St :=
  match Nat.ble (off + new.length) cs.length with
  | true => some { s with h := s.h.put (some (.cells (wrCells cs off new))) l }
  | false => none

def St.add (s : St) (cs : List V) : St := { s with h := s.h.put (some (.cells cs)) s.nx, nx := s.nx + 1 }

/-- 'append'. -/
def appendOn (P : Program) (t t2 : TypeId) (x y : V) (s : St) : Option (V × St) :=
  match P.underlying t with
  | some (.slice e) =>
    match P.info? e with
    | some i =>
      match decide (0 < i.size) && decide (i.bytes ≤ 4096), zeroV P e, srcX P s.h t2 i.size y with
      | true, some _, some m =>
        match x with
        | .sl es l .full => match Nat.beq es i.size && Nat.beq (l ++ m).flatten.length ((l.length + m.length) * i.size) && Nat.ble (l.length + m.length) mostLen with
          | true => (match m with
            | [] => some (.sl es l .full, s)
            | _ :: _ => some (.sref es s.nx 0 (l.length + m.length) (2 * (l.length + m.length)), s.add (l ++ m).flatten))
          | false => none
        | .sref es l off n c => match Nat.beq es i.size && Nat.beq m.flatten.length (m.length * i.size) && Nat.ble (n + m.length) mostLen with
          | true => (match cellsX s.h l with
            | some cs =>
              match Nat.ble (off + n * es) cs.length && (Nat.beq (c % 2) 0 || Nat.ble (off + c / 2 * es) cs.length) with
              | true => (match m with
                | [] => some (.sref es l off n c, s)
                | _ :: _ =>
                  match Nat.ble (n + m.length) (c / 2) with
                  | true => (match s.write l (off + n * es) cs m.flatten with
                    | some s' => some (.sref es l off (n + m.length) c, s')
                    | none => none)
                  | false =>
                    match Nat.beq (c % 2) 1 with
                    | true => some (.sref es s.nx 0 (n + m.length) (2 * (n + m.length)), s.add ((cs.drop off).take (n * es) ++ m.flatten))
                    | false => (match Nat.ble cs.length (off + n * es) with
                      | true => some (.sref es s.nx 0 (n + m.length) (2 * (n + m.length)), { s with h := s.h.put none l }.add ((cs.drop off).take (n * es) ++ m.flatten))
                      | false => none))
              | false => none
            | none => none)
          | false => none
        | _ => none
      | _, _, _ => none
    | none => none
  | _ => none

def copyOn (P : Program) (t t2 : TypeId) (x y : V) (s : St) : Option (V × St) :=
  match P.underlying t with
  | some (.slice e) =>
    match P.info? e with
    | some i =>
      match decide (0 < i.size), srcX P s.h t2 i.size y with
      | true, some m =>
        match x with
        | .sref es l off n _ => (match Nat.beq es i.size, cellsX s.h l with
          | true, some cs => (match Nat.ble (off + n * es) cs.length, s.write l off cs (m.take n).flatten with
            | true, some s' => some (.int .i64 (min m.length n : Nat), s')
            | _, _ => none)
          | _, _ => none)
        | .sl _ [] _ => some (.int .i64 0, s)
        | _ => none
      | _, _ => none
    | none => none
  | _ => none

def clearOn (P : Program) (t : TypeId) (x : V) (s : St) : Option (V × St) :=
  match P.underlying t with
  | some (.slice e) =>
    match P.info? e with
    | some i =>
      match decide (0 < i.size), zeroV P e, x with
      | true, some z, .sref es l off n _ => (match Nat.beq es i.size, cellsX s.h l with
        | true, some cs => (match Nat.ble (off + n * es) cs.length, s.write l off cs (List.replicate n z).flatten with
          | true, some s' => some (.tup [], s')
          | _, _ => none)
        | _, _ => none)
      | _, _, _ => none
    | none => none
  | _ => none

def makeSliceOn (P : Program) (t : TypeId) (n c : V) (s : St) : Option (V × St) :=
  match P.underlying t with
  | some (.slice e) =>
    match P.info? e with
    | some i =>
      match zeroV P e, n, c, decide (0 < i.size) && decide (i.bytes ≤ 4096) with
      | some z, .int _ (.ofNat a), .int _ (.ofNat b), true => (match Nat.ble a b && Nat.ble b mostLen with
        | true => some (.sref i.size s.nx 0 a (2 * b + 1), s.add (List.replicate b z).flatten)
        | false => none)
      | _, _, _, _ => none
    | none => none
  | _ => none

def storeX (P : Program) (t : TypeId) (a v : V) (s : St) : Option St :=
  match okT P t, P.cellsOf t with
  | true, n + 1 =>
    match cellsOfX (n + 1) v, a with
    | some new, .ptr l off => (match cellsX s.h l with
      | some cs => s.write l off cs new
      | none => none)
    | _, _ => none
  | _, _ => none

def mapUpdateOn (P : Program) (t : TypeId) (x k v : V) (s : St) : Option St :=
  match P.underlying t, x with
  | some (.map kt _), .map (some r) => match keyT P kt k, s.h.get r, v.plain with
    | true, some (.map es), true => (match updV k v es with
      | some es' => some { s with h := s.h.put (some (.map es')) r }
      | none => none)
    | _, _, _ => none
  | _, _ => none

/-- How calls are made: the function, or a round of a range over a function. -/
structure Env where
  call : FuncId → List V → T Xb → Nat → Tr (V × T Xb × Nat)
  yield : Nat → List V → T Xb → Nat → Tr (V × T Xb × Nat)
  loop : FuncId → Nat → St → Option (Ex × St)
def noLoop (E : Env) : Env := { E with loop := fun _ _ _ => none }
/-- A loop's number: that of its first region. -/
def firstId : Code → Option Nat
  | .region id _ _ => some id
  | .seq a b => (match firstId a with | some i => some i | none => firstId b)
  | .cond _ a b => (match firstId a with | some i => some i | none => firstId b)
  | .block _ c | .loop c | .scope c => firstId c
  | _ => none
def loopNo (c : Code) : Nat := (firstId c).getD 999999

def withH (s : St) (r : V × T Xb × Nat) : V × St := (r.1, { s with h := r.2.1, nx := r.2.2 })

/-- Is a slice nil? Of one without elements that is not known. -/
def someSl : V → Bool
  | .sl _ (_ :: _) _ => true
  | .sref _ _ _ (_ + 1) _ => true
  | _ => false

/-- A call's answer, as it comes. -/
def okShape1 (P : Program) (t : TypeId) (v : V) : Bool :=
  match P.underlying t with
  | some (.pointer _) => (match v with | .ptr _ _ => true | .nilp => true | _ => false)
  | some (.slice e) => (match v with | .sl es _ _ => Nat.beq es (P.cellsOf e) | .sref es _ _ _ _ => Nat.beq es (P.cellsOf e) | _ => false)
  | _ => v.plain

def okShapes (P : Program) : List TypeId → List V → Bool
  | [], [] => true
  | t :: ts, v :: vs => okShape1 P t v && okShapes P ts vs
  | _, _ => false

def okShape (P : Program) (t : TypeId) (v : V) : Bool :=
  match P.underlying t with
  | some (.tuple ts) => (match v with | .tup vs => okShapes P ts.toList vs | _ => false)
  | _ => okShape1 P t v

/-- A call's answer must be of the shape that its type tells. -/
def shapedX (P : Program) (ty : TypeId) (r : V × St) : Tr (V × St) := match okShape P ty r.1 with | true => .ret r | false => .fail

def effX (P : Program) (s : St) (o : Op) (ty : TypeId) : Option (V × St) :=
  match o with
  | .binOp op t x (.const (.slice none 0 0)) _ => match s.ev x with
    | some v => match someSl v && (match P.underlying t with | some (.slice _) => true | _ => false), op with
      | true, .eql => some (.bool false, s)
      | true, .neq => some (.bool true, s)
      | _, _ => none
    | none => none
  | .alloc t => match zeroV P t with | some cs => some (.ptr s.nx 0, s.add cs) | none => none
  | .box t x => match okT P t, s.ev x with
    | true, some v => match cellsOfX (P.cellsOf t) v with | some cs => some (.ptr s.nx 0, s.add cs) | none => none
    | _, _ => none
  | .store t a x => match s.ev a, s.evT P t x with
    | some p, some v => match storeX P t p v s with | some s' => some (.undef, s') | none => none
    | _, _ => none
  | .buildSlice t n ps => match partsX s.ev ps.toList with
    | some l => (match buildSliceX P t n l with
      | some (.sl es l .full) => some (.sref es s.nx 0 l.length (2 * l.length + 1), s.add l.flatten)
      | _ => none)
    | none => none
  | .convert a d x => match a == d, P.underlying a, s.ev x with
    | true, some (.slice e), some (.sref es l o (n + 1) c) => (match zeroIsByte P e, cellsX s.h l with
      | true, some _ => some (.sref es l o (n + 1) c, s)
      | _, _ => none)
    | _, _, _ => none
  | .makeSlice t n c => match s.ev n, s.ev c with | some a, some b => makeSliceOn P t a b s | _, _ => none
  | .makeMap _ none => some (.map (some s.nx), { s with h := s.h.put (some (.map [])) s.nx, nx := s.nx + 1 })
  | .mapUpdate t m k v => match s.ev m, s.ev k, s.ev v with
    | some a, some b, some c => match mapUpdateOn P t a b c s with | some s' => some (.undef, s') | none => none
    | _, _, _ => none
  | .call c =>
    match evsT P s c.argTypes.toList c.args.toList with
    | none => none
    | some vs =>
      match c.callee with
      | .builtin .append => match c.argTypes.toList, vs with
        | t :: t2 :: _, [x, y] => appendOn P t t2 x y s
        | _, _ => none
      | .builtin .copy => match c.argTypes.toList, vs with
        | t :: t2 :: _, [x, y] => copyOn P t t2 x y s
        | _, _ => none
      | .builtin .len => match c.argTypes.toList, vs with
        | t :: _, [x] => (match mapT P t, mapX s.h x with
          | true, some es => some (.int .i64 es.length, s)
          | _, _ => none)
        | _, _ => none
      | .builtin .clear => match c.argTypes.toList, vs with
        | t :: _, [x] => clearOn P t x s
        | _, _ => none
      | _ => none
  | _ => none

/-- ... calls among them. -/
def effT (P : Program) (E : Env) (s : St) (o : Op) (ty : TypeId) : Tr (V × St) :=
  match o with
  | .call { callee := .value f, args := args, argTypes := ts } =>
    match evsT P s ts.toList args.toList with
    | none => .fail
    | some vs => match s.ev f, vs.all V.plain with
      | some (.fn (.func k) first caps), true => (E.call k (first ++ vs ++ caps) s.h s.nx).bind fun r => shapedX P ty (withH s r)
      | some (.fn (.yield l) [] []), true => (E.yield l vs s.h s.nx).bind fun r => shapedX P ty (withH s r)
      | _, _ => .fail
  | o => optT (effX P s o ty)

def St.put (s : St) (dst : Option Tmp) (v : Option V) : St := match dst with | some d => { s with tm := s.tm.put v d } | none => s

/-- Is the operation carried out? none: that is not known; some none: it has no guard. -/
def guardX (ops : List Oper) (s : St) (o : Oper) : Option (Option Bool) :=
  match o.guard with
  | none => some none
  | some (j, want) =>
    match ops[j]? with
    | some p => match p.dst with
      | some d => match s.tm.get d with
        | some (.bool t) => some (some (match want with | true => t | false => !t))
        | some (.opt true (.bool t)) => some (some (match want with | true => t | false => !t))
        | some (.opt false _) => some (some false)
        | _ => none
      | none => none
    | none => none

/-- What is skipped. -/
def skipped (P : Program) (sort : Nat) (o : Oper) : Option V :=
  match sort with
  | 0 => some (.opt false .undef)
  | _ => match P.underlying o.type with
    | some .bool | some (.int _) | some .string => some (.opt false .undef)
    | _ => none

def yesX (P : Program) (t : TypeId) (g : Option Bool) (v : V) : V := match g with | none => v | some _ => yesV P t true v

def opX (P : Program) (E : Env) (esc : List Nat) (ops : List Oper) (s : St) (o : Oper) : Tr St :=
  match guardX ops s o with
  | none => .fail
  | some (some false) => match sortOf esc o with | 1 => .fail | k => .ret (s.put o.dst (skipped P k o))
  | some g =>
    match sortOf esc o with
    | 0 => (qT P s o.op o.type).bind fun v => .ret (s.put o.dst (some (match g with | none => v | some _ => .opt true v)))
    | 1 => .fail
    | _ => (effT P E s o.op o.type).bind fun r => .ret (r.2.put o.dst (some (yesX P o.type g r.1)))

def opsX (P : Program) (E : Env) (esc : List Nat) (ops : List Oper) : List Oper → St → Tr St
  | [], s => .ret s
  | o :: r, s => (opX P E esc ops s o).bind fun s' => opsX P E esc ops r s'

def sameSl : V → V → Bool
  | .sref es i _ _ _, .sref es' j _ _ _ => Nat.beq es es' && Nat.beq i j
  | _, _ => false
def sameG : G → G → Bool
  | .full, .full => true
  | .no, .no => true
  | _, _ => false

mutual
def sameV : V → V → Bool
  | .bool a, .bool b => a == b
  | .int k a, .int k' b => kindEq k k' && a == b
  | .str a, .str b => a.data.toList == b.data.toList
  | .nilp, .nilp => true
  | .ptr a b, .ptr c d => Nat.beq a c && Nat.beq b d
  | .sref a b c d e, .sref a' b' c' d' e' => Nat.beq a a' && Nat.beq b b' && Nat.beq c c' && Nat.beq d d' && Nat.beq e e' && Nat.blt 0 b
  | .sl a l g, .sl b m g' => Nat.beq a b && sameVss l m && sameG g g'
  | .agg a, .agg b => sameVs a b
  | .nilfn, .nilfn => true
  | .iface t a, .iface t' b => Nat.beq t t' && (match unk t with | true => eqV a b || sameSl a b | false => sameV a b)
  | .nilif, .nilif => true
  | .map none, .map none => true
  | .map (some a), .map (some b) => Nat.beq a b
  | .fn (.func f) a b, .fn (.func g) a' b' => Nat.beq f g && sameVs a a' && sameVs b b'
  | .opt c a, .opt d b => c && d && sameV a b
  | _, _ => false
def sameVs : List V → List V → Bool
  | [], l => l.isEmpty
  | a :: r, l => (match l with
    | b :: t => sameV a b && sameVs r t
    | [] => false)
def sameVss : List (List V) → List (List V) → Bool
  | [], l => l.isEmpty
  | a :: r, l => (match l with
    | b :: t => sameVs a b && sameVss r t
    | [] => false)
end

/-- What was read is still there. -/
def againX (P : Program) (ops : List Oper) (s : St) (j : Nat) : Bool :=
  match ops[j]? with
  | none => false
  | some o => match guardX ops s o, o.dst with
    | some (some false), _ => false
    | some g, some d => match qx P s o.op o.type, s.tm.get d with
      | some v, some u => sameV (match g with | none => v | some _ => .opt true v) u
      | _, _ => false
    | _, _ => false

def runX (P : Program) (E : Env) (esc : List Nat) (ops : List Oper) : List (Nat × List Nat) → St → Tr St
  | [], s => .ret s
  | (i, rc) :: r, s =>
    match ops[i]? with
    | none => .fail
    | some o => (opX P E esc ops s o).bind fun s' => match (match guardX ops s o with | some (some false) => true | _ => rc.all (againX P ops s')) with
        | true => runX P E esc ops r s'
        | false => .fail

/-- All that is told has a place in the frame. -/
def inFrame (n : Nat) (ops : List Oper) : Bool := ops.all fun o => match o.dst with | some d => Nat.blt d n | none => true

def regX (P : Program) (E : Env) (esc : List Nat) (n : Nat) (ops : List Oper) (draw : Bool) (s : St) : Tr St :=
  match inFrame n ops with
  | true => (match draw with
    | false => opsX P E esc ops ops s
    | true => match zerosOk P ops, regPlan esc ops with
      | true, some plan => runX P E esc ops plan s
      | _, _ => .fail)
  | false => .fail

def iter (body : St → Tr (Ex × St)) : Nat → St → Tr (Ex × St)
  | 0, _ => .fail
  | n + 1, s => (body s).bind fun r => match r with
    | (.normal, s') => iter body n s'
    | r => .ret r

def plainTm : Option V → Option V
  | some (.opt _ _) => none
  | r => r

/-- A scope: from a label on, as long as it is jumped to one of its labels. -/
def scopeX (c : Code) (run : Nat → St → Tr (Ex × St)) : Nat → Ex × St → Tr (Ex × St)
  | 0, _ => .fail
  | n + 1, r => match r with
    | (.goto l, s) => (match hasLab c l with
      | true => (run l s).bind (scopeX c run n)
      | false => .ret (.goto l, s))
    | r => .ret r

mutual
def exX (P : Program) (E : Env) (fid : FuncId) (esc : List Nat) (rnd : Bool) (n : Nat) (fuel : Nat) : Code → St → Tr (Ex × St)
  | .skip, s => .ret (.normal, s)
  | .region _ ops draw, s => (regX P E esc n ops.toList draw s).bind fun s' => .ret (.normal, s')
  | .seq a b, s => (exX P E fid esc rnd n fuel a s).bind fun r => match r with
    | (.normal, s') => exX P E fid esc rnd n fuel b s'
    | r => .ret r
  | .cond c x y, s => match s.raw c with
    | some (.bool true) => exX P E fid esc rnd n fuel x s
    | some (.bool false) => exX P E fid esc rnd n fuel y s
    | _ => .fail
  | .block id c, s => (exX P E fid esc rnd n fuel c s).bind fun r => match r with
    | (.exit i, s') => (match Nat.beq i id with | true => .ret (.normal, s') | false => .ret (.exit i, s'))
    | r => .ret r
  | .loop c, s => match E.loop fid (loopNo c) s with
    | some r => .ret r
    | none => iter (exX P E fid esc rnd n fuel c) fuel s
  | .exit id, s => .ret (.exit id, s)
  | .ret, s => .ret (.ret, s)
  | .label _, s => .ret (.normal, s)
  | .rangeFunc f ps asg body, s => match rnd, s.raw f with
    | false, some (.fn (.func k) first caps) =>
      match enters P k with
      | false => .fail
      | true => (E.call k (first ++ [.fn (.yield s.nx) [] []] ++ caps) (s.h.put (some (.loop .ready ps.toList (s.tm.map plainTm) n asg body)) s.nx) (s.nx + 1)).bind fun r =>
        match r.2.1.get s.nx with
        | some (.loop .ready _ _ _ _ _) => .ret (.normal, { s with h := r.2.1.put none s.nx, nx := r.2.2 })
        | some (.loop (.done c) _ _ _ _ _) => (match exOfC c with
          | some e => .ret (e, { s with h := r.2.1.put none s.nx, nx := r.2.2 })
          | none => .fail)
        | _ => .fail
    | _, _ => .fail
  | .goto l, s => .ret (.goto l, s)
  | .scope c, s => (exX P E fid esc rnd n fuel c s).bind (scopeX c (fun l s => exL P E fid esc rnd n fuel c l s) fuel)
  | .refuse _, _ => .fail
/-- From a label on. -/
def exL (P : Program) (E : Env) (fid : FuncId) (esc : List Nat) (rnd : Bool) (n : Nat) (fuel : Nat) : Code → Nat → St → Tr (Ex × St)
  | .seq a b, l, s => (match hasLab a l with
    | true => (exL P E fid esc rnd n fuel a l s).bind fun r => (match r with
      | (.normal, s') => exX P E fid esc rnd n fuel b s'
      | r => .ret r)
    | false => exL P E fid esc rnd n fuel b l s)
  | .label _, _, s => .ret (.normal, s)
  | _, _, _ => .fail
end

def resX (P : Program) (s : St) : ResultVar → Option V
  | .tmp t => match s.tm.get t with
    | some (.opt true v) => (match v.plain with | true => some v | false => none)
    | some (.opt false _) => none
    | r => r
  | .cell a t => match s.tm.get a with
    | some (.ptr l off) => loadX P s.h t (.ptr l off)
    | _ => none

def ressX (P : Program) (s : St) : List ResultVar → Option (List V)
  | [] => some []
  | r :: rs => match resX P s r, ressX P s rs with
    | some v, some l => some (v :: l)
    | _, _ => none

def answerX (P : Program) (fn : Func) (s : St) : Option (V × T Xb × Nat) :=
  match ressX P s fn.results.toList with
  | some [v] => some (v, s.h, s.nx)
  | some vs => some (.tup vs, s.h, s.nx)
  | none => none

/-- Slices that are written out to be appended alone. -/
def bsOf : List Oper → List Nat
  | [] => []
  | o :: r => match o.op with
    | .call c => (match c.callee, c.args.toList with
      | .builtin .append, [_, .tmp d] => (2000000 + d) :: bsOf r
      | _, _ => bsOf r)
    | _ => bsOf r
/-- Numbers of a map's entries. -/
def lensOf (P : Program) : List Oper → List Nat
  | [] => []
  | o :: r => match o.op, o.dst with
    | .call c, some d => (match c.callee, c.argTypes.toList with
      | .builtin .len, t :: _ => (match mapT P t with | true => (4000000 + d) :: lensOf P r | false => lensOf P r)
      | _, _ => lensOf P r)
    | _, _ => lensOf P r
def slotsOf (P : Program) (ops : List Oper) : List Nat := bsOf ops ++ lensOf P ops ++ ops.filterMap fun o => match o.op with | .alloc _ | .box _ _ => o.dst | _ => none
def slotsC (P : Program) : Code → List Nat
  | .region _ ops _ => slotsOf P ops.toList
  | .seq a b => slotsC P a ++ slotsC P b
  | .cond _ a b => slotsC P a ++ slotsC P b
  | .block _ c | .loop c | .scope c => slotsC P c
  | .rangeFunc _ _ a b => slotsC P a ++ slotsC P b
  | _ => []

def slots (P : Program) (c : Code) : List Nat := 999999 :: slotsC P c

/-- A round: it begins with the temporaries of the frame that runs it. -/
def roundX (P : Program) (E : Env) (fuel : Nat) (l : Nat) (args : List V) (h : T Xb) (nx : Nat) : Tr (V × T Xb × Nat) :=
  match h.get l with
  | some (.loop .ready ps tm n asg body) =>
    match Nat.beq ps.length args.length && ps.all (fun p => Nat.blt p n) with
    | true => (exX P (noLoop E) 0 (slots P asg ++ slots P body) true n fuel asg { tm := (ps.zip args).foldl (fun t e => t.put (some e.2) e.1) tm, h := h, nx := nx }).bind fun r => match r with
      | (.normal, s) => (match s.h.get l with
        | some (.loop .ready ps tm n' asg' body') => (exX P (noLoop E) 0 (slots P asg ++ slots P body) true n fuel body { s with h := s.h.put (some (.loop .busy ps tm n' asg' body')) l }).bind fun r => match r.2.h.get l with
            | some (.loop _ ps tm n asg' body') => (match r.1 with
              | .normal => .ret (.bool true, r.2.h.put (some (.loop .ready ps tm n asg' body')) l, r.2.nx)
              | .exit i => .ret (.bool false, r.2.h.put (some (.loop (.done (.exit i)) ps tm n asg' body')) l, r.2.nx)
              | .ret => .ret (.bool false, r.2.h.put (some (.loop (.done .ret) ps tm n asg' body')) l, r.2.nx)
              | .goto _ => .fail)
            | _ => .fail
        | _ => .fail)
      | _ => .fail
    | false => .fail
  | _ => .fail

def bodyX (P : Program) (E : Env) (fuel : Nat) (f : FuncId) (args : List V) (h : T Xb) (nx : Nat) : Tr (V × T Xb × Nat) :=
  match P.funcs[f]? with
  | some fn => match fn.body, fn.name != "runtime.NumGoroutine" && Nat.ble args.length fn.ntmps with
    | some c, true => (exX P E f (slots P c) false fn.ntmps fuel c { tm := T.ofList args 0 .nil, h := h, nx := nx }).bind fun r => match r with
      | (.normal, s) => optT (answerX P fn s)
      | (.ret, s) => optT (answerX P fn s)
      | _ => .fail
    | _, _ => .fail
  | none => .fail

/-- Calls, so many one within the other; 'hk': functions that are known without being run. -/
def callX (P : Program) (hk : FuncId → List V → T Xb → Nat → Option (V × T Xb × Nat)) (lk : FuncId → Nat → St → Option (Ex × St)) (fuel : Nat) : Nat → Env
  | 0 => { call := fun _ _ _ _ => .fail, yield := fun _ _ _ _ => .fail, loop := fun _ _ _ => none }
  | n + 1 =>
    { call := fun f args h nx => match hk f args h nx with
        | some r => .ret r
        | none => bodyX P { callX P hk lk fuel n with loop := lk } fuel f args h nx
      yield := roundX P (callX P hk lk fuel n) fuel
      loop := lk }
end
end Jt
end
