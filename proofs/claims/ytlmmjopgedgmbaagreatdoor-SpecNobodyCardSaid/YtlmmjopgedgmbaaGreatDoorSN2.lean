/- Proved here: of SN2, that what the Go functions of this part compute is as their contracts say (texts JxA), for every input; no condition beyond those that each theorem states. -/
import Derived.Test.YtlmmjopgedgmbaaGreatDoorSN1
set_option linter.all false
section
/- A program of the model, run on values: what a closed call comes to. -/
namespace Jx
open Go Jb
noncomputable section

/-- Places with values. -/
inductive T (α : Type) where
  | nil
  | node (v : Option α) (l r : T α)

/- Written out with recursors: the kernel runs these the fastest. -/
def T.get {α : Type} (t : T α) : Nat → Option α :=
  T.rec (motive := fun _ => Nat → Option α) (fun _ => none)
    (fun v _ _ gl gr k => Nat.rec (motive := fun _ => Option α) v (fun k _ => Bool.rec (motive := fun _ => Option α) (gr (k / 2)) (gl (k / 2)) (Nat.beq (k % 2) 0)) k) t

def T.one {α : Type} (v : Option α) (n : Nat) : Nat → T α :=
  Nat.rec (motive := fun _ => Nat → T α) (fun _ => .nil)
    (fun _ r k => Nat.rec (motive := fun _ => T α) (.node v .nil .nil) (fun k _ => Bool.rec (motive := fun _ => T α) (.node none .nil (r (k / 2))) (.node none (r (k / 2)) .nil) (Nat.beq (k % 2) 0)) k) n

def T.put {α : Type} (v : Option α) (t : T α) : Nat → T α :=
  T.rec (motive := fun _ => Nat → T α) (fun k => T.one v (k + 1) k)
    (fun u l r pl pr k => Nat.rec (motive := fun _ => T α) (.node v l r) (fun k _ => Bool.rec (motive := fun _ => T α) (.node u l (pr (k / 2))) (.node u (pl (k / 2)) r) (Nat.beq (k % 2) 0)) k) t

def T.map {α : Type} (f : Option α → Option α) : T α → T α
  | .nil => .nil
  | .node v l r => .node (f v) (l.map f) (r.map f)

def T.ofList {α : Type} : List α → Nat → T α → T α
  | [], _, t => t
  | v :: r, k, t => T.ofList r (k + 1) (t.put (some v) k)

inductive Xb where
  | cells (cs : List V)
  | loop (st : LSt) (ps : List Nat) (tm : T V) (n : Nat) (asg body : Code)
  | map (es : List (V × V))

structure St where
  tm : T V
  h : T Xb
  nx : Nat

/-! Unknown numbers, and slices: '.iface' of a type beyond all. The number in it names what is unknown, and tells between what bounds it lies. -/
def unk (t : TypeId) : Bool := Nat.ble 1000000000000000000000000000000 t
def isUnk : V → Bool
  | .iface t _ => unk t
  | _ => false
/-- 70 bits: the upper bound (all of them: there is none); 70 bits: the lower one (each with 2^69 added); above: a name. -/
def lo (n : Int) : Int := ((n.toNat / 1180591620717411303424 % 1180591620717411303424 : Nat) : Int) - 590295810358705651712
def hi (n : Int) : Option Int := match Nat.beq (n.toNat % 1180591620717411303424) 1180591620717411303423 with
  | true => none
  | false => some (((n.toNat % 1180591620717411303424 : Nat) : Int) - 590295810358705651712)

inductive Sy where
  | lit (n : Int)
  | un (n : Int)

def sy : V → Option (IntKind × Sy)
  | .int k n => some (k, .lit n)
  | .iface t v => (match unk t, v with
    | true, .int k n => some (k, .un n)
    | _, _ => none)
  | _ => none
def Sy.lo : Sy → Int
  | .lit n => n
  | .un n => Jx.lo n
def Sy.hi : Sy → Option Int
  | .lit n => some n
  | .un n => Jx.hi n
/-- All below, at or below. -/
def below (a : Option Int) (b : Int) : Bool := match a with | some x => decide (x < b) | none => false
def upto (a : Option Int) (b : Int) : Bool := match a with | some x => decide (x ≤ b) | none => false
def Sy.same : Sy → Sy → Bool
  | .un n, .un m => n == m
  | .lit n, .lit m => n == m
  | _, _ => false
def ltS (a b : Sy) : Option Bool :=
  match below a.hi b.lo with
  | true => some true
  | false => match upto b.hi a.lo with
    | true => some false
    | false => none
def eqS (a b : Sy) : Option Bool :=
  match a.same b with
  | true => some true
  | false => match below a.hi b.lo || below b.hi a.lo with
    | true => some false
    | false => none
def boolO (b : Option Bool) : Option V := match b with | some x => some (.bool x) | none => none
def notO (b : Option Bool) : Option Bool := match b with | some x => some (!x) | none => none
/-- Unknown numbers, compared. -/
def symX (op : BinOp) (x y : V) : Option V :=
  match sy x, sy y with
  | some (k, a), some (k', b) => match kindEq k k' with
    | true => (match op with
      | .eql => boolO (eqS a b)
      | .neq => boolO (notO (eqS a b))
      | .lss => boolO (ltS a b)
      | .geq => boolO (notO (ltS a b))
      | .gtr => boolO (ltS b a)
      | .leq => boolO (notO (ltS b a))
      | _ => none)
    | false => none
  | _, _ => none

def St.raw (s : St) : Operand → Option V
  | .tmp t => s.tm.get t
  | .const v => some (ofConst v)
  | .func f => some (.fn (.func f) [] [])
  | .global _ => none

def known : Option V → Option V
  | some (.opt true v) => some v
  | some (.opt false _) => none
  | some .undef => none
  | r => r

def St.ev (s : St) (x : Operand) : Option V := known (s.raw x)

/-- A nil slice of a type. -/
def nilOf (P : Program) (t : TypeId) : Option V := match P.underlying t with | some (.slice e) => some (.sl (P.cellsOf e) [] .full) | _ => none

def St.evT (P : Program) (s : St) (t : TypeId) (x : Operand) : Option V :=
  match x with
  | .const (.slice none 0 0) => nilOf P t
  | x => s.ev x

def evsT (P : Program) (s : St) : List TypeId → List Operand → Option (List V)
  | _, [] => some []
  | t :: ts, x :: r => match s.evT P t x, evsT P s ts r with
    | some v, some l => some (v :: l)
    | _, _ => none
  | [], x :: r => match s.ev x, evsT P s [] r with
    | some v, some l => some (v :: l)
    | _, _ => none

def evs (ρ : Operand → Option V) : List Operand → Option (List V)
  | [] => some []
  | x :: r => match ρ x, evs ρ r with
    | some v, some l => some (v :: l)
    | _, _ => none

def cellsX (h : T Xb) (k : Nat) : Option (List V) := match h.get k with | some (.cells cs) => some cs | _ => none

/-- A value by its type. -/
def shX (P : Program) (t : TypeId) (v : V) : Option V :=
  match P.underlying t with
  | some .bool => match v with | .bool b => some (.bool b) | _ => none
  | some (.int k) => match v with
    | .int k' n => (match kindEq k k' with | true => some (.int k n) | false => none)
    | .iface t (.int k' n) => (match unk t, kindEq k k' with | true, true => some (.iface t (.int k n)) | _, _ => none)
    | _ => none
  | some .string => match v with | .str s => some (.str s) | _ => none
  | some (.slice e) => match v with
    | .sl es l g => (match Nat.beq es (P.cellsOf e) with | true => some (.sl es l g) | false => none)
    | .sref es l o n c => (match Nat.beq es (P.cellsOf e) with | true => some (.sref es l o n c) | false => none)
    | .iface t (.sref es l o n c) => (match unk t, Nat.beq es (P.cellsOf e) with | true, true => some (.iface t (.sref es l o n c)) | _, _ => none)
    | _ => none
  | some (.struct _) | some (.array _ _) => none
  | _ => match v.plain with | true => some v | false => none

def rdX (P : Program) (t : TypeId) (cs : List V) (off : Nat) : Option V :=
  match okT P t, (P.underlying t).isSome, aggT P t with
  | true, true, true => match Nat.ble (off + P.cellsOf t) cs.length with
    | true => some (.agg ((cs.drop off).take (P.cellsOf t)))
    | false => none
  | true, true, false => match cs[off]? with
    | some v => shX P t v
    | none => none
  | _, _, _ => none

def loadX (P : Program) (h : T Xb) (t : TypeId) : V → Option V
  | .ptr l off => match cellsX h l with | some cs => rdX P t cs off | none => none
  | .cptr cs off => rdX P t cs off
  | _ => none

def nilX : V → Option V
  | .ptr l off => some (.ptr l off)
  | .cptr cs off => some (.cptr cs off)
  | .fn (.func f) a b => some (.fn (.func f) a b)
  | _ => none

def movedX (n : Nat) : V → Option V
  | .ptr l off => some (.ptr l (off + n))
  | .cptr cs off => some (.cptr cs (off + n))
  | _ => none

def fieldAddrX (P : Program) (s : TypeId) (x : V) (f : Nat) : Option V :=
  match fieldOf P s f with
  | some (o, t) => match okT P t, P.cellsOf t with
    | true, _ + 1 => movedX o x
    | _, _ => none
  | none => none

def inB (n : Int) (len : Nat) : Bool := match n with
  | .ofNat k => Nat.blt k len
  | .negSucc _ => false

def indexAddrX (P : Program) (t : TypeId) (x i : V) : Option V :=
  match i with
  | .int _ n =>
    match P.underlying t with
    | some (.array len e) =>
      match okT P e, inB n len with
      | true, true =>
        match x with
        | .ptr l off => some (.ptr l (off + n.toNat * P.cellsOf e))
        | .cptr cs off => some (.cptr cs (off + n.toNat * P.cellsOf e))
        | _ => none
      | _, _ => none
    | some (.slice e) =>
      match okT P e, x with
      | true, .sl es l _ => match Nat.beq es (P.cellsOf e), inB n l.length with
        | true, true => some (.cptr (l.getD n.toNat []) 0)
        | _, _ => none
      | true, .sref es l off len _ => match Nat.beq es (P.cellsOf e), inB n len with
        | true, true => some (.ptr l (off + n.toNat * es))
        | _, _ => none
      | _, _ => none
    | _ => none
  | _ => none

def fieldX (P : Program) (t : TypeId) (x : V) (f : Nat) : Option V :=
  match fieldOf P t f, x with
  | some (o, t), .agg cs => rdX P t cs o
  | _, _ => none

def indexX (P : Program) (t : TypeId) (x i : V) : Option V :=
  match i with
  | .int _ n =>
    match P.underlying t with
    | some (.array len e) => match x, inB n len with
      | .agg cs, true => rdX P e cs (n.toNat * P.cellsOf e)
      | _, _ => none
    | some .string => match x with
      | .str s => match inB n s.size with
        | true => some (.int .u8 (s.data.getD n.toNat 0).toNat)
        | false => none
      | _ => none
    | _ => none
  | _ => none

def qV : Q → Option V
  | .ok v => some v
  | _ => none

def intX (op : BinOp) (k : IntKind) (a b : Int) : Option V :=
  match op with
  | .quo => match decide (b = 0) with | true => none | false => some (.int k (k.wrap (a.tdiv b)))
  | .rem => match decide (b = 0) with | true => none | false => some (.int k (a.tmod b))
  | op => qV (intQ op k a b)

def shiftX (op : BinOp) (k : IntKind) (a b : Int) : Option V :=
  match decide (0 ≤ b) with
  | true => (match op with
    | .shl => some (.int k (k.wrap (a * 2 ^ min b.toNat k.bits)))
    | .shr => some (.int k (a.fdiv (2 ^ min b.toNat k.bits)))
    | _ => none)
  | false => none

/-- Cells of the kinds of others: unknown ones among them. -/
def fitsX : List V → List V → Bool
  | [], l => l.isEmpty
  | z :: r, l => (match l with
    | [] => false
    | v :: s => (match z, v with
      | .bool _, .bool _ => true
      | .str _, .str _ => true
      | .int k _, v => (match sy v with | some (k', _) => kindEq k k' | none => false)
      | _, _ => false) && fitsX r s)

def eqC (a b : V) : Option Bool :=
  match a, b with
  | .bool x, .bool y => some (x == y)
  | .str x, .str y => some (x == y)
  | a, b => match sy a, sy b with
    | some (_, x), some (_, y) => eqS x y
    | _, _ => none
def eqCs : List V → List V → Option Bool
  | [], l => some l.isEmpty
  | a :: r, l => (match l with
    | [] => some false
    | b :: s => match eqC a b with
      | some true => eqCs r s
      | some false => some false
      | none => none)

def eqlX (P : Program) (no : Bool) (t : TypeId) (x y : V) : Option V :=
  match x, y with
  | .agg cs, .agg ds => match aggT P t, eqKinds P t with
    | true, some z => match fitsX z cs && fitsX z ds, eqCs cs ds with
      | true, some b => some (.bool (neg no b))
      | _, _ => none
    | _, _ => none
  | x, y => qV (eqlQ P no t x y)

def strX (op : BinOp) (a b : ByteArray) : Option V :=
  match op with
  | .eql => some (.bool (a.data.toList == b.data.toList))
  | .neq => some (.bool (!(a.data.toList == b.data.toList)))
  | .add => match Nat.ble (a.size + b.size) 4611686018427387904 with
    | true => some (.str ⟨(a.data.toList ++ b.data.toList).toArray⟩)
    | false => none
  | _ => none

def binX (P : Program) (op : BinOp) (t : TypeId) (x y : V) : Option V :=
  match isUnk x || isUnk y with
  | true => symX op x y
  | false => match x, y with
  | .str a, .str b => strX op a b
  | .int k a, .int k' b =>
    match op with
    | .shl | .shr => shiftX op k a b
    | _ => match kindEq k k' with | true => intX op k a b | false => none
  | x, y => match op with
    | .eql => eqlX P false t x y
    | .neq => eqlX P true t x y
    | _ => none

def binXn (P : Program) (op : BinOp) (t : TypeId) (x y : Operand) (u v : V) : Option V :=
  match nilC x || nilC y, u, v with
  | true, .nilif, .nilif => qV (nilNilQ P op t)
  | _, _, _ => binX P op t u v

def cellsOfX (size : Nat) (v : V) : Option (List V) :=
  match v with
  | .agg cs => match Nat.beq cs.length size with | true => some cs | false => none
  | v => match v.one, size with | true, 1 => some [v] | _, _ => none

def layX (place : Nat → Option (Nat × Nat)) (n : Nat) : List V → List (Nat × V) → Option (List V)
  | cs, [] => some cs
  | cs, (i, v) :: r =>
    match place i with
    | none => none
    | some (off, size) =>
      match Nat.ble (off + size) n, cellsOfX size v with
      | true, some new => layX place n (cs.take off ++ new ++ cs.drop (off + size)) r
      | _, _ => none

def buildX (P : Program) (t : TypeId) (parts : List (Nat × V)) : Option V :=
  match zeroV P t, placesOf P t with
  | some z, some pl => match layX pl (P.cellsOf t) z parts with | some cs => some (.agg cs) | none => none
  | _, _ => none

def elemsX (size : Nat) : List V → Option (List (List V))
  | [] => some []
  | v :: r => match cellsOfX size v, elemsX size r with
    | some new, some l => some (new :: l)
    | _, _ => none

def buildSliceX (P : Program) (t : TypeId) (n : Nat) (parts : List (Nat × V)) : Option V :=
  match P.underlying t with
  | some (.slice e) => match zeroV P e, P.cellsOf e, decide (n * P.cellsOf e ≤ 16777216) && (parts.map (·.1) == List.range n) with
    | some _, s + 1, true => match elemsX (s + 1) (parts.map (·.2)) with | some l => some (.sl (s + 1) l .full) | none => none
    | _, _, _ => none
  | _ => none

/-- A bound, if there is one: between two numbers. -/
def bndX (v : Option V) (d : Nat) : Option Nat :=
  match v with
  | none => some d
  | some (.int _ (.ofNat n)) => some n
  | _ => none

/-- A part of a slice with a block. 'cap' of a slice with a block: twice the number; one more: it is just that. Block 0: without elements, wherever it may lie. -/
def part0X (es l off n c : Nat) (lo hi mx : Option V) : Option V :=
  match bndX lo 0, bndX hi n, mx with
  | some a, some b, none => match Nat.ble a b && Nat.ble b (c / 2) with
    | true => (match Nat.beq (c / 2) a, Nat.beq (c % 2) 1 with
      | true, true => some (.sref es l off (b - a) (c - 2 * a))
      | true, false => some (.sref es 0 0 0 0)
      | false, _ => some (.sref es l (off + a * es) (b - a) (c - 2 * a)))
    | false => none
  | some a, some b, some m => match bndX (some m) 0, hi with
    | some d, some _ => match Nat.ble a b && Nat.ble b d && Nat.ble d (c / 2) && Nat.blt 0 l with
      | true => some (.sref es l (match Nat.beq d a with | true => off | false => off + a * es) (b - a) (2 * (d - a) + 1))
      | false => none
    | _, _ => none
  | _, _, _ => none

def partX (es l off n c : Nat) (lo hi mx : Option V) : Option V := match Nat.blt 0 es with | true => part0X es l off n c lo hi mx | false => none

def sliceX (P : Program) (t : TypeId) (x : V) (lo hi mx : Option V) : Option V :=
  match P.underlying t with
  | some (.slice e) =>
    match okT P e, x with
    | true, .sl es l _ =>
      match Nat.beq es (P.cellsOf e), bndX lo 0, bndX hi l.length with
      | true, some a, some b =>
        match Nat.ble a b && Nat.ble b l.length, mx with
        | true, none => some (.sl es ((l.take b).drop a) .no)
        | true, some m => match bndX (some m) 0, hi with
          | some c, some _ => match Nat.beq c b with | true => some (.sl es ((l.take b).drop a) .full) | false => none
          | _, _ => none
        | false, _ => none
      | _, _, _ => none
    | true, .sref es l off n c => match Nat.beq es (P.cellsOf e) with
      | true => partX es l off n c lo hi mx
      | false => none
    | _, _ => none
  | some .string => match x, mx with
    | .str s, none => match bndX lo 0, bndX hi s.size with
      | some a, some b => match Nat.ble a b && Nat.ble b s.size with
        | true => some (.str (s.extract a b))
        | false => none
      | _, _ => none
    | _, _ => none
  | some (.array len e) => match okT P e, x with
    | true, .ptr l off => partX (P.cellsOf e) l off len (2 * len + 1) lo hi mx
    | _, _ => none
  | _ => none

def chunksX (es : Nat) : Nat → List V → List (List V)
  | 0, _ => []
  | n + 1, cs => cs.take es :: chunksX es n (cs.drop es)

/-- What a slice has. -/
def elsX (h : T Xb) (size : Nat) : V → Option (List (List V))
  | .sl es l _ => match Nat.beq es size with | true => some l | false => none
  | .sref es l off 0 _ => match Nat.beq es size with
    | true => some []
    | false => none
  | .sref es l off n _ => match Nat.beq es size, cellsX h l with
    | true, some cs => (match Nat.ble (off + n * es) cs.length with
      | true => some (chunksX es n (cs.drop off))
      | false => none)
    | _, _ => none
  | _ => none

def byteX : List (List V) → Option (List UInt8)
  | [] => some []
  | [.int .u8 n] :: r => match byteX r with | some l => some (UInt8.ofNat n.toNat :: l) | none => none
  | _ => none

def textX (l : List UInt8) : ByteArray := ⟨l.toArray⟩

def convX (P : Program) (h : T Xb) (src dst : TypeId) (x : V) : Option V :=
  match P.underlying src, P.underlying dst, x with
  | some (.int _), some (.int k), .int _ n => some (.int k (k.wrap n))
  | some (.slice e), some .string, x => match zeroIsByte P e, elsX h 1 x with
    | true, some l => (match byteX l with | some b => some (.str (textX b)) | none => none)
    | _, _ => none
  | some .string, some (.slice e), .str s => match zeroIsByte P e with
    | true => some (.sl 1 (bytesOf s) .no)
    | false => none
  | _, _, _ => none

def boolX : Option V → Option (Option Bool)
  | some (.bool b) => some (some b)
  | some (.opt true (.bool b)) => some (some b)
  | some (.opt false _) => some none
  | _ => none

def pickX (c : Option V) (a b : Option V) : Option V :=
  match c, boolX a, boolX b with
  | some (.bool true), some (some x), some _ => some (.bool x)
  | some (.bool false), some _, some (some y) => some (.bool y)
  | _, _, _ => none

def extractX (x : V) (i : Nat) : Option V :=
  match x with
  | .tup vs => match vs[i]? with
    | some v => match v.plain with | true => some v | false => none
    | none => none
  | _ => none

def lenX (P : Program) (t : TypeId) (x : V) : Option V :=
  match P.underlying t with
  | some (.slice _) => match x with
    | .sl _ l _ => some (.int .i64 l.length)
    | .sref _ _ _ n _ => some (.int .i64 n)
    | .iface t (.sref _ id _ _ _) => (match unk t with | true => some (.iface t (.int .i64 id)) | false => none)
    | _ => none
  | some .string => match x with | .str s => some (.int .i64 s.size) | _ => none
  | some (.array n _) => some (.int .i64 n)
  | _ => none

def mapX (h : T Xb) : V → Option (List (V × V))
  | .map none => some []
  | .map (some r) => match h.get r with | some (.map es) => some es | _ => none
  | _ => none

def lookupX (P : Program) (h : T Xb) (t : TypeId) (x i : V) (ok : Bool) : Option V :=
  match P.underlying t with
  | some (.map kt e) =>
    match keyT P kt i, mapX h x with
    | true, some es =>
      (match findV i es, zeroVal P e with
      | some (some v), _ => (match v.plain with | true => some (match ok with | true => .tup [v, .bool true] | false => v) | false => none)
      | some none, some z => (match z.plain with | true => some (match ok with | true => .tup [z, .bool false] | false => z) | false => none)
      | _, _ => none)
    | _, _ => none
  | _ => none

def partsX (ρ : Operand → Option V) : List (Nat × Operand) → Option (List (Nat × V))
  | [] => some []
  | (i, x) :: r => match ρ x, partsX ρ r with
    | some v, some l => some ((i, v) :: l)
    | _, _ => none

def optX (ρ : Operand → Option V) : Option Operand → Option (Option V)
  | none => some none
  | some x => match ρ x with | some v => some (some v) | none => none

/-- A quiet operation. -/
def qx (P : Program) (s : St) (o : Op) (ty : TypeId) : Option V :=
  match o with
  | .pick c a b => pickX (s.ev c) (s.raw a) (s.raw b)
  | .assign x => s.evT P ty x
  | .move x => s.ev x
  | .build t ps => match partsX s.ev ps.toList with | some l => buildX P t l | none => none
  | .buildSlice t n ps => match partsX s.ev ps.toList with | some l => buildSliceX P t n l | none => none
  | .load t a => match s.ev a with | some v => loadX P s.h t v | none => none
  | .nilCheck x => match s.ev x with | some v => nilX v | none => none
  | .binOp op t x y _ => match s.ev x, s.ev y with | some a, some b => binXn P op t x y a b | _, _ => none
  | .unOp op _ x => match s.ev x with | some v => qV (unQ op v) | none => none
  | .convert a d x => match s.ev x with | some v => convX P s.h a d v | none => none
  | .fieldAddr t x f => match s.ev x with | some v => fieldAddrX P t v f | none => none
  | .indexAddr t x i => match s.ev x, s.ev i with | some v, some j => indexAddrX P t v j | _, _ => none
  | .field t x f => match s.ev x with | some v => fieldX P t v f | none => none
  | .index t x i => match s.ev x, s.ev i with | some v, some j => indexX P t v j | _, _ => none
  | .extract x i => match s.ev x with | some v => extractX v i | none => none
  | .lookup t x i ok => match s.ev x, s.ev i with | some v, some j => lookupX P s.h t v j ok | _, _ => none
  | .slice t x lo hi mx => match s.ev x, optX s.ev lo, optX s.ev hi, optX s.ev mx with
    | some v, some a, some b, some c => sliceX P t v a b c
    | _, _, _, _ => none
  | .makeFunc (.func f) a b => match evs s.ev a.toList, evs s.ev b.toList with
    | some u, some v => match u.all V.plain && v.all V.plain with | true => some (.fn (.func f) u v) | false => none
    | _, _ => none
  | .makeInterface t x => match P.underlying t, s.ev x with
    | some (.interface _), _ => none
    | some _, some v => match v.plain && !unk t with | true => some (.iface t v) | false => none
    | _, _ => none
  | .call c => match evs s.ev c.args.toList with
    | some vs => (match c.callee with
      | .builtin .len => (match c.argTypes.toList, vs with
        | t :: _, x :: _ => lenX P t x
        | _, _ => none)
      | .builtin .min => qV (minmaxQ false vs)
      | .builtin .max => qV (minmaxQ true vs)
      | _ => none)
    | none => none
  | _ => none

/-- What is appended. -/
def srcX (P : Program) (h : T Xb) (t2 : TypeId) (size : Nat) (y : V) : Option (List (List V)) :=
  match P.underlying t2, y with
  | some (.slice _), y => elsX h size y
  | some .string, .str s => match size with | 1 => some (s.data.toList.map fun b => [.int .u8 b.toNat]) | _ => none
  | _, _ => none

/-- A write into a block. -/
def St.write (s : St) (l off : Nat) (cs new : List V) : Option St :=
  match Nat.ble (off + new.length) cs.length with
  | true => some { s with h := s.h.put (some (.cells (wrCells cs off new))) l }
  | false => none

def St.add (s : St) (cs : List V) : St := { s with h := s.h.put (some (.cells cs)) s.nx, nx := s.nx + 1 }

/-- 'append'. -/
def appendOn (P : Program) (t t2 : TypeId) (x y : V) (s : St) : Option (V × St) :=
  match P.underlying t with
  | some (.slice e) =>
    match P.info? e with
    | some i =>
      match decide (0 < i.size) && decide (i.bytes ≤ 4096), zeroV P e, srcX P s.h t2 i.size y with
      | true, some _, some m =>
        match x with
        | .sl es l .full => match Nat.beq es i.size && Nat.beq (l ++ m).flatten.length ((l.length + m.length) * i.size) && Nat.ble (l.length + m.length) mostLen with
          | true => (match m with
            | [] => some (.sl es l .full, s)
            | _ :: _ => some (.sref es s.nx 0 (l.length + m.length) (2 * (l.length + m.length)), s.add (l ++ m).flatten))
          | false => none
        | .sref es l off n c => match Nat.beq es i.size && Nat.beq m.flatten.length (m.length * i.size) && Nat.ble (n + m.length) mostLen with
          | true => (match cellsX s.h l with
            | some cs =>
              match Nat.ble (off + n * es) cs.length && (Nat.beq (c % 2) 0 || Nat.ble (off + c / 2 * es) cs.length) with
              | true => (match m with
                | [] => some (.sref es l off n c, s)
                | _ :: _ =>
                  match Nat.ble (n + m.length) (c / 2) with
                  | true => (match s.write l (off + n * es) cs m.flatten with
                    | some s' => some (.sref es l off (n + m.length) c, s')
                    | none => none)
                  | false =>
                    match Nat.beq (c % 2) 1 with
                    | true => some (.sref es s.nx 0 (n + m.length) (2 * (n + m.length)), s.add ((cs.drop off).take (n * es) ++ m.flatten))
                    | false => (match Nat.ble cs.length (off + n * es) with
                      | true => some (.sref es s.nx 0 (n + m.length) (2 * (n + m.length)), { s with h := s.h.put none l }.add ((cs.drop off).take (n * es) ++ m.flatten))
                      | false => none))
              | false => none
            | none => none)
          | false => none
        | _ => none
      | _, _, _ => none
    | none => none
  | _ => none

def copyOn (P : Program) (t t2 : TypeId) (x y : V) (s : St) : Option (V × St) :=
  match P.underlying t with
  | some (.slice e) =>
    match P.info? e with
    | some i =>
      match decide (0 < i.size), srcX P s.h t2 i.size y with
      | true, some m =>
        match x with
        | .sref es l off n _ => (match Nat.beq es i.size, cellsX s.h l with
          | true, some cs => (match Nat.ble (off + n * es) cs.length, s.write l off cs (m.take n).flatten with
            | true, some s' => some (.int .i64 (min m.length n : Nat), s')
            | _, _ => none)
          | _, _ => none)
        | .sl _ [] _ => some (.int .i64 0, s)
        | _ => none
      | _, _ => none
    | none => none
  | _ => none

def clearOn (P : Program) (t : TypeId) (x : V) (s : St) : Option (V × St) :=
  match P.underlying t with
  | some (.slice e) =>
    match P.info? e with
    | some i =>
      match decide (0 < i.size), zeroV P e, x with
      | true, some z, .sref es l off n _ => (match Nat.beq es i.size, cellsX s.h l with
        | true, some cs => (match Nat.ble (off + n * es) cs.length, s.write l off cs (List.replicate n z).flatten with
          | true, some s' => some (.tup [], s')
          | _, _ => none)
        | _, _ => none)
      | _, _, _ => none
    | none => none
  | _ => none

def makeSliceOn (P : Program) (t : TypeId) (n c : V) (s : St) : Option (V × St) :=
  match P.underlying t with
  | some (.slice e) =>
    match P.info? e with
    | some i =>
      match zeroV P e, n, c, decide (0 < i.size) && decide (i.bytes ≤ 4096) with
      | some z, .int _ (.ofNat a), .int _ (.ofNat b), true => (match Nat.ble a b && Nat.ble b mostLen with
        | true => some (.sref i.size s.nx 0 a (2 * b + 1), s.add (List.replicate b z).flatten)
        | false => none)
      | _, _, _, _ => none
    | none => none
  | _ => none

def storeX (P : Program) (t : TypeId) (a v : V) (s : St) : Option St :=
  match okT P t, P.cellsOf t with
  | true, n + 1 =>
    match cellsOfX (n + 1) v, a with
    | some new, .ptr l off => (match cellsX s.h l with
      | some cs => s.write l off cs new
      | none => none)
    | _, _ => none
  | _, _ => none

def mapUpdateOn (P : Program) (t : TypeId) (x k v : V) (s : St) : Option St :=
  match P.underlying t, x with
  | some (.map kt _), .map (some r) => match keyT P kt k, s.h.get r, v.plain with
    | true, some (.map es), true => (match updV k v es with
      | some es' => some { s with h := s.h.put (some (.map es')) r }
      | none => none)
    | _, _, _ => none
  | _, _ => none

/-- How calls are made: the function, or a round of a range over a function. -/
structure Env where
  call : FuncId → List V → T Xb → Nat → Option (V × T Xb × Nat)
  yield : Nat → List V → T Xb → Nat → Option (V × T Xb × Nat)

def withH (s : St) : Option (V × T Xb × Nat) → Option (V × St)
  | some (v, h, nx) => some (v, { s with h := h, nx := nx })
  | none => none

/-- Is a slice nil? Of one without elements that is not known. -/
def someSl : V → Bool
  | .sl _ (_ :: _) _ => true
  | .sref _ _ _ (_ + 1) _ => true
  | _ => false

/-- A call's answer, as it comes. -/
def okShape1 (P : Program) (t : TypeId) (v : V) : Bool :=
  match P.underlying t with
  | some (.pointer _) => (match v with | .ptr _ _ => true | .nilp => true | _ => false)
  | some (.slice e) => (match v with | .sl es _ _ => Nat.beq es (P.cellsOf e) | .sref es _ _ _ _ => Nat.beq es (P.cellsOf e) | _ => false)
  | _ => v.plain

def okShapes (P : Program) : List TypeId → List V → Bool
  | [], [] => true
  | t :: ts, v :: vs => okShape1 P t v && okShapes P ts vs
  | _, _ => false

def okShape (P : Program) (t : TypeId) (v : V) : Bool :=
  match P.underlying t with
  | some (.tuple ts) => (match v with | .tup vs => okShapes P ts.toList vs | _ => false)
  | _ => okShape1 P t v

/-- A call's answer must be of the shape that its type tells. -/
def shapedX (P : Program) (ty : TypeId) : Option (V × St) → Option (V × St)
  | some (v, s) => match okShape P ty v with | true => some (v, s) | false => none
  | none => none

def effX (P : Program) (E : Env) (s : St) (o : Op) (ty : TypeId) : Option (V × St) :=
  match o with
  | .binOp op t x (.const (.slice none 0 0)) _ => match s.ev x with
    | some v => match someSl v && (match P.underlying t with | some (.slice _) => true | _ => false), op with
      | true, .eql => some (.bool false, s)
      | true, .neq => some (.bool true, s)
      | _, _ => none
    | none => none
  | .alloc t => match zeroV P t with | some cs => some (.ptr s.nx 0, s.add cs) | none => none
  | .box t x => match okT P t, s.ev x with
    | true, some v => match cellsOfX (P.cellsOf t) v with | some cs => some (.ptr s.nx 0, s.add cs) | none => none
    | _, _ => none
  | .store t a x => match s.ev a, s.evT P t x with
    | some p, some v => match storeX P t p v s with | some s' => some (.undef, s') | none => none
    | _, _ => none
  | .buildSlice t n ps => match partsX s.ev ps.toList with
    | some l => (match buildSliceX P t n l with
      | some (.sl es l .full) => some (.sref es s.nx 0 l.length (2 * l.length + 1), s.add l.flatten)
      | _ => none)
    | none => none
  | .convert a d x => match a == d, P.underlying a, s.ev x with
    | true, some (.slice e), some (.sref es l o (n + 1) c) => (match zeroIsByte P e, cellsX s.h l with
      | true, some _ => some (.sref es l o (n + 1) c, s)
      | _, _ => none)
    | _, _, _ => none
  | .makeSlice t n c => match s.ev n, s.ev c with | some a, some b => makeSliceOn P t a b s | _, _ => none
  | .makeMap _ none => some (.map (some s.nx), { s with h := s.h.put (some (.map [])) s.nx, nx := s.nx + 1 })
  | .mapUpdate t m k v => match s.ev m, s.ev k, s.ev v with
    | some a, some b, some c => match mapUpdateOn P t a b c s with | some s' => some (.undef, s') | none => none
    | _, _, _ => none
  | .call c =>
    match evsT P s c.argTypes.toList c.args.toList with
    | none => none
    | some vs =>
      match c.callee with
      | .value f => match s.ev f, vs.all V.plain with
        | some (.fn (.func k) first caps), true => shapedX P ty (withH s (E.call k (first ++ vs ++ caps) s.h s.nx))
        | some (.fn (.yield l) [] []), true => shapedX P ty (withH s (E.yield l vs s.h s.nx))
        | _, _ => none
      | .builtin .append => match c.argTypes.toList, vs with
        | t :: t2 :: _, [x, y] => appendOn P t t2 x y s
        | _, _ => none
      | .builtin .copy => match c.argTypes.toList, vs with
        | t :: t2 :: _, [x, y] => copyOn P t t2 x y s
        | _, _ => none
      | .builtin .len => match c.argTypes.toList, vs with
        | t :: _, [x] => (match mapT P t, mapX s.h x with
          | true, some es => some (.int .i64 es.length, s)
          | _, _ => none)
        | _, _ => none
      | .builtin .clear => match c.argTypes.toList, vs with
        | t :: _, [x] => clearOn P t x s
        | _, _ => none
      | _ => none
  | _ => none

def St.put (s : St) (dst : Option Tmp) (v : Option V) : St := match dst with | some d => { s with tm := s.tm.put v d } | none => s

/-- Is the operation carried out? none: that is not known; some none: it has no guard. -/
def guardX (ops : List Oper) (s : St) (o : Oper) : Option (Option Bool) :=
  match o.guard with
  | none => some none
  | some (j, want) =>
    match ops[j]? with
    | some p => match p.dst with
      | some d => match s.tm.get d with
        | some (.bool t) => some (some (match want with | true => t | false => !t))
        | some (.opt true (.bool t)) => some (some (match want with | true => t | false => !t))
        | some (.opt false _) => some (some false)
        | _ => none
      | none => none
    | none => none

/-- What is skipped. -/
def skipped (P : Program) (sort : Nat) (o : Oper) : Option V :=
  match sort with
  | 0 => some (.opt false .undef)
  | _ => match P.underlying o.type with
    | some .bool | some (.int _) | some .string => some (.opt false .undef)
    | _ => none

def yesX (P : Program) (t : TypeId) (g : Option Bool) (v : V) : V := match g with | none => v | some _ => yesV P t true v

def opX (P : Program) (E : Env) (esc : List Nat) (ops : List Oper) (s : St) (o : Oper) : Option St :=
  match guardX ops s o with
  | none => none
  | some (some false) => match sortOf esc o with | 1 => none | k => some (s.put o.dst (skipped P k o))
  | some g =>
    match sortOf esc o with
    | 0 => match qx P s o.op o.type with
      | some v => some (s.put o.dst (some (match g with | none => v | some _ => .opt true v)))
      | none => none
    | 1 => none
    | _ => match effX P E s o.op o.type with
      | some (v, s') => some (s'.put o.dst (some (yesX P o.type g v)))
      | none => none

def opsX (P : Program) (E : Env) (esc : List Nat) (ops : List Oper) : List Oper → St → Option St
  | [], s => some s
  | o :: r, s => match opX P E esc ops s o with | some s' => opsX P E esc ops r s' | none => none

def sameG : G → G → Bool
  | .full, .full => true
  | .no, .no => true
  | _, _ => false

mutual
def sameV : V → V → Bool
  | .bool a, .bool b => a == b
  | .int k a, .int k' b => kindEq k k' && a == b
  | .str a, .str b => a.data.toList == b.data.toList
  | .nilp, .nilp => true
  | .ptr a b, .ptr c d => Nat.beq a c && Nat.beq b d
  | .sref a b c d e, .sref a' b' c' d' e' => Nat.beq a a' && Nat.beq b b' && Nat.beq c c' && Nat.beq d d' && Nat.beq e e' && Nat.blt 0 b
  | .sl a l g, .sl b m g' => Nat.beq a b && sameVss l m && sameG g g'
  | .agg a, .agg b => sameVs a b
  | .nilfn, .nilfn => true
  | .iface t a, .iface t' b => Nat.beq t t' && sameV a b
  | .nilif, .nilif => true
  | .map none, .map none => true
  | .map (some a), .map (some b) => Nat.beq a b
  | .fn (.func f) a b, .fn (.func g) a' b' => Nat.beq f g && sameVs a a' && sameVs b b'
  | .opt c a, .opt d b => c && d && sameV a b
  | _, _ => false
def sameVs : List V → List V → Bool
  | [], l => l.isEmpty
  | a :: r, l => (match l with
    | b :: t => sameV a b && sameVs r t
    | [] => false)
def sameVss : List (List V) → List (List V) → Bool
  | [], l => l.isEmpty
  | a :: r, l => (match l with
    | b :: t => sameVs a b && sameVss r t
    | [] => false)
end

/-- What was read is still there. -/
def againX (P : Program) (ops : List Oper) (s : St) (j : Nat) : Bool :=
  match ops[j]? with
  | none => false
  | some o => match guardX ops s o, o.dst with
    | some (some false), _ => false
    | some g, some d => match qx P s o.op o.type, s.tm.get d with
      | some v, some u => sameV (match g with | none => v | some _ => .opt true v) u
      | _, _ => false
    | _, _ => false

def runX (P : Program) (E : Env) (esc : List Nat) (ops : List Oper) : List (Nat × List Nat) → St → Option St
  | [], s => some s
  | (i, rc) :: r, s =>
    match ops[i]? with
    | none => none
    | some o => match opX P E esc ops s o with
      | some s' => match (match guardX ops s o with | some (some false) => true | _ => rc.all (againX P ops s')) with
        | true => runX P E esc ops r s'
        | false => none
      | none => none

/-- All that is told has a place in the frame. -/
def inFrame (n : Nat) (ops : List Oper) : Bool := ops.all fun o => match o.dst with | some d => Nat.blt d n | none => true

def regX (P : Program) (E : Env) (esc : List Nat) (n : Nat) (ops : List Oper) (draw : Bool) (s : St) : Option St :=
  match inFrame n ops with
  | true => (match draw with
    | false => opsX P E esc ops ops s
    | true => match zerosOk P ops, regPlan esc ops with
      | true, some plan => runX P E esc ops plan s
      | _, _ => none)
  | false => none

def iter (body : St → Option (Ex × St)) : Nat → St → Option (Ex × St)
  | 0, _ => none
  | n + 1, s => match body s with
    | some (.normal, s') => iter body n s'
    | r => r

def plainTm : Option V → Option V
  | some (.opt _ _) => none
  | r => r

/-- A scope: from a label on, as long as it is jumped to one of its labels. -/
def scopeX (c : Code) (run : Nat → St → Option (Ex × St)) : Nat → Option (Ex × St) → Option (Ex × St)
  | 0, _ => none
  | n + 1, r => match r with
    | some (.goto l, s) => (match hasLab c l with
      | true => scopeX c run n (run l s)
      | false => some (.goto l, s))
    | r => r

mutual
def exX (P : Program) (E : Env) (esc : List Nat) (rnd : Bool) (n : Nat) (fuel : Nat) : Code → St → Option (Ex × St)
  | .skip, s => some (.normal, s)
  | .region _ ops draw, s => match regX P E esc n ops.toList draw s with | some s' => some (.normal, s') | none => none
  | .seq a b, s => match exX P E esc rnd n fuel a s with
    | some (.normal, s') => exX P E esc rnd n fuel b s'
    | r => r
  | .cond c x y, s => match s.raw c with
    | some (.bool true) => exX P E esc rnd n fuel x s
    | some (.bool false) => exX P E esc rnd n fuel y s
    | _ => none
  | .block id c, s => match exX P E esc rnd n fuel c s with
    | some (.exit i, s') => (match Nat.beq i id with | true => some (.normal, s') | false => some (.exit i, s'))
    | r => r
  | .loop c, s => iter (exX P E esc rnd n fuel c) fuel s
  | .exit id, s => some (.exit id, s)
  | .ret, s => some (.ret, s)
  | .label _, s => some (.normal, s)
  | .rangeFunc f ps asg body, s => match rnd, s.raw f with
    | false, some (.fn (.func k) first caps) =>
      match enters P k with
      | false => none
      | true => match E.call k (first ++ [.fn (.yield s.nx) [] []] ++ caps) (s.h.put (some (.loop .ready ps.toList (s.tm.map plainTm) n asg body)) s.nx) (s.nx + 1) with
      | some (_, h, nx) => match h.get s.nx with
        | some (.loop .ready _ _ _ _ _) => some (.normal, { s with h := h.put none s.nx, nx := nx })
        | some (.loop (.done c) _ _ _ _ _) => match exOfC c with
          | some e => some (e, { s with h := h.put none s.nx, nx := nx })
          | none => none
        | _ => none
      | none => none
    | _, _ => none
  | .goto l, s => some (.goto l, s)
  | .scope c, s => scopeX c (fun l s => exL P E esc rnd n fuel c l s) fuel (exX P E esc rnd n fuel c s)
  | .refuse _, _ => none
/-- From a label on. -/
def exL (P : Program) (E : Env) (esc : List Nat) (rnd : Bool) (n : Nat) (fuel : Nat) : Code → Nat → St → Option (Ex × St)
  | .seq a b, l, s => (match hasLab a l with
    | true => (match exL P E esc rnd n fuel a l s with
      | some (.normal, s') => exX P E esc rnd n fuel b s'
      | r => r)
    | false => exL P E esc rnd n fuel b l s)
  | .label _, _, s => some (.normal, s)
  | _, _, _ => none
end

def resX (P : Program) (s : St) : ResultVar → Option V
  | .tmp t => match s.tm.get t with
    | some (.opt true v) => (match v.plain with | true => some v | false => none)
    | some (.opt false _) => none
    | r => r
  | .cell a t => match s.tm.get a with
    | some (.ptr l off) => loadX P s.h t (.ptr l off)
    | _ => none

def ressX (P : Program) (s : St) : List ResultVar → Option (List V)
  | [] => some []
  | r :: rs => match resX P s r, ressX P s rs with
    | some v, some l => some (v :: l)
    | _, _ => none

def answerX (P : Program) (fn : Func) (s : St) : Option (V × T Xb × Nat) :=
  match ressX P s fn.results.toList with
  | some [v] => some (v, s.h, s.nx)
  | some vs => some (.tup vs, s.h, s.nx)
  | none => none

/-- Slices that are written out to be appended alone. -/
def bsOf : List Oper → List Nat
  | [] => []
  | o :: r => match o.op with
    | .call c => (match c.callee, c.args.toList with
      | .builtin .append, [_, .tmp d] => (2000000 + d) :: bsOf r
      | _, _ => bsOf r)
    | _ => bsOf r
/-- Numbers of a map's entries. -/
def lensOf (P : Program) : List Oper → List Nat
  | [] => []
  | o :: r => match o.op, o.dst with
    | .call c, some d => (match c.callee, c.argTypes.toList with
      | .builtin .len, t :: _ => (match mapT P t with | true => (4000000 + d) :: lensOf P r | false => lensOf P r)
      | _, _ => lensOf P r)
    | _, _ => lensOf P r
def slotsOf (P : Program) (ops : List Oper) : List Nat := bsOf ops ++ lensOf P ops ++ ops.filterMap fun o => match o.op with | .alloc _ | .box _ _ => o.dst | _ => none
def slotsC (P : Program) : Code → List Nat
  | .region _ ops _ => slotsOf P ops.toList
  | .seq a b => slotsC P a ++ slotsC P b
  | .cond _ a b => slotsC P a ++ slotsC P b
  | .block _ c | .loop c | .scope c => slotsC P c
  | .rangeFunc _ _ a b => slotsC P a ++ slotsC P b
  | _ => []

def slots (P : Program) (c : Code) : List Nat := 999999 :: slotsC P c

/-- A round: it begins with the temporaries of the frame that runs it. -/
def roundX (P : Program) (E : Env) (fuel : Nat) (l : Nat) (args : List V) (h : T Xb) (nx : Nat) : Option (V × T Xb × Nat) :=
  match h.get l with
  | some (.loop .ready ps tm n asg body) =>
    match Nat.beq ps.length args.length && ps.all (fun p => Nat.blt p n) with
    | true => match exX P E (slots P asg ++ slots P body) true n fuel asg { tm := (ps.zip args).foldl (fun t e => t.put (some e.2) e.1) tm, h := h, nx := nx } with
      | some (.normal, s) => match s.h.get l with
        | some (.loop .ready ps tm n' asg' body') => match exX P E (slots P asg ++ slots P body) true n fuel body { s with h := s.h.put (some (.loop .busy ps tm n' asg' body')) l } with
          | some (e, s) => match s.h.get l with
            | some (.loop _ ps tm n asg' body') => (match e with
              | .normal => some (.bool true, s.h.put (some (.loop .ready ps tm n asg' body')) l, s.nx)
              | .exit i => some (.bool false, s.h.put (some (.loop (.done (.exit i)) ps tm n asg' body')) l, s.nx)
              | .ret => some (.bool false, s.h.put (some (.loop (.done .ret) ps tm n asg' body')) l, s.nx)
              | .goto _ => none)
            | _ => none
          | none => none
        | _ => none
      | _ => none
    | false => none
  | _ => none

def bodyX (P : Program) (E : Env) (fuel : Nat) (f : FuncId) (args : List V) (h : T Xb) (nx : Nat) : Option (V × T Xb × Nat) :=
  match P.funcs[f]? with
  | some fn => match fn.body, fn.name != "runtime.NumGoroutine" && Nat.ble args.length fn.ntmps with
    | some c, true => match exX P E (slots P c) false fn.ntmps fuel c { tm := T.ofList args 0 .nil, h := h, nx := nx } with
      | some (.normal, s) => answerX P fn s
      | some (.ret, s) => answerX P fn s
      | _ => none
    | _, _ => none
  | none => none

/-- Calls, so many one within the other; 'hk': functions that are known without being run. -/
def callX (P : Program) (hk : FuncId → List V → T Xb → Nat → Option (V × T Xb × Nat)) (fuel : Nat) : Nat → Env
  | 0 => { call := fun _ _ _ _ => none, yield := fun _ _ _ _ => none }
  | n + 1 =>
    { call := fun f args h nx => match hk f args h nx with
        | some r => some r
        | none => bodyX P (callX P hk fuel n) fuel f args h nx
      yield := roundX P (callX P hk fuel n) fuel }
end
end Jx
end
