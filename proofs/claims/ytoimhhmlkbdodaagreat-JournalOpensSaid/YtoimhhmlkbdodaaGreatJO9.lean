/- Proved here: of JO9, that what the Go functions of this part compute is as their contracts say (texts JxA, JxB, JxC, JxD, JxE, JxF, JxG, JxH), for every input; no condition beyond those that each theorem states. -/
import Derived.Test.YtoimhhmlkbdodaaGreatJO1
import Derived.Test.YtoimhhmlkbdodaaGreatJO3
import Derived.Test.YtoimhhmlkbdodaaGreatJO5
set_option linter.all false
section
/- A program of the model, run on values: what a closed call comes to. -/
namespace Jx
open Go Jb
noncomputable section

inductive T (α : Type) where
  | nil
  | node (v : Option α) (l r : T α)

/- Written out with recursors: the kernel runs these the fastest. -/
def T.get {α : Type} (t : T α) : Nat → Option α :=
  T.rec (motive := fun _ => Nat → Option α) (fun _ => none)
    (fun v _ _ gl gr k => Nat.rec (motive := fun _ => Option α) v (fun k _ => Bool.rec (motive := fun _ => Option α) (gr (k / 2)) (gl (k / 2)) (Nat.beq (k % 2) 0)) k) t

def T.one {α : Type} (v : Option α) (n : Nat) : Nat → T α :=
  Nat.rec (motive := fun _ => Nat → T α) (fun _ => .nil)
    (fun _ r k => Nat.rec (motive := fun _ => T α) (.node v .nil .nil) (fun k _ => Bool.rec (motive := fun _ => T α) (.node none .nil (r (k / 2))) (.node none (r (k / 2)) .nil) (Nat.beq (k % 2) 0)) k) n

def T.put {α : Type} (v : Option α) (t : T α) : Nat → T α :=
  T.rec (motive := fun _ => Nat → T α) (fun k => T.one v (k + 1) k)
    (fun u l r pl pr k => Nat.rec (motive := fun _ => T α) (.node v l r) (fun k _ => Bool.rec (motive := fun _ => T α) (.node u l (pr (k / 2))) (.node u (pl (k / 2)) r) (Nat.beq (k % 2) 0)) k) t

def T.map {α : Type} (f : Option α → Option α) : T α → T α
  | .nil => .nil
  | .node v l r => .node (f v) (l.map f) (r.map f)

def T.ofList {α : Type} : List α → Nat → T α → T α
  | [], _, t => t
  | v :: r, k, t => T.ofList r (k + 1) (t.put (some v) k)

inductive Xb where
  | cells (cs : List V)
  | loop (st : LSt) (ps : List Nat) (tm : T V) (n : Nat) (asg body : Code)
  | map (es : List (V × V))

structure St where
  tm : T V
  h : T Xb
  nx : Nat

/-! Unknown numbers, and slices: '.iface' of a type beyond all. The number in it names what is unknown, and tells between what bounds it lies. -/
def unk (t : TypeId) : Bool := Nat.ble 1000000000000000000000000000000 t
def isUnk : V → Bool
  | .iface t _ => unk t
  | _ => false
def lo (n : Int) : Int := ((n.toNat / 1180591620717411303424 % 1180591620717411303424 : Nat) : Int) - 590295810358705651712
def hi (n : Int) : Option Int := match Nat.beq (n.toNat % 1180591620717411303424) 1180591620717411303423 with
  | true => none
  | false => some (((n.toNat % 1180591620717411303424 : Nat) : Int) - 590295810358705651712)

inductive Sy where
  | lit (n : Int)
  | un (n : Int)

def sy : V → Option (IntKind × Sy)
  | .int k n => some (k, .lit n)
  | .iface t v => (match unk t, v with
    | true, .int k n => some (k, .un n)
    | _, _ => none)
  | _ => none
def Sy.lo : Sy → Int
  | .lit n => n
  | .un n => Jx.lo n
def Sy.hi : Sy → Option Int
  | .lit n => some n
  | .un n => Jx.hi n
def below (a : Option Int) (b : Int) : Bool := match a with | some x => decide (x < b) | none => false
def upto (a : Option Int) (b : Int) : Bool := match a with | some x => decide (x ≤ b) | none => false
def Sy.same : Sy → Sy → Bool
  | .un n, .un m => n == m
  | .lit n, .lit m => n == m
  | _, _ => false
def ltS (a b : Sy) : Option Bool :=
  match below a.hi b.lo with
  | true => some true
  | false => match upto b.hi a.lo with
    | true => some false
    | false => none
def eqS (a b : Sy) : Option Bool :=
  match a.same b with
  | true => some true
  | false => match below a.hi b.lo || below b.hi a.lo with
    | true => some false
    | false => none
def boolO (b : Option Bool) : Option V := match b with | some x => some (.bool x) | none => none
def notO (b : Option Bool) : Option Bool := match b with | some x => some (!x) | none => none
def symX (op : BinOp) (x y : V) : Option V :=
  match sy x, sy y with
  | some (k, a), some (k', b) => match kindEq k k' with
    | true => (match op with
      | .eql => boolO (eqS a b)
      | .neq => boolO (notO (eqS a b))
      | .lss => boolO (ltS a b)
      | .geq => boolO (notO (ltS a b))
      | .gtr => boolO (ltS b a)
      | .leq => boolO (notO (ltS b a))
      | _ => none)
    | false => none
  | _, _ => none

def St.raw (s : St) : Operand → Option V
  | .tmp t => s.tm.get t
  | .const v => some (ofConst v)
  | .func f => some (.fn (.func f) [] [])
  | .global _ => none

def known : Option V → Option V
  | some (.opt true v) => some v
  | some (.opt false _) => none
  | some .undef => none
  | r => r

def St.ev (s : St) (x : Operand) : Option V := known (s.raw x)

def nilOf (P : Program) (t : TypeId) : Option V := match P.underlying t with | some (.slice e) => some (.sl (P.cellsOf e) [] .full) | _ => none

def St.evT (P : Program) (s : St) (t : TypeId) (x : Operand) : Option V :=
  match x with
  | .const (.slice none 0 0) => nilOf P t
  | x => s.ev x

def evsT (P : Program) (s : St) : List TypeId → List Operand → Option (List V)
  | _, [] => some []
  | t :: ts, x :: r => match s.evT P t x, evsT P s ts r with
    | some v, some l => some (v :: l)
    | _, _ => none
  | [], x :: r => match s.ev x, evsT P s [] r with
    | some v, some l => some (v :: l)
    | _, _ => none

def evs (ρ : Operand → Option V) : List Operand → Option (List V)
  | [] => some []
  | x :: r => match ρ x, evs ρ r with
    | some v, some l => some (v :: l)
    | _, _ => none

def cellsX (h : T Xb) (k : Nat) : Option (List V) := match h.get k with | some (.cells cs) => some cs | _ => none

def shX (P : Program) (t : TypeId) (v : V) : Option V :=
  match P.underlying t with
  | some .bool => match v with | .bool b => some (.bool b) | _ => none
  | some (.int k) => match v with
    | .int k' n => (match kindEq k k' with | true => some (.int k n) | false => none)
    | .iface t (.int k' n) => (match unk t, kindEq k k' with | true, true => some (.iface t (.int k n)) | _, _ => none)
    | _ => none
  | some .string => match v with | .str s => some (.str s) | _ => none
  | some (.slice e) => match v with
    | .sl es l g => (match Nat.beq es (P.cellsOf e) with | true => some (.sl es l g) | false => none)
    | .sref es l o n c => (match Nat.beq es (P.cellsOf e) with | true => some (.sref es l o n c) | false => none)
    | .iface t (.sref es l o n c) => (match unk t, Nat.beq es (P.cellsOf e) with | true, true => some (.iface t (.sref es l o n c)) | _, _ => none)
    | _ => none
  | some (.struct _) | some (.array _ _) => none
  | _ => match v.plain with | true => some v | false => none

def rdX (P : Program) (t : TypeId) (cs : List V) (off : Nat) : Option V :=
  match okT P t, (P.underlying t).isSome, aggT P t with
  | true, true, true => match Nat.ble (off + P.cellsOf t) cs.length with
    | true => some (.agg ((cs.drop off).take (P.cellsOf t)))
    | false => none
  | true, true, false => match cs[off]? with
    | some v => shX P t v
    | none => none
  | _, _, _ => none

def loadX (P : Program) (h : T Xb) (t : TypeId) : V → Option V
  | .ptr l off => match cellsX h l with | some cs => rdX P t cs off | none => none
  | .cptr cs off => rdX P t cs off
  | _ => none

def nilX : V → Option V
  | .ptr l off => some (.ptr l off)
  | .cptr cs off => some (.cptr cs off)
  | .fn (.func f) a b => some (.fn (.func f) a b)
  | _ => none

def movedX (n : Nat) : V → Option V
  | .ptr l off => some (.ptr l (off + n))
  | .cptr cs off => some (.cptr cs (off + n))
  | _ => none

def fieldAddrX (P : Program) (s : TypeId) (x : V) (f : Nat) : Option V :=
  match fieldOf P s f with
  | some (o, t) => match okT P t, P.cellsOf t with
    | true, _ + 1 => movedX o x
    | _, _ => none
  | none => none

def inB (n : Int) (len : Nat) : Bool := match n with
  | .ofNat k => Nat.blt k len
  | .negSucc _ => false

def indexAddrX (P : Program) (t : TypeId) (x i : V) : Option V :=
  match i with
  | .int _ n =>
    match P.underlying t with
    | some (.array len e) =>
      match okT P e, inB n len with
      | true, true =>
        match x with
        | .ptr l off => some (.ptr l (off + n.toNat * P.cellsOf e))
        | .cptr cs off => some (.cptr cs (off + n.toNat * P.cellsOf e))
        | _ => none
      | _, _ => none
    | some (.slice e) =>
      match okT P e, x with
      | true, .sl es l _ => match Nat.beq es (P.cellsOf e), inB n l.length with
        | true, true => some (.cptr (l.getD n.toNat []) 0)
        | _, _ => none
      | true, .sref es l off len _ => match Nat.beq es (P.cellsOf e), inB n len with
        | true, true => some (.ptr l (off + n.toNat * es))
        | _, _ => none
      | _, _ => none
    | _ => none
  | _ => none

def fieldX (P : Program) (t : TypeId) (x : V) (f : Nat) : Option V :=
  match fieldOf P t f, x with
  | some (o, t), .agg cs => rdX P t cs o
  | _, _ => none

def indexX (P : Program) (t : TypeId) (x i : V) : Option V :=
  match i with
  | .int _ n =>
    match P.underlying t with
    | some (.array len e) => match x, inB n len with
      | .agg cs, true => rdX P e cs (n.toNat * P.cellsOf e)
      | _, _ => none
    | some .string => match x with
      | .str s => match inB n s.size with
        | true => some (.int .u8 (s.data.getD n.toNat 0).toNat)
        | false => none
      | _ => none
    | _ => none
  | _ => none

def qV : Q → Option V
  | .ok v => some v
  | _ => none

def intX (op : BinOp) (k : IntKind) (a b : Int) : Option V :=
  match op with
  | .quo => match decide (b = 0) with | true => none | false => some (.int k (k.wrap (a.tdiv b)))
  | .rem => match decide (b = 0) with | true => none | false => some (.int k (a.tmod b))
  | op => qV (intQ op k a b)

def shiftX (op : BinOp) (k : IntKind) (a b : Int) : Option V :=
  match decide (0 ≤ b) with
  | true => (match op with
    | .shl => some (.int k (k.wrap (a * 2 ^ min b.toNat k.bits)))
    | .shr => some (.int k (a.fdiv (2 ^ min b.toNat k.bits)))
    | _ => none)
  | false => none

def fitsX : List V → List V → Bool
  | [], l => l.isEmpty
  | z :: r, l => (match l with
    | [] => false
    | v :: s => (match z, v with
      | .bool _, .bool _ => true
      | .str _, .str _ => true
      | .int k _, v => (match sy v with | some (k', _) => kindEq k k' | none => false)
      | _, _ => false) && fitsX r s)

def eqC (a b : V) : Option Bool :=
  match a, b with
  | .bool x, .bool y => some (x == y)
  | .str x, .str y => some (x == y)
  | a, b => match sy a, sy b with
    | some (_, x), some (_, y) => eqS x y
    | _, _ => none
def eqCs : List V → List V → Option Bool
  | [], l => some l.isEmpty
  | a :: r, l => (match l with
    | [] => some false
    | b :: s => match eqC a b with
      | some true => eqCs r s
      | some false => some false
      | none => none)

def eqlX (P : Program) (no : Bool) (t : TypeId) (x y : V) : Option V :=
  match x, y with
  | .agg cs, .agg ds => match aggT P t, eqKinds P t with
    | true, some z => match fitsX z cs && fitsX z ds, eqCs cs ds with
      | true, some b => some (.bool (neg no b))
      | _, _ => none
    | _, _ => none
  | x, y => qV (eqlQ P no t x y)

def strX (op : BinOp) (a b : ByteArray) : Option V :=
  match op with
  | .eql => some (.bool (a.data.toList == b.data.toList))
  | .neq => some (.bool (!(a.data.toList == b.data.toList)))
  | .add => match Nat.ble (a.size + b.size) 4611686018427387904 with
    | true => some (.str ⟨(a.data.toList ++ b.data.toList).toArray⟩)
    | false => none
  | _ => none

def binX (P : Program) (op : BinOp) (t : TypeId) (x y : V) : Option V :=
  match isUnk x || isUnk y with
  | true => symX op x y
  | false => match x, y with
  | .str a, .str b => strX op a b
  | .int k a, .int k' b =>
    match op with
    | .shl | .shr => shiftX op k a b
    | _ => match kindEq k k' with | true => intX op k a b | false => none
  | x, y => match op with
    | .eql => eqlX P false t x y
    | .neq => eqlX P true t x y
    | _ => none

def binXn (P : Program) (op : BinOp) (t : TypeId) (x y : Operand) (u v : V) : Option V :=
  match nilC x || nilC y, u, v with
  | true, .nilif, .nilif => qV (nilNilQ P op t)
  | _, _, _ => binX P op t u v

def cellsOfX (size : Nat) (v : V) : Option (List V) :=
  match v with
  | .agg cs => match Nat.beq cs.length size with | true => some cs | false => none
  | v => match v.one, size with | true, 1 => some [v] | _, _ => none

def layX (place : Nat → Option (Nat × Nat)) (n : Nat) : List V → List (Nat × V) → Option (List V)
  | cs, [] => some cs
  | cs, (i, v) :: r =>
    match place i with
    | none => none
    | some (off, size) =>
      match Nat.ble (off + size) n, cellsOfX size v with
      | true, some new => layX place n (cs.take off ++ new ++ cs.drop (off + size)) r
      | _, _ => none

def buildX (P : Program) (t : TypeId) (parts : List (Nat × V)) : Option V :=
  match zeroV P t, placesOf P t with
  | some z, some pl => match layX pl (P.cellsOf t) z parts with | some cs => some (.agg cs) | none => none
  | _, _ => none

def elemsX (size : Nat) : List V → Option (List (List V))
  | [] => some []
  | v :: r => match cellsOfX size v, elemsX size r with
    | some new, some l => some (new :: l)
    | _, _ => none

def buildSliceX (P : Program) (t : TypeId) (n : Nat) (parts : List (Nat × V)) : Option V :=
  match P.underlying t with
  | some (.slice e) => match zeroV P e, P.cellsOf e, decide (n * P.cellsOf e ≤ 16777216) && (parts.map (·.1) == List.range n) with
    | some _, s + 1, true => match elemsX (s + 1) (parts.map (·.2)) with | some l => some (.sl (s + 1) l .full) | none => none
    | _, _, _ => none
  | _ => none

def bndX (v : Option V) (d : Nat) : Option Nat :=
  match v with
  | none => some d
  | some (.int _ (.ofNat n)) => some n
  | _ => none

def part0X (es l off n c : Nat) (lo hi mx : Option V) : Option V :=
  match bndX lo 0, bndX hi n, mx with
  | some a, some b, none => match Nat.ble a b && Nat.ble b (c / 2) with
    | true => (match Nat.beq (c / 2) a, Nat.beq (c % 2) 1 with
      | true, true => some (.sref es l off (b - a) (c - 2 * a))
      | true, false => some (.sref es 0 0 0 0)
      | false, _ => some (.sref es l (off + a * es) (b - a) (c - 2 * a)))
    | false => none
  | some a, some b, some m => match bndX (some m) 0, hi with
    | some d, some _ => match Nat.ble a b && Nat.ble b d && Nat.ble d (c / 2) && Nat.blt 0 l with
      | true => some (.sref es l (match Nat.beq d a with | true => off | false => off + a * es) (b - a) (2 * (d - a) + 1))
      | false => none
    | _, _ => none
  | _, _, _ => none

def partX (es l off n c : Nat) (lo hi mx : Option V) : Option V := match Nat.blt 0 es with | true => part0X es l off n c lo hi mx | false => none

def sliceX (P : Program) (t : TypeId) (x : V) (lo hi mx : Option V) : Option V :=
  match P.underlying t with
  | some (.slice e) =>
    match okT P e, x with
    | true, .sl es l _ =>
      match Nat.beq es (P.cellsOf e), bndX lo 0, bndX hi l.length with
      | true, some a, some b =>
        match Nat.ble a b && Nat.ble b l.length, mx with
        | true, none => some (.sl es ((l.take b).drop a) .no)
        | true, some m => match bndX (some m) 0, hi with
          | some c, some _ => match Nat.beq c b with | true => some (.sl es ((l.take b).drop a) .full) | false => none
          | _, _ => none
        | false, _ => none
      | _, _, _ => none
    | true, .sref es l off n c => match Nat.beq es (P.cellsOf e) with
      | true => partX es l off n c lo hi mx
      | false => none
    | _, _ => none
  | some .string => match x, mx with
    | .str s, none => match bndX lo 0, bndX hi s.size with
      | some a, some b => match Nat.ble a b && Nat.ble b s.size with
        | true => some (.str (s.extract a b))
        | false => none
      | _, _ => none
    | _, _ => none
  | some (.array len e) => match okT P e, x with
    | true, .ptr l off => partX (P.cellsOf e) l off len (2 * len + 1) lo hi mx
    | _, _ => none
  | _ => none

def chunksX (es : Nat) : Nat → List V → List (List V)
  | 0, _ => []
  | n + 1, cs => cs.take es :: chunksX es n (cs.drop es)

def elsX (h : T Xb) (size : Nat) : V → Option (List (List V))
  | .sl es l _ => match Nat.beq es size with | true => some l | false => none
  | .sref es l off 0 _ => match Nat.beq es size with
    | true => some []
    | false => none
  | .sref es l off n _ => match Nat.beq es size, cellsX h l with
    | true, some cs => (match Nat.ble (off + n * es) cs.length with
      | true => some (chunksX es n (cs.drop off))
      | false => none)
    | _, _ => none
  | _ => none

def byteX : List (List V) → Option (List UInt8)
  | [] => some []
  | [.int .u8 n] :: r => match byteX r with | some l => some (UInt8.ofNat n.toNat :: l) | none => none
  | _ => none

def textX (l : List UInt8) : ByteArray := ⟨l.toArray⟩

def convX (P : Program) (h : T Xb) (src dst : TypeId) (x : V) : Option V :=
  match P.underlying src, P.underlying dst, x with
  | some (.int _), some (.int k), .int _ n => some (.int k (k.wrap n))
  | some (.slice e), some .string, x => match zeroIsByte P e, elsX h 1 x with
    | true, some l => (match byteX l with | some b => some (.str (textX b)) | none => none)
    | _, _ => none
  | some .string, some (.slice e), .str s => match zeroIsByte P e with
    | true => some (.sl 1 (bytesOf s) .no)
    | false => none
  | _, _, _ => none

def boolX : Option V → Option (Option Bool)
  | some (.bool b) => some (some b)
  | some (.opt true (.bool b)) => some (some b)
  | some (.opt false _) => some none
  | _ => none

def pickX (c : Option V) (a b : Option V) : Option V :=
  match c, boolX a, boolX b with
  | some (.bool true), some (some x), some _ => some (.bool x)
  | some (.bool false), some _, some (some y) => some (.bool y)
  | _, _, _ => none

def extractX (x : V) (i : Nat) : Option V :=
  match x with
  | .tup vs => match vs[i]? with
    | some v => match v.plain with | true => some v | false => none
    | none => none
  | _ => none

def lenX (P : Program) (t : TypeId) (x : V) : Option V :=
  match P.underlying t with
  | some (.slice _) => match x with
    | .sl _ l _ => some (.int .i64 l.length)
    | .sref _ _ _ n _ => some (.int .i64 n)
    | .iface t (.sref _ id _ _ _) => (match unk t with | true => some (.iface t (.int .i64 id)) | false => none)
    | _ => none
  | some .string => match x with | .str s => some (.int .i64 s.size) | _ => none
  | some (.array n _) => some (.int .i64 n)
  | _ => none

def mapX (h : T Xb) : V → Option (List (V × V))
  | .map none => some []
  | .map (some r) => match h.get r with | some (.map es) => some es | _ => none
  | _ => none

def lookupX (P : Program) (h : T Xb) (t : TypeId) (x i : V) (ok : Bool) : Option V :=
  match P.underlying t with
  | some (.map kt e) =>
    match keyT P kt i, mapX h x with
    | true, some es =>
      (match findV i es, zeroVal P e with
      | some (some v), _ => (match v.plain with | true => some (match ok with | true => .tup [v, .bool true] | false => v) | false => none)
      | some none, some z => (match z.plain with | true => some (match ok with | true => .tup [z, .bool false] | false => z) | false => none)
      | _, _ => none)
    | _, _ => none
  | _ => none

def partsX (ρ : Operand → Option V) : List (Nat × Operand) → Option (List (Nat × V))
  | [] => some []
  | (i, x) :: r => match ρ x, partsX ρ r with
    | some v, some l => some ((i, v) :: l)
    | _, _ => none

def optX (ρ : Operand → Option V) : Option Operand → Option (Option V)
  | none => some none
  | some x => match ρ x with | some v => some (some v) | none => none

def qx (P : Program) (s : St) (o : Op) (ty : TypeId) : Option V :=
  match o with
  | .pick c a b => pickX (s.ev c) (s.raw a) (s.raw b)
  | .assign x => s.evT P ty x
  | .move x => s.ev x
  | .build t ps => match partsX s.ev ps.toList with | some l => buildX P t l | none => none
  | .buildSlice t n ps => match partsX s.ev ps.toList with | some l => buildSliceX P t n l | none => none
  | .load t a => match s.ev a with | some v => loadX P s.h t v | none => none
  | .nilCheck x => match s.ev x with | some v => nilX v | none => none
  | .binOp op t x y _ => match s.ev x, s.ev y with | some a, some b => binXn P op t x y a b | _, _ => none
  | .unOp op _ x => match s.ev x with | some v => qV (unQ op v) | none => none
  | .convert a d x => match s.ev x with | some v => convX P s.h a d v | none => none
  | .fieldAddr t x f => match s.ev x with | some v => fieldAddrX P t v f | none => none
  | .indexAddr t x i => match s.ev x, s.ev i with | some v, some j => indexAddrX P t v j | _, _ => none
  | .field t x f => match s.ev x with | some v => fieldX P t v f | none => none
  | .index t x i => match s.ev x, s.ev i with | some v, some j => indexX P t v j | _, _ => none
  | .extract x i => match s.ev x with | some v => extractX v i | none => none
  | .lookup t x i ok => match s.ev x, s.ev i with | some v, some j => lookupX P s.h t v j ok | _, _ => none
  | .slice t x lo hi mx => match s.ev x, optX s.ev lo, optX s.ev hi, optX s.ev mx with
    | some v, some a, some b, some c => sliceX P t v a b c
    | _, _, _, _ => none
  | .makeFunc (.func f) a b => match evs s.ev a.toList, evs s.ev b.toList with
    | some u, some v => match u.all V.plain && v.all V.plain with | true => some (.fn (.func f) u v) | false => none
    | _, _ => none
  | .makeInterface t x => match P.underlying t, s.ev x with
    | some (.interface _), _ => none
    | some _, some v => match v.plain && !unk t with | true => some (.iface t v) | false => none
    | _, _ => none
  | .call c => match evs s.ev c.args.toList with
    | some vs => (match c.callee with
      | .builtin .len => (match c.argTypes.toList, vs with
        | t :: _, x :: _ => lenX P t x
        | _, _ => none)
      | .builtin .min => qV (minmaxQ false vs)
      | .builtin .max => qV (minmaxQ true vs)
      | _ => none)
    | none => none
  | _ => none

def srcX (P : Program) (h : T Xb) (t2 : TypeId) (size : Nat) (y : V) : Option (List (List V)) :=
  match P.underlying t2, y with
  | some (.slice _), y => elsX h size y
  | some .string, .str s => match size with | 1 => some (s.data.toList.map fun b => [.int .u8 b.toNat]) | _ => none
  | _, _ => none

def St.write (s : St) (l off : Nat) (cs new : List V) : Option St :=
  match Nat.ble (off + new.length) cs.length with
  | true => some { s with h := s.h.put (some (.cells (wrCells cs off new))) l }
  | false => none

def St.add (s : St) (cs : List V) : St := { s with h := s.h.put (some (.cells cs)) s.nx, nx := s.nx + 1 }

def appendOn (P : Program) (t t2 : TypeId) (x y : V) (s : St) : Option (V × St) :=
  match P.underlying t with
  | some (.slice e) =>
    match P.info? e with
    | some i =>
      match decide (0 < i.size) && decide (i.bytes ≤ 4096), zeroV P e, srcX P s.h t2 i.size y with
      | true, some _, some m =>
        match x with
        | .sl es l .full => match Nat.beq es i.size && Nat.beq (l ++ m).flatten.length ((l.length + m.length) * i.size) && Nat.ble (l.length + m.length) mostLen with
          | true => (match m with
            | [] => some (.sl es l .full, s)
            | _ :: _ => some (.sref es s.nx 0 (l.length + m.length) (2 * (l.length + m.length)), s.add (l ++ m).flatten))
          | false => none
        | .sref es l off n c => match Nat.beq es i.size && Nat.beq m.flatten.length (m.length * i.size) && Nat.ble (n + m.length) mostLen with
          | true => (match cellsX s.h l with
            | some cs =>
              match Nat.ble (off + n * es) cs.length && (Nat.beq (c % 2) 0 || Nat.ble (off + c / 2 * es) cs.length) with
              | true => (match m with
                | [] => some (.sref es l off n c, s)
                | _ :: _ =>
                  match Nat.ble (n + m.length) (c / 2) with
                  | true => (match s.write l (off + n * es) cs m.flatten with
                    | some s' => some (.sref es l off (n + m.length) c, s')
                    | none => none)
                  | false =>
                    match Nat.beq (c % 2) 1 with
                    | true => some (.sref es s.nx 0 (n + m.length) (2 * (n + m.length)), s.add ((cs.drop off).take (n * es) ++ m.flatten))
                    | false => (match Nat.ble cs.length (off + n * es) with
                      | true => some (.sref es s.nx 0 (n + m.length) (2 * (n + m.length)), { s with h := s.h.put none l }.add ((cs.drop off).take (n * es) ++ m.flatten))
                      | false => none))
              | false => none
            | none => none)
          | false => none
        | _ => none
      | _, _, _ => none
    | none => none
  | _ => none

def copyOn (P : Program) (t t2 : TypeId) (x y : V) (s : St) : Option (V × St) :=
  match P.underlying t with
  | some (.slice e) =>
    match P.info? e with
    | some i =>
      match decide (0 < i.size), srcX P s.h t2 i.size y with
      | true, some m =>
        match x with
        | .sref es l off n _ => (match Nat.beq es i.size, cellsX s.h l with
          | true, some cs => (match Nat.ble (off + n * es) cs.length, s.write l off cs (m.take n).flatten with
            | true, some s' => some (.int .i64 (min m.length n : Nat), s')
            | _, _ => none)
          | _, _ => none)
        | .sl _ [] _ => some (.int .i64 0, s)
        | _ => none
      | _, _ => none
    | none => none
  | _ => none

def clearOn (P : Program) (t : TypeId) (x : V) (s : St) : Option (V × St) :=
  match P.underlying t with
  | some (.slice e) =>
    match P.info? e with
    | some i =>
      match decide (0 < i.size), zeroV P e, x with
      | true, some z, .sref es l off n _ => (match Nat.beq es i.size, cellsX s.h l with
        | true, some cs => (match Nat.ble (off + n * es) cs.length, s.write l off cs (List.replicate n z).flatten with
          | true, some s' => some (.tup [], s')
          | _, _ => none)
        | _, _ => none)
      | _, _, _ => none
    | none => none
  | _ => none

def makeSliceOn (P : Program) (t : TypeId) (n c : V) (s : St) : Option (V × St) :=
  match P.underlying t with
  | some (.slice e) =>
    match P.info? e with
    | some i =>
      match zeroV P e, n, c, decide (0 < i.size) && decide (i.bytes ≤ 4096) with
      | some z, .int _ (.ofNat a), .int _ (.ofNat b), true => (match Nat.ble a b && Nat.ble b mostLen with
        | true => some (.sref i.size s.nx 0 a (2 * b + 1), s.add (List.replicate b z).flatten)
        | false => none)
      | _, _, _, _ => none
    | none => none
  | _ => none

def storeX (P : Program) (t : TypeId) (a v : V) (s : St) : Option St :=
  match okT P t, P.cellsOf t with
  | true, n + 1 =>
    match cellsOfX (n + 1) v, a with
    | some new, .ptr l off => (match cellsX s.h l with
      | some cs => s.write l off cs new
      | none => none)
    | _, _ => none
  | _, _ => none

def mapUpdateOn (P : Program) (t : TypeId) (x k v : V) (s : St) : Option St :=
  match P.underlying t, x with
  | some (.map kt _), .map (some r) => match keyT P kt k, s.h.get r, v.plain with
    | true, some (.map es), true => (match updV k v es with
      | some es' => some { s with h := s.h.put (some (.map es')) r }
      | none => none)
    | _, _, _ => none
  | _, _ => none

structure Env where
  call : FuncId → List V → T Xb → Nat → Option (V × T Xb × Nat)
  yield : Nat → List V → T Xb → Nat → Option (V × T Xb × Nat)

def withH (s : St) : Option (V × T Xb × Nat) → Option (V × St)
  | some (v, h, nx) => some (v, { s with h := h, nx := nx })
  | none => none

def someSl : V → Bool
  | .sl _ (_ :: _) _ => true
  | .sref _ _ _ (_ + 1) _ => true
  | _ => false

def okShape1 (P : Program) (t : TypeId) (v : V) : Bool :=
  match P.underlying t with
  | some (.pointer _) => (match v with | .ptr _ _ => true | .nilp => true | _ => false)
  | some (.slice e) => (match v with | .sl es _ _ => Nat.beq es (P.cellsOf e) | .sref es _ _ _ _ => Nat.beq es (P.cellsOf e) | _ => false)
  | _ => v.plain

def okShapes (P : Program) : List TypeId → List V → Bool
  | [], [] => true
  | t :: ts, v :: vs => okShape1 P t v && okShapes P ts vs
  | _, _ => false

def okShape (P : Program) (t : TypeId) (v : V) : Bool :=
  match P.underlying t with
  | some (.tuple ts) => (match v with | .tup vs => okShapes P ts.toList vs | _ => false)
  | _ => okShape1 P t v

def shapedX (P : Program) (ty : TypeId) : Option (V × St) → Option (V × St)
  | some (v, s) => match okShape P ty v with | true => some (v, s) | false => none
  | none => none

def effX (P : Program) (E : Env) (s : St) (o : Op) (ty : TypeId) : Option (V × St) :=
  match o with
  | .binOp op t x (.const (.slice none 0 0)) _ => match s.ev x with
    | some v => match someSl v && (match P.underlying t with | some (.slice _) => true | _ => false), op with
      | true, .eql => some (.bool false, s)
      | true, .neq => some (.bool true, s)
      | _, _ => none
    | none => none
  | .alloc t => match zeroV P t with | some cs => some (.ptr s.nx 0, s.add cs) | none => none
  | .box t x => match okT P t, s.ev x with
    | true, some v => match cellsOfX (P.cellsOf t) v with | some cs => some (.ptr s.nx 0, s.add cs) | none => none
    | _, _ => none
  | .store t a x => match s.ev a, s.evT P t x with
    | some p, some v => match storeX P t p v s with | some s' => some (.undef, s') | none => none
    | _, _ => none
  | .buildSlice t n ps => match partsX s.ev ps.toList with
    | some l => (match buildSliceX P t n l with
      | some (.sl es l .full) => some (.sref es s.nx 0 l.length (2 * l.length + 1), s.add l.flatten)
      | _ => none)
    | none => none
  | .convert a d x => match a == d, P.underlying a, s.ev x with
    | true, some (.slice e), some (.sref es l o (n + 1) c) => (match zeroIsByte P e, cellsX s.h l with
      | true, some _ => some (.sref es l o (n + 1) c, s)
      | _, _ => none)
    | _, _, _ => none
  | .makeSlice t n c => match s.ev n, s.ev c with | some a, some b => makeSliceOn P t a b s | _, _ => none
  | .makeMap _ none => some (.map (some s.nx), { s with h := s.h.put (some (.map [])) s.nx, nx := s.nx + 1 })
  | .mapUpdate t m k v => match s.ev m, s.ev k, s.ev v with
    | some a, some b, some c => match mapUpdateOn P t a b c s with | some s' => some (.undef, s') | none => none
    | _, _, _ => none
  | .call c =>
    match evsT P s c.argTypes.toList c.args.toList with
    | none => none
    | some vs =>
      match c.callee with
      | .value f => match s.ev f, vs.all V.plain with
        | some (.fn (.func k) first caps), true => shapedX P ty (withH s (E.call k (first ++ vs ++ caps) s.h s.nx))
        | some (.fn (.yield l) [] []), true => shapedX P ty (withH s (E.yield l vs s.h s.nx))
        | _, _ => none
      | .builtin .append => match c.argTypes.toList, vs with
        | t :: t2 :: _, [x, y] => appendOn P t t2 x y s
        | _, _ => none
      | .builtin .copy => match c.argTypes.toList, vs with
        | t :: t2 :: _, [x, y] => copyOn P t t2 x y s
        | _, _ => none
      | .builtin .len => match c.argTypes.toList, vs with
        | t :: _, [x] => (match mapT P t, mapX s.h x with
          | true, some es => some (.int .i64 es.length, s)
          | _, _ => none)
        | _, _ => none
      | .builtin .clear => match c.argTypes.toList, vs with
        | t :: _, [x] => clearOn P t x s
        | _, _ => none
      | _ => none
  | _ => none

def St.put (s : St) (dst : Option Tmp) (v : Option V) : St := match dst with | some d => { s with tm := s.tm.put v d } | none => s

def guardX (ops : List Oper) (s : St) (o : Oper) : Option (Option Bool) :=
  match o.guard with
  | none => some none
  | some (j, want) =>
    match ops[j]? with
    | some p => match p.dst with
      | some d => match s.tm.get d with
        | some (.bool t) => some (some (match want with | true => t | false => !t))
        | some (.opt true (.bool t)) => some (some (match want with | true => t | false => !t))
        | some (.opt false _) => some (some false)
        | _ => none
      | none => none
    | none => none

def skipped (P : Program) (sort : Nat) (o : Oper) : Option V :=
  match sort with
  | 0 => some (.opt false .undef)
  | _ => match P.underlying o.type with
    | some .bool | some (.int _) | some .string => some (.opt false .undef)
    | _ => none

def yesX (P : Program) (t : TypeId) (g : Option Bool) (v : V) : V := match g with | none => v | some _ => yesV P t true v

def opX (P : Program) (E : Env) (esc : List Nat) (ops : List Oper) (s : St) (o : Oper) : Option St :=
  match guardX ops s o with
  | none => none
  | some (some false) => match sortOf esc o with | 1 => none | k => some (s.put o.dst (skipped P k o))
  | some g =>
    match sortOf esc o with
    | 0 => match qx P s o.op o.type with
      | some v => some (s.put o.dst (some (match g with | none => v | some _ => .opt true v)))
      | none => none
    | 1 => none
    | _ => match effX P E s o.op o.type with
      | some (v, s') => some (s'.put o.dst (some (yesX P o.type g v)))
      | none => none

def opsX (P : Program) (E : Env) (esc : List Nat) (ops : List Oper) : List Oper → St → Option St
  | [], s => some s
  | o :: r, s => match opX P E esc ops s o with | some s' => opsX P E esc ops r s' | none => none

def sameG : G → G → Bool
  | .full, .full => true
  | .no, .no => true
  | _, _ => false

mutual
def sameV : V → V → Bool
  | .bool a, .bool b => a == b
  | .int k a, .int k' b => kindEq k k' && a == b
  | .str a, .str b => a.data.toList == b.data.toList
  | .nilp, .nilp => true
  | .ptr a b, .ptr c d => Nat.beq a c && Nat.beq b d
  | .sref a b c d e, .sref a' b' c' d' e' => Nat.beq a a' && Nat.beq b b' && Nat.beq c c' && Nat.beq d d' && Nat.beq e e' && Nat.blt 0 b
  | .sl a l g, .sl b m g' => Nat.beq a b && sameVss l m && sameG g g'
  | .agg a, .agg b => sameVs a b
  | .nilfn, .nilfn => true
  | .iface t a, .iface t' b => Nat.beq t t' && sameV a b
  | .nilif, .nilif => true
  | .map none, .map none => true
  | .map (some a), .map (some b) => Nat.beq a b
  | .fn (.func f) a b, .fn (.func g) a' b' => Nat.beq f g && sameVs a a' && sameVs b b'
  | .opt c a, .opt d b => c && d && sameV a b
  | _, _ => false
def sameVs : List V → List V → Bool
  | [], l => l.isEmpty
  | a :: r, l => (match l with
    | b :: t => sameV a b && sameVs r t
    | [] => false)
def sameVss : List (List V) → List (List V) → Bool
  | [], l => l.isEmpty
  | a :: r, l => (match l with
    | b :: t => sameVs a b && sameVss r t
    | [] => false)
end

def againX (P : Program) (ops : List Oper) (s : St) (j : Nat) : Bool :=
  match ops[j]? with
  | none => false
  | some o => match guardX ops s o, o.dst with
    | some (some false), _ => false
    | some g, some d => match qx P s o.op o.type, s.tm.get d with
      | some v, some u => sameV (match g with | none => v | some _ => .opt true v) u
      | _, _ => false
    | _, _ => false

def runX (P : Program) (E : Env) (esc : List Nat) (ops : List Oper) : List (Nat × List Nat) → St → Option St
  | [], s => some s
  | (i, rc) :: r, s =>
    match ops[i]? with
    | none => none
    | some o => match opX P E esc ops s o with
      | some s' => match (match guardX ops s o with | some (some false) => true | _ => rc.all (againX P ops s')) with
        | true => runX P E esc ops r s'
        | false => none
      | none => none

def inFrame (n : Nat) (ops : List Oper) : Bool := ops.all fun o => match o.dst with | some d => Nat.blt d n | none => true

def regX (P : Program) (E : Env) (esc : List Nat) (n : Nat) (ops : List Oper) (draw : Bool) (s : St) : Option St :=
  match inFrame n ops with
  | true => (match draw with
    | false => opsX P E esc ops ops s
    | true => match zerosOk P ops, regPlan esc ops with
      | true, some plan => runX P E esc ops plan s
      | _, _ => none)
  | false => none

def iter (body : St → Option (Ex × St)) : Nat → St → Option (Ex × St)
  | 0, _ => none
  | n + 1, s => match body s with
    | some (.normal, s') => iter body n s'
    | r => r

def plainTm : Option V → Option V
  | some (.opt _ _) => none
  | r => r

def scopeX (c : Code) (run : Nat → St → Option (Ex × St)) : Nat → Option (Ex × St) → Option (Ex × St)
  | 0, _ => none
  | n + 1, r => match r with
    | some (.goto l, s) => (match hasLab c l with
      | true => scopeX c run n (run l s)
      | false => some (.goto l, s))
    | r => r

mutual
def exX (P : Program) (E : Env) (esc : List Nat) (rnd : Bool) (n : Nat) (fuel : Nat) : Code → St → Option (Ex × St)
  | .skip, s => some (.normal, s)
  | .region _ ops draw, s => match regX P E esc n ops.toList draw s with | some s' => some (.normal, s') | none => none
  | .seq a b, s => match exX P E esc rnd n fuel a s with
    | some (.normal, s') => exX P E esc rnd n fuel b s'
    | r => r
  | .cond c x y, s => match s.raw c with
    | some (.bool true) => exX P E esc rnd n fuel x s
    | some (.bool false) => exX P E esc rnd n fuel y s
    | _ => none
  | .block id c, s => match exX P E esc rnd n fuel c s with
    | some (.exit i, s') => (match Nat.beq i id with | true => some (.normal, s') | false => some (.exit i, s'))
    | r => r
  | .loop c, s => iter (exX P E esc rnd n fuel c) fuel s
  | .exit id, s => some (.exit id, s)
  | .ret, s => some (.ret, s)
  | .label _, s => some (.normal, s)
  | .rangeFunc f ps asg body, s => match rnd, s.raw f with
    | false, some (.fn (.func k) first caps) =>
      match enters P k with
      | false => none
      | true => match E.call k (first ++ [.fn (.yield s.nx) [] []] ++ caps) (s.h.put (some (.loop .ready ps.toList (s.tm.map plainTm) n asg body)) s.nx) (s.nx + 1) with
      | some (_, h, nx) => match h.get s.nx with
        | some (.loop .ready _ _ _ _ _) => some (.normal, { s with h := h.put none s.nx, nx := nx })
        | some (.loop (.done c) _ _ _ _ _) => match exOfC c with
          | some e => some (e, { s with h := h.put none s.nx, nx := nx })
          | none => none
        | _ => none
      | none => none
    | _, _ => none
  | .goto l, s => some (.goto l, s)
  | .scope c, s => scopeX c (fun l s => exL P E esc rnd n fuel c l s) fuel (exX P E esc rnd n fuel c s)
  | .refuse _, _ => none
def exL (P : Program) (E : Env) (esc : List Nat) (rnd : Bool) (n : Nat) (fuel : Nat) : Code → Nat → St → Option (Ex × St)
  | .seq a b, l, s => (match hasLab a l with
    | true => (match exL P E esc rnd n fuel a l s with
      | some (.normal, s') => exX P E esc rnd n fuel b s'
      | r => r)
    | false => exL P E esc rnd n fuel b l s)
  | .label _, _, s => some (.normal, s)
  | _, _, _ => none
end

def resX (P : Program) (s : St) : ResultVar → Option V
  | .tmp t => match s.tm.get t with
    | some (.opt true v) => (match v.plain with | true => some v | false => none)
    | some (.opt false _) => none
    | r => r
  | .cell a t => match s.tm.get a with
    | some (.ptr l off) => loadX P s.h t (.ptr l off)
    | _ => none

def ressX (P : Program) (s : St) : List ResultVar → Option (List V)
  | [] => some []
  | r :: rs => match resX P s r, ressX P s rs with
    | some v, some l => some (v :: l)
    | _, _ => none

def answerX (P : Program) (fn : Func) (s : St) : Option (V × T Xb × Nat) :=
  match ressX P s fn.results.toList with
  | some [v] => some (v, s.h, s.nx)
  | some vs => some (.tup vs, s.h, s.nx)
  | none => none

def bsOf : List Oper → List Nat
  | [] => []
  | o :: r => match o.op with
    | .call c => (match c.callee, c.args.toList with
      | .builtin .append, [_, .tmp d] => (2000000 + d) :: bsOf r
      | _, _ => bsOf r)
    | _ => bsOf r
def lensOf (P : Program) : List Oper → List Nat
  | [] => []
  | o :: r => match o.op, o.dst with
    | .call c, some d => (match c.callee, c.argTypes.toList with
      | .builtin .len, t :: _ => (match mapT P t with | true => (4000000 + d) :: lensOf P r | false => lensOf P r)
      | _, _ => lensOf P r)
    | _, _ => lensOf P r
def slotsOf (P : Program) (ops : List Oper) : List Nat := bsOf ops ++ lensOf P ops ++ ops.filterMap fun o => match o.op with | .alloc _ | .box _ _ => o.dst | _ => none
def slotsC (P : Program) : Code → List Nat
  | .region _ ops _ => slotsOf P ops.toList
  | .seq a b => slotsC P a ++ slotsC P b
  | .cond _ a b => slotsC P a ++ slotsC P b
  | .block _ c | .loop c | .scope c => slotsC P c
  | .rangeFunc _ _ a b => slotsC P a ++ slotsC P b
  | _ => []

def slots (P : Program) (c : Code) : List Nat := 999999 :: slotsC P c

def roundX (P : Program) (E : Env) (fuel : Nat) (l : Nat) (args : List V) (h : T Xb) (nx : Nat) : Option (V × T Xb × Nat) :=
  match h.get l with
  | some (.loop .ready ps tm n asg body) =>
    match Nat.beq ps.length args.length && ps.all (fun p => Nat.blt p n) with
    | true => match exX P E (slots P asg ++ slots P body) true n fuel asg { tm := (ps.zip args).foldl (fun t e => t.put (some e.2) e.1) tm, h := h, nx := nx } with
      | some (.normal, s) => match s.h.get l with
        | some (.loop .ready ps tm n' asg' body') => match exX P E (slots P asg ++ slots P body) true n fuel body { s with h := s.h.put (some (.loop .busy ps tm n' asg' body')) l } with
          | some (e, s) => match s.h.get l with
            | some (.loop _ ps tm n asg' body') => (match e with
              | .normal => some (.bool true, s.h.put (some (.loop .ready ps tm n asg' body')) l, s.nx)
              | .exit i => some (.bool false, s.h.put (some (.loop (.done (.exit i)) ps tm n asg' body')) l, s.nx)
              | .ret => some (.bool false, s.h.put (some (.loop (.done .ret) ps tm n asg' body')) l, s.nx)
              | .goto _ => none)
            | _ => none
          | none => none
        | _ => none
      | _ => none
    | false => none
  | _ => none

def bodyX (P : Program) (E : Env) (fuel : Nat) (f : FuncId) (args : List V) (h : T Xb) (nx : Nat) : Option (V × T Xb × Nat) :=
  match P.funcs[f]? with
  | some fn => match fn.body, fn.name != "runtime.NumGoroutine" && Nat.ble args.length fn.ntmps with
    | some c, true => match exX P E (slots P c) false fn.ntmps fuel c { tm := T.ofList args 0 .nil, h := h, nx := nx } with
      | some (.normal, s) => answerX P fn s
      | some (.ret, s) => answerX P fn s
      | _ => none
    | _, _ => none
  | none => none

def callX (P : Program) (hk : FuncId → List V → T Xb → Nat → Option (V × T Xb × Nat)) (fuel : Nat) : Nat → Env
  | 0 => { call := fun _ _ _ _ => none, yield := fun _ _ _ _ => none }
  | n + 1 =>
    { call := fun f args h nx => match hk f args h nx with
        | some r => some r
        | none => bodyX P (callX P hk fuel n) fuel f args h nx
      yield := roundX P (callX P hk fuel n) fuel }
end
end Jx
end

section
/- What is run on values, against the values of JbA: places may lie elsewhere. -/
namespace Jx
open Go Jb

theorem T.get_nil {α : Type} (k : Nat) : (T.nil : T α).get k = none := rfl

theorem T.get_one {α : Type} (v : Option α) : ∀ (n k j : Nat), k < n → (T.one v n k).get j = if j = k then v else none := by
  intro n
  induction n with
  | zero => intro k j hk; omega
  | succ n ih =>
    intro k j hk
    cases k with
    | zero => cases j with
      | zero => rfl
      | succ j =>
        show Bool.rec (motive := fun _ => Option α) _ _ (Nat.beq (j % 2) 0) = _
        cases Nat.beq (j % 2) 0 <;> simp [T.get_nil]
    | succ k =>
      have e : T.one v (n + 1) (k + 1) = Bool.rec (motive := fun _ => T α) (.node none .nil (T.one v n (k / 2))) (.node none (T.one v n (k / 2)) .nil) (Nat.beq (k % 2) 0) := rfl
      rw [e]
      cases hb : Nat.beq (k % 2) 0 with
      | true =>
        have hb := Nat.eq_of_beq_eq_true hb
        cases j with
        | zero => rfl
        | succ j =>
          show Bool.rec (motive := fun _ => Option α) _ _ (Nat.beq (j % 2) 0) = _
          cases hj : Nat.beq (j % 2) 0 with
          | true =>
            have hj := Nat.eq_of_beq_eq_true hj
            show (T.one v n (k / 2)).get (j / 2) = _
            rw [ih _ _ (by omega)]
            have : j / 2 = k / 2 ↔ j + 1 = k + 1 := by omega
            simp only [this]
          | false =>
            have hj := Nat.ne_of_beq_eq_false hj
            show (T.nil : T α).get (j / 2) = _
            rw [T.get_nil, if_neg (by omega)]
      | false =>
        have hb := Nat.ne_of_beq_eq_false hb
        cases j with
        | zero => rfl
        | succ j =>
          show Bool.rec (motive := fun _ => Option α) _ _ (Nat.beq (j % 2) 0) = _
          cases hj : Nat.beq (j % 2) 0 with
          | true =>
            have hj := Nat.eq_of_beq_eq_true hj
            show (T.nil : T α).get (j / 2) = _
            rw [T.get_nil, if_neg (by omega)]
          | false =>
            have hj := Nat.ne_of_beq_eq_false hj
            show (T.one v n (k / 2)).get (j / 2) = _
            rw [ih _ _ (by omega)]
            have : j / 2 = k / 2 ↔ j + 1 = k + 1 := by omega
            simp only [this]

theorem T.get_put {α : Type} (v : Option α) : ∀ (t : T α) (k j : Nat), (t.put v k).get j = if j = k then v else t.get j := by
  intro t
  induction t with
  | nil => intro k j; show (T.one v (k + 1) k).get j = _; rw [T.get_one v _ _ _ (by omega)]; rfl
  | node u l r il ir =>
    intro k j
    cases k with
    | zero => cases j with
      | zero => rfl
      | succ j => rfl
    | succ k =>
      have e : (T.node u l r).put v (k + 1) = Bool.rec (motive := fun _ => T α) (.node u l (r.put v (k / 2))) (.node u (l.put v (k / 2)) r) (Nat.beq (k % 2) 0) := rfl
      rw [e]
      cases j with
      | zero => cases Nat.beq (k % 2) 0 <;> rfl
      | succ j =>
        have eg : ∀ (u : Option α) (a b : T α), (T.node u a b).get (j + 1) = Bool.rec (motive := fun _ => Option α) (b.get (j / 2)) (a.get (j / 2)) (Nat.beq (j % 2) 0) := fun _ _ _ => rfl
        cases hb : Nat.beq (k % 2) 0 with
        | true =>
          have hb := Nat.eq_of_beq_eq_true hb
          simp only [eg]
          cases hj : Nat.beq (j % 2) 0 with
          | true =>
            have hj := Nat.eq_of_beq_eq_true hj
            simp only [il]
            have : j / 2 = k / 2 ↔ j + 1 = k + 1 := by omega
            simp only [this]
          | false =>
            have hj := Nat.ne_of_beq_eq_false hj
            simp only
            rw [if_neg (by omega)]
        | false =>
          have hb := Nat.ne_of_beq_eq_false hb
          simp only [eg]
          cases hj : Nat.beq (j % 2) 0 with
          | true =>
            have hj := Nat.eq_of_beq_eq_true hj
            simp only
            rw [if_neg (by omega)]
          | false =>
            have hj := Nat.ne_of_beq_eq_false hj
            simp only [ir]
            have : j / 2 = k / 2 ↔ j + 1 = k + 1 := by omega
            simp only [this]

theorem T.get_map {α : Type} (f : Option α → Option α) (hf : f none = none) : ∀ (t : T α) (k : Nat), (t.map f).get k = f (t.get k) := by
  intro t
  induction t with
  | nil => intro k; exact hf.symm
  | node u l r il ir =>
    intro k
    cases k with
    | zero => rfl
    | succ k =>
      show Bool.rec (motive := fun _ => Option α) ((r.map f).get (k / 2)) ((l.map f).get (k / 2)) (Nat.beq (k % 2) 0) = f (Bool.rec (motive := fun _ => Option α) (r.get (k / 2)) (l.get (k / 2)) (Nat.beq (k % 2) 0))
      cases Nat.beq (k % 2) 0
      · exact ir _
      · exact il _

structure Loc where
  l : Nat
  d : Nat
  e : Nat

structure Locs where
  at_ : Nat → Option Loc
  num : Int → Option Int
  sl : Nat → Option (List (List V) × G)
  rng : ∀ n m, num n = some m → lo n ≤ m ∧ ∀ x, hi n = some x → m ≤ x
instance : CoeFun Locs (fun _ => Nat → Option Loc) := ⟨Locs.at_⟩

inductive VR (ρ : Locs) : V → V → Prop where
  | undef : VR ρ .undef .undef
  | bool (b : Bool) : VR ρ (.bool b) (.bool b)
  | int (k : IntKind) (n : Int) : VR ρ (.int k n) (.int k n)
  | str (s : ByteArray) : VR ρ (.str s) (.str s)
  | nilp : VR ρ .nilp .nilp
  | ptr (k off : Nat) (L : Loc) (h : ρ k = some L) : VR ρ (.ptr k off) (.ptr L.l (off + L.d))
  | cptr (cs cs' : List V) (off : Nat) (hl : cs'.length = cs.length) (h : ∀ (i : Nat) (v u : V), cs[i]? = some v → cs'[i]? = some u → VR ρ v u) : VR ρ (.cptr cs off) (.cptr cs' off)
  | sl (es : Nat) (l l' : List (List V)) (g : G) (hg : ∀ s, g ≠ .own s) (hl : l'.length = l.length) (h1 : ∀ (i : Nat) (a b : List V), l[i]? = some a → l'[i]? = some b → b.length = a.length)
      (h : ∀ (i : Nat) (a b : List V), l[i]? = some a → l'[i]? = some b → ∀ (j : Nat) (v u : V), a[j]? = some v → b[j]? = some u → VR ρ v u) : VR ρ (.sl es l g) (.sl es l' g)
  | exact (es k off n c : Nat) (L : Loc) (h : ρ k = some L) (hc : c % 2 = 1) : VR ρ (.sref es k off n c) (.sref es L.l (off + L.d) n (c / 2))
  | grown (es k off n c c' : Nat) (L : Loc) (h : ρ k = some L) (hc : c % 2 = 0) (hle : c / 2 ≤ c') (he : off + L.d + c' * es = L.e) (hes : 0 < es) : VR ρ (.sref es k off n c) (.sref es L.l (off + L.d) n c')
  | none (es l' off' c' : Nat) : VR ρ (.sref es 0 0 0 0) (.sref es l' off' 0 c')
  | nilmap : VR ρ (.map none) (.map none)
  | map (k : Nat) (L : Loc) (h : ρ k = some L) : VR ρ (.map (some k)) (.map (some L.l))
  | fn (f : FuncId) (a a' b b' : List V) (h1 : a'.length = a.length) (h2 : b'.length = b.length) (ha : ∀ (i : Nat) (v u : V), a[i]? = some v → a'[i]? = some u → VR ρ v u)
      (hb : ∀ (i : Nat) (v u : V), b[i]? = some v → b'[i]? = some u → VR ρ v u) : VR ρ (.fn (.func f) a b) (.fn (.func f) a' b')
  | yield (k : Nat) (L : Loc) (h : ρ k = some L) : VR ρ (.fn (.yield k) [] []) (.fn (.yield L.l) [] [])
  | nilfn : VR ρ .nilfn .nilfn
  | iface (t : TypeId) (v u : V) (ht : unk t = false) (h : VR ρ v u) : VR ρ (.iface t v) (.iface t u)
  | num (t : TypeId) (k : IntKind) (n m : Int) (ht : unk t = true) (h : ρ.num n = some m) : VR ρ (.iface t (.int k n)) (.int k m)
  | some_ (t : TypeId) (es id o c c' : Nat) (l : List (List V)) (g : G) (ht : unk t = true) (h : ρ.sl id = some (l, g)) (hn : ρ.num id = some (l.length : Int)) : VR ρ (.iface t (.sref es id o c c')) (.sl es l g)
  | nilif : VR ρ .nilif .nilif
  | agg (cs cs' : List V) (hl : cs'.length = cs.length) (h : ∀ (i : Nat) (v u : V), cs[i]? = some v → cs'[i]? = some u → VR ρ v u) : VR ρ (.agg cs) (.agg cs')
  | tup (cs cs' : List V) (hl : cs'.length = cs.length) (h : ∀ (i : Nat) (v u : V), cs[i]? = some v → cs'[i]? = some u → VR ρ v u) : VR ρ (.tup cs) (.tup cs')
  | opt (v u : V) (h : VR ρ v u) : VR ρ (.opt true v) (.opt true u)
  | skip (u : V) : VR ρ (.opt false .undef) (.opt false u)

structure Sub (ρ ρ' : Locs) : Prop where
  at_ : ∀ k L, ρ k = some L → ρ' k = some L
  num : ρ'.num = ρ.num
  sl : ρ'.sl = ρ.sl
instance {ρ ρ' : Locs} : CoeFun (Sub ρ ρ') (fun _ => ∀ k L, ρ k = some L → ρ' k = some L) := ⟨Sub.at_⟩
theorem Sub.refl (ρ : Locs) : Sub ρ ρ := ⟨fun _ _ h => h, rfl, rfl⟩
theorem Sub.trans {a b c : Locs} (h : Sub a b) (g : Sub b c) : Sub a c := ⟨fun k L e => g k L (h k L e), by rw [g.num, h.num], by rw [g.sl, h.sl]⟩

theorem VR.mono {ρ ρ' : Locs} (s : Sub ρ ρ') {v u : V} (h : VR ρ v u) : VR ρ' v u := by
  induction h with
  | undef => exact .undef
  | bool b => exact .bool b
  | int k n => exact .int k n
  | str x => exact .str x
  | nilp => exact .nilp
  | ptr k off L h => exact .ptr k off L (s _ _ h)
  | cptr cs cs' off hl _ ih => exact .cptr cs cs' off hl ih
  | sl es l l' g hg hl h1 _ ih => exact .sl es l l' g hg hl h1 ih
  | exact es k off n c L h hc => exact .exact es k off n c L (s _ _ h) hc
  | grown es k off n c c' L h hc hle he hes => exact .grown es k off n c c' L (s _ _ h) hc hle he hes
  | none es l' off' c' => exact .none es l' off' c'
  | nilmap => exact .nilmap
  | map k L h => exact .map k L (s _ _ h)
  | fn f a a' b b' h1 h2 _ _ ia ib => exact .fn f a a' b b' h1 h2 ia ib
  | yield k L h => exact .yield k L (s _ _ h)
  | nilfn => exact .nilfn
  | iface t v u ht _ ih => exact .iface t v u ht ih
  | num t k n m ht h => exact .num t k n m ht (by rw [s.num]; exact h)
  | some_ t es id o c c' l g ht h hn => exact .some_ t es id o c c' l g ht (by rw [s.sl]; exact h) (by rw [s.num]; exact hn)
  | nilif => exact .nilif
  | agg cs cs' hl _ ih => exact .agg cs cs' hl ih
  | tup cs cs' hl _ ih => exact .tup cs cs' hl ih
  | opt v u _ ih => exact .opt v u ih
  | skip u => exact .skip u

def VL (ρ : Locs) (cs cs' : List V) : Prop := cs'.length = cs.length ∧ ∀ (i : Nat) (v u : V), cs[i]? = some v → cs'[i]? = some u → VR ρ v u

section
variable {ρ ρ' : Locs}
theorem VL.mono (s : Sub ρ ρ') {cs cs' : List V} (h : VL ρ cs cs') : VL ρ' cs cs' := ⟨h.1, fun i v u a b => (h.2 i v u a b).mono s⟩
theorem VL.nil : VL ρ [] [] := ⟨rfl, fun i v u h => by simp at h⟩
theorem VL.cons {v u : V} {cs cs' : List V} (h : VR ρ v u) (t : VL ρ cs cs') : VL ρ (v :: cs) (u :: cs') := by
  refine ⟨by simp [t.1], fun i a b ha hb => ?_⟩
  cases i with
  | zero => simp at ha hb; subst ha; subst hb; exact h
  | succ i => exact t.2 i a b (by simpa using ha) (by simpa using hb)
theorem VL.tail {v u : V} {cs cs' : List V} (h : VL ρ (v :: cs) (u :: cs')) : VR ρ v u ∧ VL ρ cs cs' :=
  ⟨h.2 0 v u rfl rfl, by simpa using h.1, fun i a b ha hb => h.2 (i + 1) a b (by simpa using ha) (by simpa using hb)⟩
theorem VL.append {a a' b b' : List V} (h : VL ρ a a') (t : VL ρ b b') : VL ρ (a ++ b) (a' ++ b') := by
  refine ⟨by simp [h.1, t.1], fun i v u hv hu => ?_⟩
  by_cases hi : i < a.length
  · rw [List.getElem?_append_left hi] at hv
    rw [List.getElem?_append_left (by rw [h.1]; exact hi)] at hu
    exact h.2 i v u hv hu
  · rw [List.getElem?_append_right (by omega)] at hv
    rw [List.getElem?_append_right (by rw [h.1]; omega), h.1] at hu
    exact t.2 _ v u hv hu
theorem VL.drop {cs cs' : List V} (h : VL ρ cs cs') (n : Nat) : VL ρ (cs.drop n) (cs'.drop n) := by
  refine ⟨by simp [h.1], fun i v u hv hu => ?_⟩
  rw [List.getElem?_drop] at hv hu
  exact h.2 _ v u hv hu
theorem VL.take {cs cs' : List V} (h : VL ρ cs cs') (n : Nat) : VL ρ (cs.take n) (cs'.take n) := by
  refine ⟨by simp [h.1], fun i v u hv hu => ?_⟩
  rw [List.getElem?_take] at hv hu
  split at hv
  · rename_i hi; rw [if_pos hi] at hu; exact h.2 i v u hv hu
  · cases hv
theorem VL.get {cs cs' : List V} (h : VL ρ cs cs') {i : Nat} {v : V} (hv : cs[i]? = some v) : ∃ u, cs'[i]? = some u ∧ VR ρ v u := by
  have hi : i < cs'.length := by have := (List.getElem?_eq_some_iff.1 hv).1; rw [h.1]; exact this
  exact ⟨cs'[i], List.getElem?_eq_getElem hi, h.2 i v _ hv (List.getElem?_eq_getElem hi)⟩

theorem VR.agg_inv {cs : List V} {u : V} (h : VR ρ (.agg cs) u) : ∃ cs', u = .agg cs' ∧ VL ρ cs cs' := by
  cases h with | agg _ cs' hl h => exact ⟨cs', rfl, hl, h⟩
theorem VR.tup_inv {cs : List V} {u : V} (h : VR ρ (.tup cs) u) : ∃ cs', u = .tup cs' ∧ VL ρ cs cs' := by
  cases h with | tup _ cs' hl h => exact ⟨cs', rfl, hl, h⟩
theorem VR.cptr_inv {cs : List V} {off : Nat} {u : V} (h : VR ρ (.cptr cs off) u) : ∃ cs', u = .cptr cs' off ∧ VL ρ cs cs' := by
  cases h with | cptr _ cs' _ hl h => exact ⟨cs', rfl, hl, h⟩

def VLL (ρ : Locs) (l l' : List (List V)) : Prop := l'.length = l.length ∧ ∀ (i : Nat) (a b : List V), l[i]? = some a → l'[i]? = some b → VL ρ a b

theorem VLL.mono (s : Sub ρ ρ') {l l' : List (List V)} (h : VLL ρ l l') : VLL ρ' l l' := ⟨h.1, fun i a b x y => (h.2 i a b x y).mono s⟩
theorem VLL.nil : VLL ρ [] [] := ⟨rfl, fun i v u h => by simp at h⟩
theorem VLL.cons {a b : List V} {l l' : List (List V)} (h : VL ρ a b) (t : VLL ρ l l') : VLL ρ (a :: l) (b :: l') := by
  refine ⟨by simp [t.1], fun i x y hx hy => ?_⟩
  cases i with
  | zero => simp at hx hy; subst hx; subst hy; exact h
  | succ i => exact t.2 i x y (by simpa using hx) (by simpa using hy)
theorem VLL.tail {a b : List V} {l l' : List (List V)} (h : VLL ρ (a :: l) (b :: l')) : VL ρ a b ∧ VLL ρ l l' :=
  ⟨h.2 0 a b rfl rfl, by simpa using h.1, fun i x y ha hb => h.2 (i + 1) x y (by simpa using ha) (by simpa using hb)⟩
theorem VLL.drop {l l' : List (List V)} (h : VLL ρ l l') (n : Nat) : VLL ρ (l.drop n) (l'.drop n) := by
  refine ⟨by simp [h.1], fun i v u hv hu => ?_⟩
  rw [List.getElem?_drop] at hv hu
  exact h.2 _ v u hv hu
theorem VLL.take {l l' : List (List V)} (h : VLL ρ l l') (n : Nat) : VLL ρ (l.take n) (l'.take n) := by
  refine ⟨by simp [h.1], fun i v u hv hu => ?_⟩
  rw [List.getElem?_take] at hv hu
  split at hv
  · rename_i hi; rw [if_pos hi] at hu; exact h.2 i v u hv hu
  · cases hv
theorem VLL.append {a a' b b' : List (List V)} (h : VLL ρ a a') (t : VLL ρ b b') : VLL ρ (a ++ b) (a' ++ b') := by
  refine ⟨by simp [h.1, t.1], fun i v u hv hu => ?_⟩
  by_cases hi : i < a.length
  · rw [List.getElem?_append_left hi] at hv
    rw [List.getElem?_append_left (by rw [h.1]; exact hi)] at hu
    exact h.2 i v u hv hu
  · rw [List.getElem?_append_right (by omega)] at hv
    rw [List.getElem?_append_right (by rw [h.1]; omega), h.1] at hu
    exact t.2 _ v u hv hu
theorem VLL.flatten : ∀ {l l' : List (List V)}, VLL ρ l l' → VL ρ l.flatten l'.flatten
  | [], l', h => by
    have : l' = [] := List.length_eq_zero_iff.1 (by simpa using h.1)
    subst this; exact .nil
  | a :: l, [], h => by have := h.1; simp at this
  | a :: l, b :: l', h => by
    obtain ⟨h1, h2⟩ := h.tail
    rw [List.flatten_cons, List.flatten_cons]
    exact h1.append h2.flatten
theorem VR.sl_inv {es : Nat} {l : List (List V)} {g : G} {u : V} (h : VR ρ (.sl es l g) u) : ∃ l', u = .sl es l' g ∧ VLL ρ l l' ∧ ∀ s, g ≠ .own s := by
  cases h with | sl _ _ l' _ hg hl h1 h => exact ⟨l', rfl, ⟨hl, fun i a b x y => ⟨h1 i a b x y, h i a b x y⟩⟩, hg⟩
theorem VR.ofVLL {es : Nat} {l l' : List (List V)} {g : G} (hg : ∀ s, g ≠ .own s) (h : VLL ρ l l') : VR ρ (.sl es l g) (.sl es l' g) :=
  .sl es l l' g hg h.1 (fun i a b x y => (h.2 i a b x y).1) (fun i a b x y => (h.2 i a b x y).2)
theorem VL.replicate {a b : List V} (h : VL ρ a b) (n : Nat) : VLL ρ (List.replicate n a) (List.replicate n b) := by
  refine ⟨by simp, fun i x y hx hy => ?_⟩
  rw [List.getElem?_replicate] at hx hy
  split at hx
  · rename_i hi; rw [if_pos hi] at hy; cases hx; cases hy; exact h
  · cases hx

theorem VR.plain {v u : V} (h : VR ρ v u) : u.plain = v.plain := by cases h <;> rfl
theorem VR.one {v u : V} (h : VR ρ v u) : u.one = v.one := by cases h <;> rfl
end
end Jx
end

section
/- Quiet operations: what is run, and what JbB asks. -/
namespace Jx
open Go Jb

def Ans (ρ : Locs) (q : Q) (v : V) : Prop := ∃ u, (q = .ok u ∨ ∃ c, q = .chk c u ∧ c) ∧ VR ρ v u

theorem Ans.ok {ρ : Locs} {v u : V} (h : VR ρ v u) : Ans ρ (.ok u) v := ⟨u, .inl rfl, h⟩
theorem Ans.chk {ρ : Locs} {v u : V} {c : Prop} (hc : c) (h : VR ρ v u) : Ans ρ (.chk c u) v := ⟨u, .inr ⟨c, rfl, hc⟩, h⟩

def ObX (ρ : Locs) (L : Loc) (xb : Xb) (o : Ob) : Prop :=
  match xb with
  | .cells cs => ∃ cs', o = .cells cs' ∧ L.d + cs.length ≤ cs'.length ∧ L.e ≤ cs'.length ∧ VL ρ cs ((cs'.drop L.d).take cs.length)
  | .loop st ps tm n asg body => ∃ tm', o = .obj (.loop st ps tm' asg body) ∧ tm'.length = n ∧ ∀ t v, tm.get t = some v → ∃ u, tm'[t]? = some u ∧ VR ρ v u
  | .map es => ∃ es', o = .obj (.map es') ∧ es'.length = es.length ∧ ∀ (i : Nat) (a b : V) (c d : V), es[i]? = some (a, b) → es'[i]? = some (c, d) → VR ρ a c ∧ VR ρ b d

structure HX (ρ : Locs) (H : T Xb) (nx : Nat) (h : Heap) : Prop where
  pos : 0 < nx
  zero : ρ 0 = none
  fresh : ∀ k, nx ≤ k → ρ k = none ∧ H.get k = none
  at_ : ∀ k xb, H.get k = some xb → ∃ L o, ρ k = some L ∧ h L.l = some o ∧ ObX ρ L xb o
  inj : ∀ k j xb yb L M, H.get k = some xb → H.get j = some yb → ρ k = some L → ρ j = some M → L.l = M.l → k = j

structure FX (ρ : Locs) (tm : T V) (n : Nat) (fr : Fr) : Prop where
  len : fr.tm.length = n
  lc : fr.lc = []
  at_ : ∀ t v, tm.get t = some v → ∃ u, fr.tm[t]? = some u ∧ VR ρ v u

section
variable {P : Program} {ρ : Locs} {H : T Xb} {nx : Nat} {h : Heap}

theorem HX.cells (X : HX ρ H nx h) {k : Nat} {cs : List V} (hk : cellsX H k = some cs) : ∃ L, ρ k = some L ∧ h L.l = some (.cells (cellsAt h L.l)) ∧ L.d + cs.length ≤ (cellsAt h L.l).length ∧ L.e ≤ (cellsAt h L.l).length ∧
    VL ρ cs (((cellsAt h L.l).drop L.d).take cs.length) ∧ H.get k = some (.cells cs) := by
  unfold cellsX at hk
  split at hk
  · rename_i cs' e
    cases hk
    obtain ⟨L, o, h1, h2, cs', rfl, h3, h4, h5⟩ := X.at_ k _ e
    have : cellsAt h L.l = cs' := by simp [cellsAt, h2]
    exact ⟨L, h1, by rw [this]; exact h2, by rw [this]; exact h3, by rw [this]; exact h4, by rw [this]; exact h5, e⟩
  · cases hk

theorem part_get {cs cs' : List V} {d : Nat} (h : VL ρ cs ((cs'.drop d).take cs.length)) {i : Nat} {v : V} (hv : cs[i]? = some v) : ∃ u, cs'[d + i]? = some u ∧ VR ρ v u := by
  obtain ⟨u, hu, hr⟩ := h.get hv
  rw [List.getElem?_take] at hu
  split at hu
  · rw [List.getElem?_drop] at hu; exact ⟨u, hu, hr⟩
  · cases hu

theorem pl_sound {v u r : V} (hv : VR ρ v u) (hr : (match v.plain with | true => some v | false => none) = some r) (c : Prop) (hc : c) : Ans ρ (.chk (c ∧ u.plain = true) u.deLp) r := by
  split at hr
  · rename_i hp
    cases hr
    have hp' : u.plain = true := by rw [hv.plain]; exact hp
    rw [deLp_same hp']
    exact .chk ⟨hc, hp'⟩ hv
  · cases hr

theorem sh_sound {t : TypeId} {v u r : V} (hv : VR ρ v u) (hr : shX P t v = some r) (c : Prop) (hc : c) : Ans ρ (shV P 2 t c u) r := by
  revert hr
  unfold shX shV
  cases P.underlying t with
  | none => exact fun hr => pl_sound hv hr c hc
  | some d =>
    cases d
    case bool =>
      simp only
      intro hr
      split at hr
      · cases hr; cases hv; exact .chk ⟨hc, rfl⟩ (.bool _)
      · cases hr
    case int k =>
      simp only
      intro hr
      split at hr
      · rename_i k' n
        split at hr
        · rename_i he
          cases hr
          cases hv
          have := kindEq_eq he
          subst this
          exact .chk ⟨hc, he⟩ (.int _ _)
        · cases hr
      · rename_i t' k' n
        split at hr
        · rename_i hu he
          cases hr
          have := kindEq_eq he
          subst this
          cases hv with
          | iface _ _ _ ht => rw [hu] at ht; cases ht
          | num _ _ _ m ht h => exact .chk ⟨hc, he⟩ (.num _ _ _ _ ht h)
        · cases hr
      · cases hr
    case string =>
      simp only
      intro hr
      split at hr
      · cases hr; cases hv; exact .chk ⟨hc, rfl⟩ (.str _)
      · cases hr
    case slice e =>
      simp only
      intro hr
      split at hr
      · rename_i es l g
        split at hr
        · rename_i he
          cases hr
          obtain ⟨l', rfl, hl, hg⟩ := hv.sl_inv
          refine .chk ⟨hc, ?_⟩ (.ofVLL hg hl)
          simp [V.isSl, Nat.eq_of_beq_eq_true he]
        · cases hr
      · rename_i es l o n c'
        split at hr
        · rename_i he
          cases hr
          have : ∃ l' o' n' c'', u = .sref es l' o' n' c'' := by cases hv <;> exact ⟨_, _, _, _, rfl⟩
          obtain ⟨l', o', n', c'', rfl⟩ := this
          refine .chk ⟨hc, ?_⟩ hv
          simp only [V.isSl, V.isRef, he, Bool.or_true]
        · cases hr
      · rename_i t' es l o n c'
        split at hr
        · rename_i hu he
          cases hr
          cases hv with
          | iface _ _ _ ht => rw [hu] at ht; cases ht
          | some_ _ _ _ _ _ _ l' g ht h hn =>
            refine .chk ⟨hc, ?_⟩ (.some_ _ _ _ _ _ _ l' g ht h hn)
            simp [V.isSl, Nat.eq_of_beq_eq_true he]
        · cases hr
      · cases hr
    case struct => exact fun hr => by cases hr
    case array => exact fun hr => by cases hr
    all_goals exact fun hr => pl_sound hv hr c hc

theorem rd_sound {t : TypeId} {cs cs' : List V} {off off' : Nat} {r : V} (hl : ∀ (i : Nat) (v : V), cs[off + i]? = some v → ∃ u, cs'[off' + i]? = some u ∧ VR ρ v u) (hlen : ∀ n, off + n ≤ cs.length → off' + n ≤ cs'.length)
    (hr : rdX P t cs off = some r) : Ans ρ (rdQ P 2 t cs' off') r := by
  revert hr
  unfold rdX rdQ
  cases okT P t <;> cases (P.underlying t).isSome <;> cases aggT P t <;> simp only <;> intro hr <;> try cases hr
  · split at hr
    · rename_i v hv
      obtain ⟨u, hu, hvu⟩ := hl 0 v (by simpa using hv)
      have hu' : cs'[off']? = some u := by simpa using hu
      have : cs'.getD off' .undef = u := by simp [List.getD, hu']
      rw [this]
      exact sh_sound hvu hr _ (List.getElem?_eq_some_iff.1 hu').1
    · cases hr
  · split at hr
    · rename_i hb
      cases hr
      have hb := Nat.le_of_ble_eq_true hb
      have hb' := hlen _ hb
      refine .chk hb' (.agg _ _ (by simp; omega) fun i v u hv hu => ?_)
      rw [List.getElem?_take] at hv hu
      split at hv
      · rename_i hi
        rw [if_pos hi] at hu
        rw [List.getElem?_drop] at hv hu
        obtain ⟨u', hu', hr'⟩ := hl i v hv
        rw [hu] at hu'
        cases hu'
        exact hr'
      · cases hv
    · cases hr

theorem load_sound (X : HX ρ H nx h) {fr : Fr} {t : TypeId} {v u r : V} (hv : VR ρ v u) (hr : loadX P H t v = some r) : Ans ρ (loadQ P 2 fr h t u) r := by
  cases hv <;> simp only [loadX] at hr <;> try cases hr
  · rename_i k off L hk
    split at hr
    · rename_i cs hcs
      obtain ⟨M, h1, h2, h3, _, h5, _⟩ := X.cells hcs
      rw [hk] at h1
      cases h1
      refine rd_sound (fun i v hv => ?_) (fun n hn => by omega) hr
      obtain ⟨u, hu, hr'⟩ := part_get h5 hv
      exact ⟨u, by rw [show off + L.d + i = L.d + (off + i) from by omega]; exact hu, hr'⟩
    · cases hr
  · rename_i cs cs' off hl hh
    exact rd_sound (fun i v hv => VL.get ⟨hl, hh⟩ hv) (fun n hn => by omega) hr

theorem nil_sound {v u r : V} (hv : VR ρ v u) (hr : nilX v = some r) : Ans ρ (nilQ u) r := by
  cases hv <;> simp only [nilX] at hr <;> try cases hr
  · exact .ok (.ptr _ _ _ (by assumption))
  · exact .ok (.cptr _ _ _ (by assumption) (by assumption))
  · exact .ok (.fn _ _ _ _ _ (by assumption) (by assumption) (by assumption) (by assumption))

theorem moved_sound {n : Nat} {v u r : V} (hv : VR ρ v u) (hr : movedX n v = some r) : Ans ρ (moved n u) r := by
  cases hv <;> simp only [movedX] at hr <;> try cases hr
  · rename_i k off L hk
    have := VR.ptr (ρ := ρ) k (off + n) L hk
    rw [show off + n + L.d = off + L.d + n from by omega] at this
    exact .ok this
  · exact .ok (.cptr _ _ _ (by assumption) (by assumption))

theorem fieldAddr_sound {s : TypeId} {f : Nat} {v u r : V} (hv : VR ρ v u) (hr : fieldAddrX P s v f = some r) : Ans ρ (fieldAddrQ P s u f) r := by
  revert hr
  unfold fieldAddrX fieldAddrQ
  cases fieldOf P s f with
  | none => exact fun hr => by cases hr
  | some p =>
    obtain ⟨o, t⟩ := p
    simp only
    cases okT P t <;> cases P.cellsOf t <;> simp only <;> intro hr <;> try cases hr
    exact moved_sound hv hr

theorem inB_iff {n : Int} {len : Nat} (h : inB n len = true) : 0 ≤ n ∧ n < len := by
  unfold inB at h
  split at h
  · rename_i k
    have : k < len := Nat.le_of_ble_eq_true h
    constructor
    · exact Int.natCast_nonneg k
    · exact Int.ofNat_lt.2 this
  · cases h

theorem indexAddr_sound {t : TypeId} {v u i j r : V} (hv : VR ρ v u) (hi : VR ρ i j) (hr : indexAddrX P t v i = some r) : Ans ρ (indexAddrQ P t u j) r := by
  unfold indexAddrX at hr
  split at hr
  case h_2 => cases hr
  rename_i k n
  cases hi
  unfold indexAddrQ
  simp only
  cases hu : P.underlying t with
  | none => rw [hu] at hr; cases hr
  | some d =>
    rw [hu] at hr
    cases d <;> simp only at hr ⊢ <;> try cases hr
    · -- a slice
      rename_i e
      cases hk : okT P e with
      | false => rw [hk] at hr; simp at hr
      | true =>
        rw [hk] at hr
        simp only at hr ⊢
        split at hr
        · rename_i es l g _
          obtain ⟨l', rfl, hl, hg⟩ := hv.sl_inv
          split at hr
          · rename_i he hn
            cases hr
            have he := Nat.eq_of_beq_eq_true he
            obtain ⟨n1, n2⟩ := inB_iff hn
            simp only [he, beq_self_eq_true]
            refine .chk ⟨n1, by rw [hl.1]; exact n2⟩ ?_
            have hlt : n.toNat < l.length := by omega
            have hlt' : n.toNat < l'.length := by rw [hl.1]; exact hlt
            have := hl.2 n.toNat _ _ (List.getElem?_eq_getElem hlt) (List.getElem?_eq_getElem hlt')
            simp only [List.getD, List.getElem?_eq_getElem hlt, List.getElem?_eq_getElem hlt', Option.getD_some]
            exact .cptr _ _ _ this.1 this.2
          · cases hr
        · rename_i es l off len c _
          split at hr
          · rename_i he hn
            cases hr
            have he := Nat.eq_of_beq_eq_true he
            obtain ⟨n1, n2⟩ := inB_iff hn
            have key : ∀ (L : Loc) (c' : Nat), ρ l = some L → Ans ρ (match es == P.cellsOf e with | true => .chk (0 ≤ n ∧ n < len) (.ptr L.l (off + L.d + n.toNat * es)) | false => .bad) (.ptr l (off + n.toNat * es)) := by
              intro L c' hL
              simp only [he, beq_self_eq_true]
              have := VR.ptr (ρ := ρ) l (off + n.toNat * P.cellsOf e) L hL
              rw [show off + n.toNat * P.cellsOf e + L.d = off + L.d + n.toNat * P.cellsOf e from by omega] at this
              exact .chk ⟨n1, n2⟩ this
            cases hv with
            | exact _ _ _ _ _ L hL _ => exact key L 0 hL
            | grown _ _ _ _ _ _ L hL _ _ _ _ => exact key L 0 hL
            | none => simp at n2; omega
          · cases hr
        · cases hr
    · -- an array
      rename_i len e
      split at hr
      · rename_i hk hn
        rw [hk]
        obtain ⟨n1, n2⟩ := inB_iff hn
        simp only
        split at hr
        · rename_i l off
          cases hr
          cases hv with
          | ptr _ _ L hL =>
            have := VR.ptr (ρ := ρ) l (off + n.toNat * P.cellsOf e) L hL
            rw [show off + n.toNat * P.cellsOf e + L.d = off + L.d + n.toNat * P.cellsOf e from by omega] at this
            exact .chk ⟨n1, n2⟩ this
        · cases hr
          obtain ⟨cs', rfl, hc⟩ := hv.cptr_inv
          exact .chk ⟨n1, n2⟩ (.cptr _ _ _ hc.1 hc.2)
        · cases hr
      · cases hr

theorem field_sound {t : TypeId} {f : Nat} {v u r : V} (hv : VR ρ v u) (hr : fieldX P t v f = some r) : Ans ρ (fieldQ P 2 t u f) r := by
  unfold fieldX at hr
  unfold fieldQ
  split at hr
  · rename_i o ft cs e
    rw [e]
    obtain ⟨cs', rfl, hc⟩ := hv.agg_inv
    exact rd_sound (fun i v hv => hc.get hv) (fun n hn => by have := hc.1; omega) hr
  · cases hr

theorem also_sound {q : Q} {c : Prop} {v : V} (hc : c) (h : Ans ρ q v) : Ans ρ (q.also c) v := by
  obtain ⟨u, h1 | ⟨d, h1, hd⟩, h2⟩ := h
  · subst h1; exact .chk hc h2
  · subst h1; exact .chk ⟨hc, hd⟩ h2

theorem index_sound {t : TypeId} {v u i j r : V} (hv : VR ρ v u) (hi : VR ρ i j) (hr : indexX P t v i = some r) : Ans ρ (indexQ P 2 t u j) r := by
  unfold indexX at hr
  split at hr
  case h_2 => cases hr
  rename_i k n
  cases hi
  unfold indexQ
  simp only
  cases hu : P.underlying t with
  | none => rw [hu] at hr; cases hr
  | some d =>
    rw [hu] at hr
    cases d <;> simp only at hr ⊢ <;> try cases hr
    · split at hr
      · rename_i s
        cases hv
        simp only at hr ⊢
        split at hr
        · rename_i hn
          cases hr
          exact .chk (inB_iff hn) (.int _ _)
        · cases hr
      · cases hr
    · split at hr
      · rename_i cs hn
        obtain ⟨cs', rfl, hc⟩ := hv.agg_inv
        exact also_sound (inB_iff hn) (rd_sound (fun i v hv => hc.get hv) (fun n hn => by have := hc.1; omega) hr)
      · cases hr
theorem qV_sound {q : Q} {v : V} (h : qV q = some v) : q = .ok v := by
  unfold qV at h
  split at h
  · cases h; rfl
  · cases h

theorem intX_ans {op : BinOp} {k : IntKind} {a b : Int} {r : V} (hr : intX op k a b = some r) : Ans ρ (intQ op k a b) r := by
  have key : ∀ r, qV (intQ op k a b) = some r → Ans ρ (intQ op k a b) r := by
    intro r h
    have e := qV_sound h
    cases op <;> simp only [intQ] at e ⊢ <;> first | (cases e; exact .ok (.int _ _)) | (cases e; exact .ok (.bool _)) | cases e
  unfold intX at hr
  split at hr
  · split at hr
    · cases hr
    · rename_i hd
      cases hr
      exact .chk (by simpa using hd) (.int _ _)
  · split at hr
    · cases hr
    · rename_i hd
      cases hr
      exact .chk (by simpa using hd) (.int _ _)
  · exact key r hr

theorem shift_sound {op : BinOp} {k : IntKind} {a b : Int} {r : V} (hr : shiftX op k a b = some r) : Ans ρ (shiftQ op k a b) r := by
  unfold shiftX at hr
  split at hr
  · rename_i hd
    have hd : 0 ≤ b := by simpa using hd
    split at hr
    · cases hr; exact .chk hd (.int _ _)
    · cases hr; exact .chk hd (.int _ _)
    · cases hr
  · cases hr

def SyR (ρ : Locs) (a : Sy) (m : Int) : Prop :=
  match a with
  | .lit n => m = n
  | .un n => ρ.num n = some m

theorem sy_sound {x u : V} {k : IntKind} {a : Sy} (h : sy x = some (k, a)) (hv : VR ρ x u) : ∃ m, u = .int k m ∧ SyR ρ a m := by
  unfold sy at h
  split at h
  · cases h; cases hv; exact ⟨_, rfl, rfl⟩
  · split at h
    · rename_i ht
      cases h
      cases hv with
      | iface _ _ _ ht' => rw [ht] at ht'; cases ht'
      | num _ _ _ m _ hm => exact ⟨m, rfl, hm⟩
    · cases h
  · cases h

theorem SyR.bounds {a : Sy} {m : Int} (h : SyR ρ a m) : a.lo ≤ m ∧ ∀ x, a.hi = some x → m ≤ x := by
  cases a with
  | lit n => cases h; exact ⟨Int.le_refl _, fun x e => by cases e; exact Int.le_refl _⟩
  | un n => exact ρ.rng n m h

theorem below_sound {a : Option Int} {b m : Int} (h : below a b = true) (hm : ∀ x, a = some x → m ≤ x) : m < b := by
  cases a with
  | none => cases h
  | some x => have := hm x rfl; simp [below] at h; omega
theorem upto_sound {a : Option Int} {b m : Int} (h : upto a b = true) (hm : ∀ x, a = some x → m ≤ x) : m ≤ b := by
  cases a with
  | none => cases h
  | some x => have := hm x rfl; simp [upto] at h; omega

theorem SyR.same {a b : Sy} {m n : Int} (h : SyR ρ a m) (g : SyR ρ b n) (e : a.same b = true) : m = n := by
  cases a <;> cases b <;> simp only [Sy.same] at e <;> try cases e
  · have := eq_of_beq e; subst this; cases h; cases g; rfl
  · rename_i k _
    have := eq_of_beq e
    subst this
    have h : ρ.num k = some m := h
    have g : ρ.num k = some n := g
    rw [h] at g
    cases g
    rfl

theorem ltS_sound {a b : Sy} {m n : Int} {r : Bool} (h : SyR ρ a m) (g : SyR ρ b n) (e : ltS a b = some r) : decide (m < n) = r := by
  have h1 := h.bounds
  have h2 := g.bounds
  unfold ltS at e
  split at e
  · rename_i hd; cases e; have := below_sound hd h1.2; simp; omega
  · split at e
    · rename_i hd; cases e; have := upto_sound hd h2.2; simp; omega
    · cases e

theorem eqS_sound {a b : Sy} {m n : Int} {r : Bool} (h : SyR ρ a m) (g : SyR ρ b n) (e : eqS a b = some r) : (m == n) = r := by
  have h1 := h.bounds
  have h2 := g.bounds
  unfold eqS at e
  split at e
  · rename_i hs; cases e; rw [h.same g hs]; simp
  · split at e
    · rename_i hd
      cases e
      have : m ≠ n := by
        rcases Bool.or_eq_true_iff.1 hd with hd | hd
        · have := below_sound hd h1.2; omega
        · have := below_sound hd h2.2; omega
      simpa using this
    · cases e

theorem boolO_some {b : Option Bool} {r : V} (h : boolO b = some r) : ∃ x, b = some x ∧ r = .bool x := by
  cases b with
  | none => cases h
  | some x => cases h; exact ⟨x, rfl, rfl⟩
theorem notO_some {b : Option Bool} {x : Bool} (h : notO b = some x) : b = some (!x) := by
  cases b with
  | none => cases h
  | some y => cases h; simp

theorem sym_sound {op : BinOp} {t : TypeId} {x y u v r : V} (hx : VR ρ x u) (hy : VR ρ y v) (hr : symX op x y = some r) : Ans ρ (binQ P op t u v) r := by
  unfold symX at hr
  split at hr
  · rename_i k a k' b ha hb
    obtain ⟨m, rfl, hm⟩ := sy_sound ha hx
    obtain ⟨n, rfl, hn⟩ := sy_sound hb hy
    split at hr
    · rename_i hk
      unfold binQ
      simp only
      split at hr
      · obtain ⟨b', h1, rfl⟩ := boolO_some hr
        have := eqS_sound hm hn h1
        simp only [hk, intQ]
        rw [this]
        exact .ok (.bool _)
      · obtain ⟨b', h1, rfl⟩ := boolO_some hr
        have := eqS_sound hm hn (notO_some h1)
        have : (m != n) = b' := by rw [bne, this]; simp
        simp only [hk, intQ]
        rw [this]
        exact .ok (.bool _)
      · obtain ⟨b', h1, rfl⟩ := boolO_some hr
        have := ltS_sound hm hn h1
        simp only [hk, intQ]
        rw [this]
        exact .ok (.bool _)
      · obtain ⟨b', h1, rfl⟩ := boolO_some hr
        have := ltS_sound hm hn (notO_some h1)
        have : decide (n ≤ m) = b' := by cases b' <;> simp at this ⊢ <;> omega
        simp only [hk, intQ]
        rw [this]
        exact .ok (.bool _)
      · obtain ⟨b', h1, rfl⟩ := boolO_some hr
        have := ltS_sound hn hm h1
        simp only [hk, intQ]
        rw [this]
        exact .ok (.bool _)
      · obtain ⟨b', h1, rfl⟩ := boolO_some hr
        have := ltS_sound hn hm (notO_some h1)
        have : decide (m ≤ n) = b' := by cases b' <;> simp at this ⊢ <;> omega
        simp only [hk, intQ]
        rw [this]
        exact .ok (.bool _)
      · cases hr
    · cases hr
  · cases hr

theorem fitsX_sound : ∀ {z cs cs' : List V}, fitsX z cs = true → VL ρ cs cs' → fits z cs' = true
  | [], cs, cs', h, hl => by
    simp only [fitsX] at h
    have : cs = [] := by simpa using h
    subst this
    have : cs' = [] := List.length_eq_zero_iff.1 (by simpa using hl.1)
    subst this
    rfl
  | z :: zs, [], _, h, _ => by simp [fitsX] at h
  | z :: zs, c :: cs, [], _, h => by have := h.1; simp at this
  | z :: zs, c :: cs, c' :: cs', h, hl => by
    obtain ⟨h1, h2⟩ := hl.tail
    simp only [fitsX, Bool.and_eq_true] at h
    have ih := fitsX_sound h.2 h2
    have hk := h.1
    split at hk
    · cases h1; exact ih
    · cases h1; exact ih
    · rename_i k n v
      split at hk
      · rename_i k' a hs
        obtain ⟨m, rfl, _⟩ := sy_sound hs h1
        simp only [fits, hk, ih, Bool.and_self]
      · cases hk
    · cases hk

theorem eqC_sound {a b a' b' : V} {r : Bool} (ha : VR ρ a a') (hb : VR ρ b b') (h : eqC a b = some r) : eqlCell a' b' = r := by
  unfold eqC at h
  split at h
  · cases ha; cases hb; cases h; rfl
  · cases ha; cases hb; cases h; rfl
  · split at h
    · rename_i h1 h2
      obtain ⟨m, rfl, hm⟩ := sy_sound h1 ha
      obtain ⟨n, rfl, hn⟩ := sy_sound h2 hb
      exact eqS_sound hm hn h
    · cases h

theorem eqCs_sound : ∀ {cs ds cs' ds' : List V} {r : Bool}, VL ρ cs cs' → VL ρ ds ds' → eqCs cs ds = some r → eqlCells cs' ds' = r
  | [], ds, cs', ds', r, hc, hd, h => by
    have : cs' = [] := List.length_eq_zero_iff.1 (by simpa using hc.1)
    subst this
    simp only [eqCs] at h
    cases h
    cases ds with
    | nil =>
      have : ds' = [] := List.length_eq_zero_iff.1 (by simpa using hd.1)
      subst this
      rfl
    | cons d ds =>
      cases ds' with
      | nil => have := hd.1; simp at this
      | cons => rfl
  | a :: cs, ds, [], ds', r, hc, _, _ => by have := hc.1; simp at this
  | a :: cs, [], a' :: cs', ds', r, hc, hd, h => by
    have : ds' = [] := List.length_eq_zero_iff.1 (by simpa using hd.1)
    subst this
    simp only [eqCs] at h
    cases h
    rfl
  | a :: cs, d :: ds, a' :: cs', [], r, hc, hd, h => by have := hd.1; simp at this
  | a :: cs, d :: ds, a' :: cs', d' :: ds', r, hc, hd, h => by
    obtain ⟨c1, c2⟩ := hc.tail
    obtain ⟨d1, d2⟩ := hd.tail
    simp only [eqCs] at h
    simp only [eqlCells]
    split at h
    · rename_i he
      rw [eqC_sound c1 d1 he, eqCs_sound c2 d2 h]
      rfl
    · rename_i he
      cases h
      rw [eqC_sound c1 d1 he]
      rfl
    · cases h

theorem str_sound {op : BinOp} {a b : ByteArray} {r : V} (hr : strX op a b = some r) : Ans ρ (strQ op a b) r := by
  unfold strX at hr
  split at hr
  · cases hr; exact .ok (.bool _)
  · cases hr; exact .ok (.bool _)
  · split at hr
    · rename_i hb
      cases hr
      have : (⟨(a.data.toList ++ b.data.toList).toArray⟩ : ByteArray) = a ++ b := by
        apply ByteArray.ext
        simp
      rw [this]
      exact .chk (Nat.le_of_ble_eq_true hb) (.str _)
    · cases hr
  · cases hr

theorem eqlQ_l (no : Bool) (t : TypeId) (v : V) : eqlQ P no t .nilp v = (match ptrT P t, nilEql .nilp v with | true, some b => .ok (.bool (neg no b)) | _, _ => .bad) := by cases v <;> rfl
theorem eqlQ_r (no : Bool) (t : TypeId) (v : V) : eqlQ P no t v .nilp = (match ptrT P t, nilEql v .nilp with | true, some b => .ok (.bool (neg no b)) | _, _ => .bad) := by cases v <;> rfl

theorem eql_sound {no : Bool} {t : TypeId} {x y u v r : V} (hx : VR ρ x u) (hy : VR ρ y v) (nx : isUnk x = false) (ny : isUnk y = false) (hr : eqlX P no t x y = some r) : Ans ρ (eqlQ P no t u v) r := by
  have key : ∀ r, qV (eqlQ P no t x y) = some r → Ans ρ (eqlQ P no t u v) r := by
    intro r h
    have e := qV_sound h
    unfold eqlQ at e
    split at e
    · split at e
      · rename_i h1; cases e; cases hx; cases hy; simp only [eqlQ, h1]; exact .ok (.bool _)
      · cases e
    · split at e
      · rename_i h1; cases e; cases hx; cases hy <;> (simp only [eqlQ, h1]; exact .ok (.bool _))
      · cases e
    · split at e
      · rename_i h1; cases e; cases hy; cases hx <;> (simp only [eqlQ, h1]; exact .ok (.bool _))
      · cases e
    · split at e
      · rename_i h1; cases e; cases hx; cases hy; simp only [eqlQ, h1]; exact .ok (.bool _)
      · cases e
    · split at e
      · rename_i r' h1 h2
        cases e
        cases hx
        have h3 : nilEql .nilp v = some r' := by rw [← h2]; cases hy <;> rfl
        rw [eqlQ_l, h1, h3]
        exact .ok (.bool _)
      · cases e
    · split at e
      · rename_i r' h1 h2
        cases e
        cases hy
        have h3 : nilEql u .nilp = some r' := by rw [← h2]; cases hx <;> rfl
        rw [eqlQ_r, h1, h3]
        exact .ok (.bool _)
      · cases e
    · split at e
      · rename_i h1
        cases e
        cases hx
        cases hy with
        | iface => simp only [eqlQ, h1]; exact .ok (.bool _)
        | num _ _ _ _ ht => simp [isUnk, ht] at ny
        | some_ _ _ _ _ _ _ _ _ ht => simp [isUnk, ht] at ny
      · cases e
    · split at e
      · rename_i h1
        cases e
        cases hy
        cases hx with
        | iface => simp only [eqlQ, h1]; exact .ok (.bool _)
        | num _ _ _ _ ht => simp [isUnk, ht] at nx
        | some_ _ _ _ _ _ _ _ _ ht => simp [isUnk, ht] at nx
      · cases e
    · split at e <;> cases e
    · split at e
      · rename_i h1; cases e; cases hy; cases hx <;> (simp only [eqlQ, h1]; exact .ok (.bool _))
      · cases e
    · split at e
      · rename_i h1; cases e; cases hx; cases hy; simp only [eqlQ, h1]; exact .ok (.bool _)
      · cases e
    · cases e
  unfold eqlX at hr
  split at hr
  · rename_i cs ds
    obtain ⟨cs', rfl, hc⟩ := hx.agg_inv
    obtain ⟨ds', rfl, hd⟩ := hy.agg_inv
    split at hr
    · rename_i z ha hz
      split at hr
      · rename_i b hf hb
        simp only [Bool.and_eq_true] at hf
        cases hr
        simp only [eqlQ, ha, hz]
        rw [eqCs_sound hc hd hb]
        exact .chk ⟨fitsX_sound hf.1 hc, fitsX_sound hf.2 hd⟩ (.bool _)
      · cases hr
    · cases hr
  · exact key r hr

theorem bin_sound {op : BinOp} {t : TypeId} {x y u v r : V} (hx : VR ρ x u) (hy : VR ρ y v) (hr : binX P op t x y = some r) : Ans ρ (binQ P op t u v) r := by
  unfold binX at hr
  split at hr
  · exact sym_sound hx hy hr
  rename_i hun
  simp only [Bool.or_eq_false_iff] at hun
  split at hr
  · cases hx; cases hy; exact str_sound hr
  · rename_i k a k' b
    cases hx
    cases hy
    unfold binQ
    simp only
    cases op <;> simp only at hr ⊢ <;> first
      | exact shift_sound hr
      | (split at hr
         · rename_i hk; simp only [hk]; exact intX_ans hr
         · cases hr)
  · rename_i h1 h2
    unfold binQ
    split
    · cases hx; cases hy; exact (h1 _ _ rfl rfl).elim
    · cases hx with
      | num _ _ _ _ ht => simp [isUnk, ht] at hun
      | int => cases hy with
        | num _ _ _ _ ht => simp [isUnk, ht] at hun
        | int => exact (h2 _ _ _ _ rfl rfl).elim
    · split at hr
      · exact eql_sound hx hy hun.1 hun.2 hr
      · exact eql_sound hx hy hun.1 hun.2 hr
      · cases hr

theorem binn_sound {op : BinOp} {t : TypeId} {x y : Operand} {a b u v r : V} (hx : VR ρ a u) (hy : VR ρ b v) (hr : binXn P op t x y a b = some r) : Ans ρ (binQn P op t x y u v) r := by
  unfold binXn at hr
  split at hr
  · rename_i hc
    cases hx
    cases hy
    unfold binQn
    simp only [hc]
    unfold nilNilQ at hr ⊢
    split at hr <;> simp only [qV] at hr
    · cases hr; exact .ok (.bool _)
    · cases hr; exact .ok (.bool _)
    · cases hr
  · rename_i hno
    unfold binQn
    split
    · rename_i hc
      cases hx with
      | nilif => cases hy with
        | nilif => exact (hno hc rfl rfl).elim
    · exact bin_sound hx hy hr


theorem un_sound {op : UnOp} {v u r : V} (hv : VR ρ v u) (hr : qV (unQ op v) = some r) : Ans ρ (unQ op u) r := by
  have e := qV_sound hr
  cases hv <;> simp only [unQ] at e ⊢ <;> try cases e
  · cases op <;> simp only at e ⊢ <;> cases e; exact .ok (.bool _)
  · cases op <;> simp only at e ⊢ <;> cases e <;> exact .ok (.int _ _)

theorem cellsOf_sound {n : Nat} {v u : V} {new : List V} (hv : VR ρ v u) (hr : cellsOfX n v = some new) : ∃ new' c, cellsQ n u = some (new', c) ∧ c ∧ VL ρ new new' ∧ new.length = n := by
  unfold cellsOfX at hr
  split at hr
  · rename_i cs
    split at hr
    · rename_i hb
      cases hr
      obtain ⟨cs', rfl, hc⟩ := hv.agg_inv
      have := Nat.eq_of_beq_eq_true hb
      exact ⟨cs', _, rfl, by rw [hc.1]; exact this, hc, this⟩
    · cases hr
  · rename_i hna
    split at hr
    · rename_i ho
      cases hr
      have ho' : u.one = true := by rw [hv.one]; exact ho
      refine ⟨[u], True, ?_, trivial, .cons hv .nil, rfl⟩
      cases u <;> first | (simp [V.one] at ho'; done) | rfl
    · cases hr

theorem lay_sound {place : Nat → Option (Nat × Nat)} {n : Nat} : ∀ {parts parts' : List (Nat × V)} {cs cs' r : List V}, parts'.length = parts.length →
    (∀ (i : Nat) (p q : Nat × V), parts[i]? = some p → parts'[i]? = some q → q.1 = p.1 ∧ VR ρ p.2 q.2) → VL ρ cs cs' → layX place n cs parts = some r → ∃ r' c, layQ place n cs' parts' = some (r', c) ∧ c ∧ VL ρ r r'
  | [], parts', cs, cs', r, hl, _, hc, hr => by
    have : parts' = [] := List.length_eq_zero_iff.1 (by simpa using hl)
    subst this
    simp only [layX] at hr
    cases hr
    exact ⟨cs', True, rfl, trivial, hc⟩
  | (i, v) :: ps, [], cs, cs', r, hl, _, _, _ => by simp at hl
  | (i, v) :: ps, (i', u) :: qs, cs, cs', r, hl, hp, hc, hr => by
    obtain ⟨e, hvu⟩ := hp 0 _ _ rfl rfl
    simp only at e hvu
    subst e
    simp only [layX] at hr
    simp only [layQ]
    split at hr
    · cases hr
    · rename_i off size hpl
      rw [hpl]
      simp only
      split at hr
      · rename_i new hb hnew
        obtain ⟨new', c, h1, h2, h3, _⟩ := cellsOf_sound hvu hnew
        have hb := Nat.le_of_ble_eq_true hb
        rw [h1]
        simp only [hb, decide_true]
        obtain ⟨r', c', g1, g2, g3⟩ := lay_sound (parts := ps) (parts' := qs) (by simpa using hl) (fun j p q h1 h2 => hp (j + 1) p q (by simpa using h1) (by simpa using h2))
          (((hc.take off).append h3).append (hc.drop (off + size))) hr
        rw [g1]
        exact ⟨r', _, rfl, ⟨h2, g2⟩, g3⟩
      · cases hr

theorem zero_refl : ∀ (cs : List V), (∀ v ∈ cs, VR ρ v v) → VL ρ cs cs := fun cs h => ⟨rfl, fun i v u hv hu => by
  rw [hv] at hu; cases hu; exact h v (List.mem_of_getElem? hv)⟩

theorem zeroIs_refl {v : V} {x : Value} (h : zeroIs v x = true) : VR ρ v v := by
  unfold zeroIs at h
  split at h
  · exact .bool _
  · exact .int _ _
  · exact .str _
  · exact .nilp
  · exact .ofVLL (by simp) .nil
  · exact .nilmap
  · exact .nilfn
  · exact .nilif
  · cases h

theorem zeroAll_refl : ∀ {cs : List V} {xs : List Value}, zeroAll cs xs = true → ∀ v ∈ cs, VR ρ v v
  | [], _, _, v, hv => by cases hv
  | c :: cs, [], h, _, _ => by simp [zeroAll] at h
  | c :: cs, x :: xs, h, v, hv => by
    simp only [zeroAll, Bool.and_eq_true] at h
    rcases List.mem_cons.1 hv with rfl | hv
    · exact zeroIs_refl h.1
    · exact zeroAll_refl h.2 v hv

theorem zeroV_refl {t : TypeId} {cs : List V} (h : zeroV P t = some cs) : VL ρ cs cs := by
  unfold zeroV at h
  split at h
  · split at h
    · split at h
      · rename_i hb
        cases h
        simp only [Bool.and_eq_true] at hb
        exact zero_refl _ (zeroAll_refl hb.1)
      · cases h
    · cases h
  · cases h

theorem build_sound {t : TypeId} {parts parts' : List (Nat × V)} {r : V} (hl : parts'.length = parts.length) (hp : ∀ (i : Nat) (p q : Nat × V), parts[i]? = some p → parts'[i]? = some q → q.1 = p.1 ∧ VR ρ p.2 q.2)
    (hr : buildX P t parts = some r) : Ans ρ (buildQ P t parts') r := by
  unfold buildX at hr
  unfold buildQ
  split at hr
  · rename_i z pl hz hpl
    rw [hz, hpl]
    simp only
    split at hr
    · rename_i cs hc
      cases hr
      obtain ⟨r', c, h1, h2, h3⟩ := lay_sound hl hp (zeroV_refl hz) hc
      rw [h1]
      exact .chk h2 (.agg _ _ h3.1 h3.2)
    · cases hr
  · cases hr

theorem bnd_sound {v : Option V} {u : Option V} {d n : Nat} (h : bndX v d = some n) (hr : ∀ x, v = some x → ∃ y, u = some y ∧ VR ρ x y) (hn : v = none → u = none) : bndI u (d : Int) = some (n : Int) := by
  unfold bndX at h
  split at h
  · cases h; rw [hn rfl]; rfl
  · cases h
    obtain ⟨y, rfl, hy⟩ := hr _ rfl
    cases hy
    rfl
  · cases h

theorem part0_sound {es k off n c : Nat} {lo hi mx lo' hi' mx' : Option V} {u r : V} (hes : 0 < es) (hv : VR ρ (.sref es k off n c) u) (hz : ρ 0 = none)
    (hlo : ∀ x, lo = some x → ∃ y, lo' = some y ∧ VR ρ x y) (hlo0 : lo = none → lo' = none)
    (hhi : ∀ x, hi = some x → ∃ y, hi' = some y ∧ VR ρ x y) (hhi0 : hi = none → hi' = none)
    (hmx : ∀ x, mx = some x → ∃ y, mx' = some y ∧ VR ρ x y) (hmx0 : mx = none → mx' = none)
    (hr : part0X es k off n c lo hi mx = some r) : ∃ l' o' n' c', u = .sref es l' o' n' c' ∧ Ans ρ (sliceR es l' o' c' n' lo' hi' mx') r := by
  unfold part0X at hr
  split at hr
  · -- no max
    rename_i a b ha hb
    have hmx' := hmx0 rfl
    subst hmx'
    split at hr
    case h_2 => cases hr
    rename_i hab
    simp only [Bool.and_eq_true] at hab
    have h1 := Nat.le_of_ble_eq_true hab.1
    have h2 := Nat.le_of_ble_eq_true hab.2
    have ha' := bnd_sound ha hlo hlo0
    have hb' := bnd_sound hb hhi hhi0
    have go : ∀ (l' o' c' : Nat), c / 2 ≤ c' → (∀ o'' n'' c'', o'' = (if c' = a then o' else o' + a * es) → n'' = b - a → c'' = c' - a → VR ρ r (.sref es l' o'' n'' c'')) → Ans ρ (sliceR es l' o' c' n lo' hi' none) r := by
      intro l' o' c' hc hrel
      unfold sliceR
      simp only [Int.natCast_zero] at ha'
      rw [ha', hb']
      simp only [bndI]
      refine .chk ⟨by omega, by omega, by omega, by omega⟩ (hrel _ _ _ ?_ (by omega) (by omega))
      by_cases hca : c' = a
      · subst hca; simp
      · rw [if_neg hca]
        have : ((c' : Int) == (a : Int)) = false := by simp; omega
        rw [this]
        simp
    cases hv with
    | exact _ _ _ _ _ L hL hc =>
      refine ⟨_, _, _, _, rfl, go L.l (off + L.d) (c / 2) (Nat.le_refl _) fun o'' n'' c'' e1 e2 e3 => ?_⟩
      subst e2
      subst e3
      split at hr
      · rename_i g1 g2
        cases hr
        have g1 := Nat.eq_of_beq_eq_true g1
        rw [e1, if_pos g1]
        have := VR.exact es k off (b - a) (c - 2 * a) L hL (by omega)
        rw [show (c - 2 * a) / 2 = c / 2 - a from by omega] at this
        exact this
      · rename_i g1 g2
        have : c % 2 = 1 := hc
        rw [this] at g2
        cases g2
      · rename_i g1
        cases hr
        have g1 := Nat.ne_of_beq_eq_false g1
        rw [e1, if_neg g1]
        have := VR.exact es k (off + a * es) (b - a) (c - 2 * a) L hL (by omega)
        rw [show (c - 2 * a) / 2 = c / 2 - a from by omega, show off + a * es + L.d = off + L.d + a * es from by omega] at this
        exact this
    | grown _ _ _ _ _ c' L hL hc hle he _ =>
      refine ⟨_, _, _, _, rfl, go L.l (off + L.d) c' hle fun o'' n'' c'' e1 e2 e3 => ?_⟩
      subst e2
      subst e3
      split at hr
      · rename_i g1 g2
        rw [hc] at g2
        cases g2
      · rename_i g1 g2
        cases hr
        have g1 := Nat.eq_of_beq_eq_true g1
        have : b - a = 0 := by omega
        rw [this]
        exact VR.none _ _ _ _
      · rename_i g1
        cases hr
        have g1 := Nat.ne_of_beq_eq_false g1
        have hlt : a < c' := by omega
        rw [e1, if_neg (by omega)]
        have := VR.grown es k (off + a * es) (b - a) (c - 2 * a) (c' - a) L hL (by omega) (by omega) (by
          have : a * es + (c' - a) * es = c' * es := by rw [← Nat.add_mul]; congr 1; omega
          omega) hes
        rw [show off + a * es + L.d = off + L.d + a * es from by omega] at this
        exact this
    | none _ l' o' c' =>
      have hb0 : b = 0 := by omega
      have ha0 : a = 0 := by omega
      subst hb0
      subst ha0
      refine ⟨_, _, _, _, rfl, go l' o' c' (Nat.zero_le _) fun o'' n'' c'' e1 e2 e3 => ?_⟩
      subst e2
      simp only [Nat.zero_div, Nat.zero_mod] at hr
      cases hr
      exact .none _ _ _ _
  · -- a max
    rename_i a b m ha hb
    split at hr
    case h_2 => cases hr
    rename_i d vhi hd
    split at hr
    case h_2 => cases hr
    rename_i hab
    simp only [Bool.and_eq_true] at hab
    obtain ⟨⟨⟨h1, h2⟩, h3⟩, h4⟩ := hab
    have h1 := Nat.le_of_ble_eq_true h1
    have h2 := Nat.le_of_ble_eq_true h2
    have h3 := Nat.le_of_ble_eq_true h3
    have h4 : 0 < k := Nat.le_of_ble_eq_true h4
    cases hr
    have ha' := bnd_sound ha hlo hlo0
    have hb' := bnd_sound hb hhi hhi0
    obtain ⟨m', rfl, hm'⟩ := hmx m rfl
    obtain ⟨vh', rfl, _⟩ := hhi vhi rfl
    have hd' := bnd_sound (d := 0) (u := some m') hd (fun x hx => by cases hx; exact ⟨m', rfl, hm'⟩) (fun h => by cases h)
    have go : ∀ (l' o' c' : Nat), c / 2 ≤ c' → (∀ o'', o'' = (if d = a then o' else o' + a * es) → VR ρ (.sref es k (match Nat.beq d a with | true => off | false => off + a * es) (b - a) (2 * (d - a) + 1)) (.sref es l' o'' (b - a) (d - a))) → Ans ρ (sliceR es l' o' c' n lo' (some vh') (some m')) (.sref es k (match Nat.beq d a with | true => off | false => off + a * es) (b - a) (2 * (d - a) + 1)) := by
      intro l' o' c' hc hrel
      unfold sliceR
      simp only [Int.natCast_zero] at ha'
      have hd'' : bndI (some m') (c' : Int) = some (d : Int) := by
        cases m' <;> first | exact hd' | cases hd'
      rw [ha', hb', hd'']
      simp only
      have e1 : ((b : Int) - a).toNat = b - a := by omega
      have e2 : ((d : Int) - a).toNat = d - a := by omega
      refine .chk ⟨by omega, by omega, by omega, by omega⟩ ?_
      rw [e1, e2]
      refine hrel _ ?_
      by_cases hda : d = a
      · subst hda; simp
      · rw [if_neg hda]
        have : ((d : Int) == (a : Int)) = false := by simp; omega
        rw [this]
        simp
    have rel : ∀ (L : Loc), ρ k = some L → ∀ o'', o'' = (if d = a then off + L.d else off + L.d + a * es) → VR ρ (.sref es k (match Nat.beq d a with | true => off | false => off + a * es) (b - a) (2 * (d - a) + 1)) (.sref es L.l o'' (b - a) (d - a)) := by
      intro L hL o'' ho
      by_cases hda : d = a
      · subst hda
        rw [if_pos rfl] at ho
        have := VR.exact es k off (b - d) (2 * (d - d) + 1) L hL (by omega)
        rw [ho, Nat.beq_refl]
        simp only
        rw [show (2 * (d - d) + 1) / 2 = d - d from by omega] at this
        exact this
      · rw [if_neg hda] at ho
        have hbf : Nat.beq d a = false := by
          cases hq : Nat.beq d a with
          | true => exact (hda (Nat.eq_of_beq_eq_true hq)).elim
          | false => rfl
        have := VR.exact es k (off + a * es) (b - a) (2 * (d - a) + 1) L hL (by omega)
        rw [ho, hbf]
        simp only
        rw [show (2 * (d - a) + 1) / 2 = d - a from by omega, show off + a * es + L.d = off + L.d + a * es from by omega] at this
        exact this
    cases hv with
    | exact _ _ _ _ _ L hL hc => exact ⟨_, _, _, _, rfl, go L.l (off + L.d) (c / 2) (Nat.le_refl _) (rel L hL)⟩
    | grown _ _ _ _ _ c' L hL hc hle he _ => exact ⟨_, _, _, _, rfl, go L.l (off + L.d) c' hle (rel L hL)⟩
    | none => omega
  · cases hr
theorem part_sound {es k off n c : Nat} {lo hi mx lo' hi' mx' : Option V} {u r : V} (hv : VR ρ (.sref es k off n c) u) (hz : ρ 0 = none)
    (hlo : ∀ x, lo = some x → ∃ y, lo' = some y ∧ VR ρ x y) (hlo0 : lo = none → lo' = none)
    (hhi : ∀ x, hi = some x → ∃ y, hi' = some y ∧ VR ρ x y) (hhi0 : hi = none → hi' = none)
    (hmx : ∀ x, mx = some x → ∃ y, mx' = some y ∧ VR ρ x y) (hmx0 : mx = none → mx' = none)
    (hr : partX es k off n c lo hi mx = some r) : ∃ l' o' n' c', u = .sref es l' o' n' c' ∧ Ans ρ (sliceR es l' o' c' n' lo' hi' mx') r := by
  unfold partX at hr
  split at hr
  · rename_i hb
    exact part0_sound (Nat.le_of_ble_eq_true hb) hv hz hlo hlo0 hhi hhi0 hmx hmx0 hr
  · cases hr

theorem slice_sound {t : TypeId} {v u : V} {lo hi mx lo' hi' mx' : Option V} {r : V} (hv : VR ρ v u) (hz : ρ 0 = none)
    (hlo : ∀ x, lo = some x → ∃ y, lo' = some y ∧ VR ρ x y) (hlo0 : lo = none → lo' = none)
    (hhi : ∀ x, hi = some x → ∃ y, hi' = some y ∧ VR ρ x y) (hhi0 : hi = none → hi' = none)
    (hmx : ∀ x, mx = some x → ∃ y, mx' = some y ∧ VR ρ x y) (hmx0 : mx = none → mx' = none)
    (hr : sliceX P t v lo hi mx = some r) : Ans ρ (sliceQ P t u lo' hi' mx') r := by
  revert hr
  unfold sliceX sliceQ
  cases hu : P.underlying t with
  | none => exact fun hr => by cases hr
  | some d =>
    cases d <;> simp only <;> intro hr <;> try cases hr
    · -- a text
      split at hr
      · rename_i s
        cases hv
        split at hr
        · rename_i a b ha hb
          split at hr
          · rename_i hab
            cases hr
            simp only [Bool.and_eq_true] at hab
            have h1 := Nat.le_of_ble_eq_true hab.1
            have h2 := Nat.le_of_ble_eq_true hab.2
            have ha' := bnd_sound ha hlo hlo0
            have hb' := bnd_sound hb hhi hhi0
            simp only [Int.natCast_zero] at ha'
            rw [hmx0 rfl, ha']
            simp only
            rw [hb']
            simp only
            refine .chk ⟨by omega, by omega, by omega⟩ ?_
            simp only [Int.toNat_natCast]
            exact .str _
          · cases hr
        · cases hr
      · cases hr
    · -- a slice
      rename_i e
      cases hk : okT P e with
      | false => rw [hk] at hr; simp at hr
      | true =>
        rw [hk] at hr
        split at hr
        · rename_i es l g _
          obtain ⟨l', rfl, hl, hg⟩ := hv.sl_inv
          split at hr
          · rename_i a b he ha hb
            have he := Nat.eq_of_beq_eq_true he
            subst he
            have ha' := bnd_sound ha hlo hlo0
            have hb' := bnd_sound hb hhi hhi0
            simp only [Int.natCast_zero] at ha'
            simp only [beq_self_eq_true]
            rw [← hl.1] at hb'
            split at hr
            · rename_i hab
              cases hr
              simp only [Bool.and_eq_true] at hab
              have h1 := Nat.le_of_ble_eq_true hab.1
              have h2 := Nat.le_of_ble_eq_true hab.2
              rw [hmx0 rfl]
              simp only [ha', hb']
              refine .chk ⟨by omega, by omega, by rw [hl.1]; omega⟩ ?_
              simp only [Int.toNat_natCast]
              exact .ofVLL (by simp) ((hl.take b).drop a)
            · rename_i m hab
              simp only [Bool.and_eq_true] at hab
              have h1 := Nat.le_of_ble_eq_true hab.1
              have h2 := Nat.le_of_ble_eq_true hab.2
              split at hr
              · rename_i c vhi hc
                split at hr
                · rename_i hcb
                  cases hr
                  have hcb := Nat.eq_of_beq_eq_true hcb
                  obtain ⟨m', rfl, hm'⟩ := hmx m rfl
                  obtain ⟨vh', rfl, _⟩ := hhi vhi rfl
                  have hc' := bnd_sound (d := 0) (u := some m') hc (fun x hx => by cases hx; exact ⟨m', rfl, hm'⟩) (fun h => by cases h)
                  have hb'' : bndI (some vh') 0 = some (b : Int) := by
                    cases vh' <;> first | exact hb' | cases hb'
                  simp only [Int.natCast_zero] at hc'
                  simp only [ha', hb'', hc']
                  refine .chk ⟨by omega, by omega, by rw [hl.1]; omega, by omega⟩ ?_
                  simp only [Int.toNat_natCast]
                  exact .ofVLL (by simp) ((hl.take b).drop a)
                · cases hr
              · cases hr
            · cases hr
          · cases hr
        · rename_i es l off n c _
          split at hr
          · rename_i he
            have he := Nat.eq_of_beq_eq_true he
            obtain ⟨l', o', n', c', rfl, ha⟩ := part_sound hv hz hlo hlo0 hhi hhi0 hmx hmx0 hr
            simp only [he, beq_self_eq_true]
            rw [he] at ha
            exact ha
          · cases hr
        · cases hr
    · -- an array
      rename_i len e
      split at hr
      · rename_i l off hk
        rw [hk]
        cases hv with
        | ptr _ _ L hL =>
          have hx := VR.exact (ρ := ρ) (P.cellsOf e) l off len (2 * len + 1) L hL (by omega)
          rw [show (2 * len + 1) / 2 = len from by omega] at hx
          obtain ⟨l', o', n', c', he', ha⟩ := part_sound hx hz hlo hlo0 hhi hhi0 hmx hmx0 hr
          cases he'
          exact ha
      · cases hr

theorem chunks_sound (es : Nat) : ∀ (n : Nat) {cs cs' : List V}, n * es ≤ cs.length → n * es ≤ cs'.length → (∀ (i : Nat) (v : V), i < n * es → cs[i]? = some v → ∃ u, cs'[i]? = some u ∧ VR ρ v u) → VLL ρ (chunksX es n cs) (chunks es n cs')
  | 0, cs, cs', _, _, _ => .nil
  | n + 1, cs, cs', h1, h2, h => by
    rw [Nat.add_mul, Nat.one_mul] at h1 h2
    simp only [chunksX, chunks]
    refine .cons ⟨by simp; omega, fun i v u hv hu => ?_⟩ (chunks_sound es n (by simp; omega) (by simp; omega) fun i v hi hv => ?_)
    · rw [List.getElem?_take] at hv hu
      split at hv
      · rename_i hi
        rw [if_pos hi] at hu
        obtain ⟨u', hu', hr⟩ := h i v (by rw [Nat.add_mul]; omega) hv
        rw [hu] at hu'; cases hu'; exact hr
      · cases hv
    · rw [List.getElem?_drop] at hv ⊢
      exact h _ v (by rw [Nat.add_mul]; omega) hv

theorem els_ref (X : HX ρ H nx h) {size es k off n c : Nat} {u : V} {l : List (List V)} (hv : VR ρ (.sref es k off n c) u) (hr : elsX H size (.sref es k off n c) = some l) :
    ∃ k' o' c', u = .sref es k' o' n c' ∧ es = size ∧ (n = 0 ∨ o' + n * es ≤ (cellsAt h k').length) ∧ VLL ρ l (chunks es n ((cellsAt h k').drop o')) := by
  have hu : ∃ k' o' c', u = .sref es k' o' n c' := by cases hv <;> exact ⟨_, _, _, rfl⟩
  obtain ⟨k', o', c', rfl⟩ := hu
  refine ⟨k', o', c', rfl, ?_⟩
  cases n with
  | zero =>
    simp only [elsX] at hr
    split at hr
    · rename_i he
      cases hr
      exact ⟨Nat.eq_of_beq_eq_true he, .inl rfl, .nil⟩
    · cases hr
  | succ n =>
    simp only [elsX] at hr
    split at hr
    · rename_i cs he hc
      split at hr
      · rename_i hb
        cases hr
        have he := Nat.eq_of_beq_eq_true he
        have hb := Nat.le_of_ble_eq_true hb
        obtain ⟨L, h1, h2, h3, _, h5, _⟩ := X.cells hc
        have key : ∀ o'', o'' = off + L.d → (n + 1 = 0 ∨ o'' + (n + 1) * es ≤ (cellsAt h L.l).length) ∧ VLL ρ (chunksX es (n + 1) (cs.drop off)) (chunks es (n + 1) ((cellsAt h L.l).drop o'')) := by
          rintro o'' rfl
          refine ⟨.inr (by omega), chunks_sound es (n + 1) (by simp; omega) (by simp; omega) fun i v hi hv => ?_⟩
          rw [List.getElem?_drop] at hv
          obtain ⟨u, hu, hr⟩ := part_get h5 hv
          exact ⟨u, by rw [List.getElem?_drop, show off + L.d + i = L.d + (off + i) from by omega]; exact hu, hr⟩
        cases hv with
        | exact _ _ _ _ _ M hM _ => rw [h1] at hM; cases hM; obtain ⟨k1, k2⟩ := key _ rfl; exact ⟨he, k1, k2⟩
        | grown _ _ _ _ _ _ M hM _ _ _ _ => rw [h1] at hM; cases hM; obtain ⟨k1, k2⟩ := key _ rfl; exact ⟨he, k1, k2⟩
      · cases hr
    · cases hr

theorem els_sl {size es : Nat} {l : List (List V)} {g : G} {r : List (List V)} (hr : elsX H size (.sl es l g) = some r) : es = size ∧ r = l := by
  simp only [elsX] at hr
  split at hr
  · rename_i he
    cases hr
    exact ⟨Nat.eq_of_beq_eq_true he, rfl⟩
  · cases hr

theorem byte_sound : ∀ {l l' : List (List V)} {b : List UInt8}, VLL ρ l l' → byteX l = some b → l'.all isByte = true ∧ l'.map Jb.byteOf = b
  | [], l', b, h, hr => by
    have : l' = [] := List.length_eq_zero_iff.1 (by simpa using h.1)
    subst this
    simp only [byteX] at hr
    cases hr
    exact ⟨rfl, rfl⟩
  | a :: l, [], b, h, _ => by have := h.1; simp at this
  | a :: l, c :: l', b, h, hr => by
    obtain ⟨h1, h2⟩ := h.tail
    unfold byteX at hr
    split at hr
    · rename_i e; cases e
    · rename_i n r' e
      cases e
      split at hr
      · rename_i l2 hl2
        cases hr
        obtain ⟨g1, g2⟩ := byte_sound h2 hl2
        cases c with
        | nil => have := h1.1; simp at this
        | cons x c =>
          cases c with
          | cons _ _ => have := h1.1; simp at this
          | nil =>
            have hx := h1.2 0 _ _ rfl rfl
            cases hx
            refine ⟨by simp [isByte, kindEq, g1], ?_⟩
            simp [Jb.byteOf, V.num, g2]
      · cases hr
    · cases hr

theorem conv_sound (X : HX ρ H nx h) {s d : TypeId} {v u r : V} (hv : VR ρ v u) (hr : convX P H s d v = some r) : Ans ρ (convQ P h s d u) r := by
  unfold convX at hr
  unfold convQ
  split at hr
  · rename_i k0 k k' n h1 h2
    cases hv
    cases hr
    rw [h1, h2]
    exact .ok (.int _ _)
  · rename_i v a1 a2 a3 e h1 h2
    split at hr
    · rename_i l hz hl
      split at hr
      · rename_i b hb
        cases hr
        have txt : ∀ l' : List (List V), l'.map Jb.byteOf = b → textX b = Jb.textOf l' := fun l' e => by simp [textX, Jb.textOf, e]
        rw [h1, h2]
        cases v with
        | sl es l0 g =>
          obtain ⟨l', rfl, hll, _⟩ := hv.sl_inv
          obtain ⟨rfl, rfl⟩ := els_sl hl
          obtain ⟨g1, g2⟩ := byte_sound hll hb
          simp only [hz]
          rw [txt _ g2]
          exact .chk g1 (.str _)
        | sref es k off n c =>
          obtain ⟨k', o', c', rfl, rfl, hle, hll⟩ := els_ref X hv hl
          obtain ⟨g1, g2⟩ := byte_sound hll hb
          simp only [hz]
          rw [txt _ g2]
          exact .chk ⟨by rw [Nat.mul_one] at hle; exact hle, g1⟩ (.str _)
        | _ => simp [elsX] at hl
      · cases hr
    · cases hr
  · rename_i e s' h1 h2
    cases hv
    split at hr
    · rename_i hz
      cases hr
      rw [h1, h2]
      simp only [hz]
      refine .ok (.ofVLL (by simp) ⟨rfl, fun i a b ha hb => ?_⟩)
      rw [ha] at hb
      cases hb
      simp only [bytesOf, List.getElem?_map, Option.map_eq_some_iff] at ha
      obtain ⟨x, _, rfl⟩ := ha
      exact .cons (.int _ _) .nil
    · cases hr
  · cases hr

theorem extract_sound {i : Nat} {v u r : V} (hv : VR ρ v u) (hr : extractX v i = some r) : Ans ρ (extractQ u i) r := by
  unfold extractX at hr
  split at hr
  · rename_i vs
    obtain ⟨vs', rfl, hc⟩ := hv.tup_inv
    split at hr
    · rename_i x hx
      obtain ⟨y, hy, hxy⟩ := hc.get hx
      simp only [extractQ, hy]
      have := pl_sound (c := True) hxy hr trivial
      split at hr
      · rename_i hp
        cases hr
        have hp' : y.plain = true := by rw [hxy.plain]; exact hp
        rw [deLp_same hp']
        exact .chk hp' hxy
      · cases hr
    · cases hr
  · cases hr

theorem len_sound {t : TypeId} {v u r : V} (hv : VR ρ v u) (hr : lenX P t v = some r) : Ans ρ (lenQ P t u) r := by
  revert hr
  unfold lenX lenQ
  cases P.underlying t with
  | none => exact fun hr => by cases hr
  | some d =>
    cases d <;> simp only <;> intro hr <;> try cases hr
    · split at hr
      · cases hr; cases hv; exact .ok (.int _ _)
      · cases hr
    · split at hr
      · cases hr; obtain ⟨l', rfl, hl, _⟩ := hv.sl_inv; rw [← hl.1]; exact .ok (.int _ _)
      · cases hr; cases hv <;> exact .ok (.int _ _)
      · split at hr
        · rename_i hu
          cases hr
          cases hv with
          | iface _ _ _ ht => rw [hu] at ht; cases ht
          | some_ _ _ _ _ _ _ l g ht h hn => exact .ok (.num _ _ _ _ ht hn)
        · cases hr
      · cases hr
    · exact .ok (.int _ _)

theorem minmax_sound {mx : Bool} {vs us : List V} {r : V} (h : VL ρ vs us) (hr : qV (minmaxQ mx vs) = some r) : Ans ρ (minmaxQ mx us) r := by
  have e := qV_sound hr
  unfold minmaxQ at e
  split at e
  · rename_i k a k' b
    match us, h with
    | [], h => have := h.1; simp at this
    | [_], h => have := h.1; simp at this
    | _ :: _ :: _ :: _, h => have := h.1; simp at this
    | [x, y], h =>
      obtain ⟨h1, h2⟩ := h.tail
      obtain ⟨h3, _⟩ := h2.tail
      cases h1
      cases h3
      unfold minmaxQ
      split at e
      · rename_i hk
        cases e
        simp only [hk]
        exact .ok (.int _ _)
      · cases e
  · cases e

theorem keyEq_sound {k v k' v' : V} {b : Bool} (hk : VR ρ k k') (hv : VR ρ v v') (h : keyEq k v = some b) : keyEq k' v' = some b := by
  unfold keyEq at h
  split at h <;> first | (cases h; done) | (cases hk; cases hv; exact h)

theorem find_sound {k k' : V} (hk : VR ρ k k') : ∀ {es es' : List (V × V)} {r : Option V}, es'.length = es.length → (∀ (i : Nat) (a b c d : V), es[i]? = some (a, b) → es'[i]? = some (c, d) → VR ρ a c ∧ VR ρ b d) →
    findV k es = some r → ∃ r', findV k' es' = some r' ∧ (match r, r' with | none, none => True | some v, some u => VR ρ v u | _, _ => False)
  | [], es', r, hl, _, hr => by
    have : es' = [] := List.length_eq_zero_iff.1 (by simpa using hl)
    subst this
    simp only [findV] at hr
    cases hr
    exact ⟨none, rfl, trivial⟩
  | e :: es, [], r, hl, _, _ => by simp at hl
  | (a, b) :: es, (c, d) :: es', r, hl, hrel, hr => by
    obtain ⟨h1, h2⟩ := hrel 0 a b c d rfl rfl
    simp only [findV] at hr ⊢
    split at hr
    · rename_i he
      cases hr
      rw [keyEq_sound hk h1 he]
      exact ⟨_, rfl, h2⟩
    · rename_i he
      rw [keyEq_sound hk h1 he]
      exact find_sound hk (by simpa using hl) (fun i a b c d h1 h2 => hrel (i + 1) a b c d (by simpa using h1) (by simpa using h2)) hr
    · cases hr

theorem zeroVal_refl {t : TypeId} {z : V} (h : zeroVal P t = some z) : VR ρ z z := by
  unfold zeroVal at h
  split at h
  · rename_i cs i hz hi
    have hc := zeroV_refl (ρ := ρ) hz
    split at h
    · cases h; exact .agg _ _ hc.1 hc.2
    · cases h; exact hc.2 0 _ _ rfl rfl
    · cases h
  · cases h

theorem keyT_sound {t : TypeId} {k k' : V} (hk : VR ρ k k') (h : keyT P t k = true) : keyT P t k' = true := by
  unfold keyT at *
  split at h
  · rename_i d hd
    unfold fitK at h
    split at h
    · cases hk; exact h
    · cases hk; rfl
    · cases hk; rfl
    · cases h
  · cases h

theorem map_sound (X : HX ρ H nx h) {v u : V} {es : List (V × V)} (hv : VR ρ v u) (hr : mapX H v = some es) :
    ∃ es', mapAt h u = some es' ∧ es'.length = es.length ∧ ∀ (i : Nat) (a b c d : V), es[i]? = some (a, b) → es'[i]? = some (c, d) → VR ρ a c ∧ VR ρ b d := by
  unfold mapX at hr
  split at hr
  · cases hr; cases hv; exact ⟨[], rfl, rfl, fun i a b c d h => by simp at h⟩
  · rename_i r
    split at hr
    · rename_i es0 hg
      cases hr
      obtain ⟨L, o, h1, h2, es', rfl, h3, h4⟩ := X.at_ r _ hg
      cases hv with
      | map _ M hM =>
        rw [h1] at hM
        cases hM
        exact ⟨es', by simp [mapAt, h2], h3, h4⟩
    · cases hr
  · cases hr

theorem lookup_sound (X : HX ρ H nx h) {t : TypeId} {v u i j r : V} {ok : Bool} (hv : VR ρ v u) (hi : VR ρ i j) (hr : lookupX P H t v i ok = some r) : Ans ρ (lookupQ P h t u j ok) r := by
  unfold lookupX at hr
  split at hr
  case h_2 => cases hr
  rename_i kt e ht
  unfold lookupQ
  rw [ht]
  simp only
  split at hr
  case h_2 => cases hr
  rename_i es hk hm
  obtain ⟨es', h1, h2, h3⟩ := map_sound X hv hm
  rw [keyT_sound hi hk, h1]
  simp only
  split at hr
  · rename_i v0 hf
    obtain ⟨r', g1, g2⟩ := find_sound hi h2 h3 hf
    cases r' with
    | none => exact g2.elim
    | some u0 =>
      simp only at g2
      split at hr
      · rename_i hp
        cases hr
        have hp' : u0.plain = true := by rw [g2.plain]; exact hp
        rw [g1]
        simp only
        rw [deLp_same hp']
        refine .chk hp' ?_
        cases ok
        · exact g2
        · exact .tup _ _ rfl (VL.cons g2 (.cons (.bool _) .nil)).2
      · cases hr
  · rename_i z hf hz
    obtain ⟨r', g1, g2⟩ := find_sound hi h2 h3 hf
    cases r' with
    | some _ => exact g2.elim
    | none =>
      split at hr
      · rename_i hp
        cases hr
        rw [g1, hz]
        simp only
        rw [deLp_same hp]
        refine .chk hp ?_
        cases ok
        · exact zeroVal_refl hz
        · exact .tup _ _ rfl (VL.cons (zeroVal_refl hz) (.cons (.bool _) .nil)).2
      · cases hr
  · cases hr
end

/-! All of them. -/
section
variable {P : Program} {ρ : Locs} {s : St} {h : Heap} {n : Nat} {fr : Fr}

theorem ofConst_refl (v : Value) : VR ρ (ofConst v) (ofConst v) := by
  unfold ofConst
  split <;> first | exact .bool _ | exact .int _ _ | exact .str _ | exact .nilp | exact .nilfn | exact .nilif | exact .nilmap | exact .undef

theorem raw_sound (F : FX ρ s.tm n fr) {x : Operand} {v : V} (hr : s.raw x = some v) : VR ρ v (fr.ev x) := by
  cases x with
  | tmp t =>
    obtain ⟨u, h1, h2⟩ := F.at_ t v hr
    have : fr.tm.getD t .undef = u := by simp [List.getD, h1]
    show VR ρ v (fr.tm.getD t .undef)
    rw [this]; exact h2
  | const c => simp only [St.raw] at hr; cases hr; exact ofConst_refl c
  | global g => cases hr
  | func f => simp only [St.raw] at hr; cases hr; exact .fn _ _ _ _ _ rfl rfl (fun i v u h => by simp at h) (fun i v u h => by simp at h)

def Here (u : V) : Prop := ∀ b x, u = .opt b x → b = true

theorem known_sound {w : Option V} {v u : V} (hk : known w = some v) (hu : ∀ x, w = some x → VR ρ x u) : VR ρ v u.strip ∧ Here u := by
  unfold known at hk
  split at hk
  · rename_i v'
    cases hk
    have := hu _ rfl
    cases this with
    | opt _ y hy => exact ⟨hy, fun b x e => by cases e; rfl⟩
  · cases hk
  · cases hk
  · rename_i h1 h2 h3
    have hv := hu v hk
    cases hv <;> first
      | exact (h1 _ hk).elim
      | exact (h2 _ hk).elim
      | exact ⟨hu _ hk, fun b x e => by cases e⟩

theorem ev_sound (F : FX ρ s.tm n fr) {x : Operand} {v : V} (hr : s.ev x = some v) : VR ρ v (fr.ev x).strip ∧ Here (fr.ev x) :=
  known_sound hr fun y hy => raw_sound F hy
theorem evs_sound (F : FX ρ s.tm n fr) : ∀ {l : List Operand} {vs : List V}, evs s.ev l = some vs → VL ρ vs (l.map fun x => (fr.ev x).strip) ∧ ∀ x ∈ l, Here (fr.ev x)
  | [], vs, hr => by simp only [evs] at hr; cases hr; exact ⟨.nil, fun x h => by cases h⟩
  | x :: l, vs, hr => by
    simp only [evs] at hr
    split at hr
    · rename_i v r h1 h2
      cases hr
      obtain ⟨g1, g2⟩ := ev_sound F h1
      obtain ⟨g3, g4⟩ := evs_sound F h2
      exact ⟨.cons g1 g3, fun y hy => by rcases List.mem_cons.1 hy with rfl | hy; exact g2; exact g4 y hy⟩
    · cases hr

theorem parts_sound (F : FX ρ s.tm n fr) : ∀ {l : List (Nat × Operand)} {vs : List (Nat × V)}, partsX s.ev l = some vs →
    ((l.map fun e => (e.1, (fr.ev e.2).strip)).length = vs.length ∧ ∀ (i : Nat) (p q : Nat × V), vs[i]? = some p → (l.map fun e => (e.1, (fr.ev e.2).strip))[i]? = some q → q.1 = p.1 ∧ VR ρ p.2 q.2) ∧ ∀ e ∈ l, Here (fr.ev e.2)
  | [], vs, hr => by simp only [partsX] at hr; cases hr; exact ⟨⟨rfl, fun i p q h => by simp at h⟩, fun x h => by cases h⟩
  | (i, x) :: l, vs, hr => by
    simp only [partsX] at hr
    split at hr
    · rename_i v r h1 h2
      cases hr
      obtain ⟨g1, g2⟩ := ev_sound F h1
      obtain ⟨⟨g3, g4⟩, g5⟩ := parts_sound F h2
      refine ⟨⟨by simpa using g3, fun j p q hp hq => ?_⟩, fun y hy => by rcases List.mem_cons.1 hy with rfl | hy; exact g2; exact g5 y hy⟩
      cases j with
      | zero => simp at hp hq; subst hp; subst hq; exact ⟨rfl, g1⟩
      | succ j => exact g4 j p q (by simpa using hp) (by simpa using hq)
    · cases hr

theorem opt_sound (F : FX ρ s.tm n fr) {x : Option Operand} {v : Option V} (hr : optX s.ev x = some v) :
    (∀ y, v = some y → ∃ u, x.map (fun x => (fr.ev x).strip) = some u ∧ VR ρ y u) ∧ (v = none → x.map (fun x => (fr.ev x).strip) = none) ∧ ∀ y, x = some y → Here (fr.ev y) := by
  unfold optX at hr
  split at hr
  · cases hr; exact ⟨fun y h => (by cases h), fun _ => rfl, fun y h => (by cases h)⟩
  · split at hr
    · rename_i x v' hv
      cases hr
      obtain ⟨g1, g2⟩ := ev_sound F hv
      exact ⟨fun y h => (by cases h; exact ⟨_, rfl, g1⟩), fun h => (by cases h), fun y h => (by cases h; exact g2)⟩
    · cases hr

theorem bool_sound {w : Option V} {u : V} {r : Option Bool} (h : boolX w = some r) (hu : ∀ x, w = some x → VR ρ x u) :
    ∃ g b, boolOf u = some (g, b) ∧ ∀ x, r = some x → b = x ∧ ∀ y, g = some y → y = true := by
  unfold boolX at h
  split at h
  · cases h
    have := hu _ rfl
    cases this
    exact ⟨none, _, rfl, fun x h => by cases h; exact ⟨rfl, fun y h => by cases h⟩⟩
  · cases h
    have := hu _ rfl
    cases this with
    | opt _ y hy => cases hy; exact ⟨some true, _, rfl, fun x h => by cases h; exact ⟨rfl, fun y h => by cases h; rfl⟩⟩
  · rename_i v
    cases h
    have := hu _ rfl
    cases this with
    | skip y => cases y <;> exact ⟨_, _, rfl, fun x h => by cases h⟩
  · cases h

theorem pick_sound (F : FX ρ s.tm n fr) {c a b : Operand} {r : V} (hr : pickX (s.ev c) (s.raw a) (s.raw b) = some r) : Ans ρ (pickQ (fr.ev c).strip (fr.ev a) (fr.ev b)) r ∧ Here (fr.ev c) := by
  unfold pickX at hr
  split at hr
  · rename_i x y h1 h2 h3
    cases hr
    obtain ⟨g1, g2⟩ := ev_sound F h1
    obtain ⟨ga, ba, ea, ha⟩ := bool_sound h2 (fun v hv => raw_sound F hv)
    obtain ⟨gb, bb, eb, hb⟩ := bool_sound h3 (fun v hv => raw_sound F hv)
    refine ⟨?_, g2⟩
    generalize (fr.ev c).strip = cc at g1
    cases g1
    simp only [pickQ, ea, eb]
    obtain ⟨rfl, hg⟩ := ha x rfl
    refine .chk ?_ (.bool _)
    rw [validIf_iff, validIf_iff]
    exact ⟨fun _ b e => hg b e, fun h => (by cases h), trivial⟩
  · rename_i y h1 h2 h3
    cases hr
    obtain ⟨g1, g2⟩ := ev_sound F h1
    obtain ⟨ga, ba, ea, ha⟩ := bool_sound h2 (fun v hv => raw_sound F hv)
    obtain ⟨gb, bb, eb, hb⟩ := bool_sound h3 (fun v hv => raw_sound F hv)
    refine ⟨?_, g2⟩
    generalize (fr.ev c).strip = cc at g1
    cases g1
    simp only [pickQ, ea, eb]
    obtain ⟨rfl, hg⟩ := hb y rfl
    refine .chk ?_ (.bool _)
    rw [validIf_iff, validIf_iff]
    exact ⟨fun h => (by cases h), fun _ b e => hg b e, trivial⟩
  · cases hr

theorem nilOf_sound {t : TypeId} {r : V} (h : nilOf P t = some r) : Ans ρ (nilSlQ P t) r := by
  unfold nilOf at h
  unfold nilSlQ
  split at h
  · rename_i e he
    cases h
    rw [he]
    exact .ok (.ofVLL (by simp) .nil)
  · cases h

theorem elems_sound {n : Nat} : ∀ {vs us : List V} {r : List (List V)}, VL ρ vs us → elemsX n vs = some r → ∃ r' c, elems n us = some (r', c) ∧ c ∧ VLL ρ r r'
  | [], us, r, h, hr => by
    have : us = [] := List.length_eq_zero_iff.1 (by simpa using h.1)
    subst this
    simp only [elemsX] at hr
    cases hr
    exact ⟨[], True, rfl, trivial, .nil⟩
  | v :: vs, [], r, h, _ => by have := h.1; simp at this
  | v :: vs, u :: us, r, h, hr => by
    obtain ⟨h1, h2⟩ := h.tail
    simp only [elemsX] at hr
    split at hr
    · rename_i new l hn hl
      cases hr
      obtain ⟨new', c, a1, a2, a3, _⟩ := cellsOf_sound h1 hn
      obtain ⟨r', c', b1, b2, b3⟩ := elems_sound h2 hl
      refine ⟨new' :: r', c ∧ c', ?_, ⟨a2, b2⟩, .cons a3 b3⟩
      simp only [elems, a1, b1]
    · cases hr

theorem lit_sound {t : TypeId} {n : Nat} {parts parts' : List (Nat × V)} {es : Nat} {l : List (List V)} (hl : parts'.length = parts.length)
    (hp : ∀ (i : Nat) (p q : Nat × V), parts[i]? = some p → parts'[i]? = some q → q.1 = p.1 ∧ VR ρ p.2 q.2) (hr : buildSliceX P t n parts = some (.sl es l .full)) :
    ∃ l' c, buildSliceQ P t n parts' = .chk c (.sl es l' .full) ∧ c ∧ VLL ρ l l' := by
  have hfst : parts'.map (·.1) = parts.map (·.1) := by
    apply List.ext_getElem?
    intro i
    simp only [List.getElem?_map]
    cases hi : parts[i]? with
    | none =>
      have : parts'[i]? = none := by
        rw [List.getElem?_eq_none_iff] at hi ⊢
        omega
      rw [this]
    | some p =>
      have hlt : i < parts'.length := by have := (List.getElem?_eq_some_iff.1 hi).1; omega
      rw [List.getElem?_eq_getElem hlt]
      simp only [Option.map_some]
      rw [(hp i p _ hi (List.getElem?_eq_getElem hlt)).1]
  have hsnd : VL ρ (parts.map (·.2)) (parts'.map (·.2)) := by
    refine ⟨by simp [hl], fun i v u hv hu => ?_⟩
    simp only [List.getElem?_map, Option.map_eq_some_iff] at hv hu
    obtain ⟨p, hp1, rfl⟩ := hv
    obtain ⟨q, hq1, rfl⟩ := hu
    exact (hp i p q hp1 hq1).2
  unfold buildSliceX at hr
  unfold buildSliceQ
  split at hr
  case h_2 => cases hr
  rename_i e ht
  rw [ht]
  simp only
  rw [hfst]
  split at hr
  case h_2 => cases hr
  rename_i z sz hz hc hd
  rw [hz, hc]
  rw [hc] at hd
  rw [hd]
  simp only
  split at hr
  · rename_i l0 he
    cases hr
    obtain ⟨r', c, a1, a2, a3⟩ := elems_sound hsnd he
    rw [a1]
    exact ⟨r', c, rfl, a2, a3⟩
  · cases hr

theorem q_sound (X : HX ρ s.h s.nx h) (F : FX ρ s.tm n fr) {esc : List Nat} (o : Oper) (hm : dstMode o esc = 2) {r : V} (hr : qx P s o.op o.type = some r) :
    Ans ρ (quietQ P esc fr h o) r ∧ ∀ v ∈ quietOps o fr, Here v := by
  have one : ∀ {x : Operand} {v : V}, s.ev x = some v → o.op.operands.toList = [x] → (∀ c a b, o.op ≠ .pick c a b) → ∀ v ∈ quietOps o fr, Here v := by
    intro x v hv ho hp u hu
    unfold quietOps at hu
    split at hu
    · rename_i e; exact (hp _ _ _ e).elim
    · rw [ho] at hu; simp at hu; subst hu; exact (ev_sound F hv).2
  have many : (∀ x ∈ o.op.operands.toList, Here (fr.ev x)) → (∀ c a b, o.op ≠ .pick c a b) → ∀ v ∈ quietOps o fr, Here v := by
    intro ho hp u hu
    unfold quietOps at hu
    split at hu
    · rename_i e; exact (hp _ _ _ e).elim
    · obtain ⟨x, hx, rfl⟩ := List.mem_map.1 hu; exact ho x hx
  obtain ⟨dst, op, type, pos, after, guard⟩ := o
  simp only at hr one many
  cases op <;> try (simp only [qx] at hr; cases hr; done)
  case move x =>
    have hr : s.ev x = some r := hr
    exact ⟨.ok (ev_sound F hr).1, one hr rfl (by simp)⟩
  case assign x =>
    by_cases hx : x = .const (.slice none 0 0)
    · subst hx
      exact ⟨nilOf_sound (show nilOf P type = some r from hr), many (fun x hx => by simp [Op.operands] at hx; subst hx; exact fun b y e => by simp [Fr.ev, ofConst] at e) (by simp)⟩
    · have hr : s.ev x = some r := by
        have hr : s.evT P type x = some r := hr
        unfold St.evT at hr
        split at hr
        · exact (hx rfl).elim
        · exact hr
      refine ⟨?_, one hr rfl (by simp)⟩
      have : quietQ P esc fr h { dst, op := .assign x, type, pos, after, guard } = .ok (fr.ev x).strip := by
        unfold quietQ
        split
        · rename_i e; cases e
        · rename_i e; simp only [Op.assign.injEq] at e; exact (hx e).elim
        · rfl
      rw [this]
      exact .ok (ev_sound F hr).1
  case pick c a b =>
    obtain ⟨g1, g2⟩ := pick_sound F (show pickX (s.ev c) (s.raw a) (s.raw b) = some r from hr)
    exact ⟨g1, fun v hv => by simp [quietOps] at hv; subst hv; exact g2⟩
  case build t ps =>
    simp only [qx] at hr
    split at hr
    · rename_i l hl
      obtain ⟨⟨g1, g2⟩, g3⟩ := parts_sound F hl
      exact ⟨build_sound g1 g2 hr, many (fun x hx => by simp [Op.operands] at hx; obtain ⟨i, hx⟩ := hx; exact g3 _ (by simpa using hx)) (by simp)⟩
    · cases hr
  case buildSlice t k ps =>
    simp only [qx] at hr
    split at hr
    · rename_i l hl
      obtain ⟨⟨g1, g2⟩, g3⟩ := parts_sound F hl
      refine ⟨?_, many (fun x hx => by simp [Op.operands] at hx; obtain ⟨i, hx⟩ := hx; exact g3 _ (by simpa using hx)) (by simp)⟩
      have hs : ∃ es l0, r = .sl es l0 .full := by
        unfold buildSliceX at hr
        split at hr
        · split at hr
          · split at hr
            · cases hr; exact ⟨_, _, rfl⟩
            · cases hr
          · cases hr
        · cases hr
      obtain ⟨es, l0, rfl⟩ := hs
      obtain ⟨l', c, a1, a2, a3⟩ := lit_sound g1 g2 hr
      show Ans ρ (buildSliceQ P t k _) _
      rw [a1]
      exact .chk a2 (.ofVLL (by simp) a3)
    · cases hr
  case load t a =>
    simp only [qx] at hr
    split at hr
    · rename_i v hv
      obtain ⟨g1, g2⟩ := ev_sound F hv
      refine ⟨?_, one hv rfl (by simp)⟩
      show Ans ρ (loadQ P (dstMode _ esc) fr h t _) r
      rw [hm]
      exact load_sound X g1 hr
    · cases hr
  case nilCheck x =>
    simp only [qx] at hr
    split at hr
    · rename_i v hv; exact ⟨nil_sound (ev_sound F hv).1 hr, one hv rfl (by simp)⟩
    · cases hr
  case binOp op t x y t2 =>
    simp only [qx] at hr
    split at hr
    · rename_i v u hv hu
      refine ⟨binn_sound (ev_sound F hv).1 (ev_sound F hu).1 hr, many (fun z hz => ?_) (by simp)⟩
      simp [Op.operands] at hz
      rcases hz with rfl | rfl
      · exact (ev_sound F hv).2
      · exact (ev_sound F hu).2
    · cases hr
  case unOp op t x =>
    simp only [qx] at hr
    split at hr
    · rename_i v hv; exact ⟨un_sound (ev_sound F hv).1 hr, one hv rfl (by simp)⟩
    · cases hr
  case convert a d x =>
    simp only [qx] at hr
    split at hr
    · rename_i v hv; exact ⟨conv_sound X (ev_sound F hv).1 hr, one hv rfl (by simp)⟩
    · cases hr
  case fieldAddr t x f =>
    simp only [qx] at hr
    split at hr
    · rename_i v hv; exact ⟨fieldAddr_sound (ev_sound F hv).1 hr, one hv rfl (by simp)⟩
    · cases hr
  case field t x f =>
    simp only [qx] at hr
    split at hr
    · rename_i v hv
      refine ⟨?_, one hv rfl (by simp)⟩
      show Ans ρ (fieldQ P (dstMode _ esc) t _ f) r
      rw [hm]
      exact field_sound (ev_sound F hv).1 hr
    · cases hr
  case indexAddr t x i =>
    simp only [qx] at hr
    split at hr
    · rename_i v u hv hu
      refine ⟨indexAddr_sound (ev_sound F hv).1 (ev_sound F hu).1 hr, many (fun z hz => ?_) (by simp)⟩
      simp [Op.operands] at hz
      rcases hz with rfl | rfl
      · exact (ev_sound F hv).2
      · exact (ev_sound F hu).2
    · cases hr
  case index t x i =>
    simp only [qx] at hr
    split at hr
    · rename_i v u hv hu
      refine ⟨?_, many (fun z hz => ?_) (by simp)⟩
      · show Ans ρ (indexQ P (dstMode _ esc) t _ _) r
        rw [hm]
        exact index_sound (ev_sound F hv).1 (ev_sound F hu).1 hr
      · simp [Op.operands] at hz
        rcases hz with rfl | rfl
        · exact (ev_sound F hv).2
        · exact (ev_sound F hu).2
    · cases hr
  case lookup t x i ok =>
    simp only [qx] at hr
    split at hr
    · rename_i v u hv hu
      refine ⟨lookup_sound X (ev_sound F hv).1 (ev_sound F hu).1 hr, many (fun z hz => ?_) (by simp)⟩
      simp [Op.operands] at hz
      rcases hz with rfl | rfl
      · exact (ev_sound F hv).2
      · exact (ev_sound F hu).2
    · cases hr
  case extract x i =>
    simp only [qx] at hr
    split at hr
    · rename_i v hv; exact ⟨extract_sound (ev_sound F hv).1 hr, one hv rfl (by simp)⟩
    · cases hr
  case slice t x lo hi mx =>
    simp only [qx] at hr
    split at hr
    · rename_i v a b c hv ha hb hc
      obtain ⟨a1, a2, a3⟩ := opt_sound F ha
      obtain ⟨b1, b2, b3⟩ := opt_sound F hb
      obtain ⟨c1, c2, c3⟩ := opt_sound F hc
      refine ⟨slice_sound (ev_sound F hv).1 X.zero a1 a2 b1 b2 c1 c2 hr, many (fun z hz => ?_) (by simp)⟩
      simp [Op.operands] at hz
      rcases hz with rfl | hz | hz | hz
      · exact (ev_sound F hv).2
      · exact a3 z hz
      · exact b3 z hz
      · exact c3 z hz
    · cases hr
  case makeFunc f a b =>
    cases f <;> try (simp only [qx] at hr; cases hr; done)
    simp only [qx] at hr
    split at hr
    · rename_i u v hu hv
      obtain ⟨g1, g2⟩ := evs_sound F hu
      obtain ⟨g3, g4⟩ := evs_sound F hv
      split at hr
      · rename_i hp
        cases hr
        simp only [Bool.and_eq_true] at hp
        have pl : ∀ {l l' : List V}, VL ρ l l' → l.all V.plain = true → l'.all V.plain = true := by
          intro l l' hl ha
          rw [List.all_eq_true] at ha ⊢
          intro x hx
          obtain ⟨i, hi⟩ := List.getElem?_of_mem hx
          have hlt : i < l.length := by have := (List.getElem?_eq_some_iff.1 hi).1; rw [← hl.1]; exact this
          have := hl.2 i _ x (List.getElem?_eq_getElem hlt) hi
          rw [this.plain]
          exact ha _ (List.getElem_mem hlt)
        refine ⟨?_, many (fun z hz => ?_) (by simp)⟩
        · unfold quietQ
          simp only [qop]
          rw [pl g1 hp.1, pl g3 hp.2]
          exact .ok (.fn _ _ _ _ _ g1.1 g3.1 g1.2 g3.2)
        · simp [Op.operands] at hz
          rcases hz with hz | hz
          · exact g2 z (by simpa using hz)
          · exact g4 z (by simpa using hz)
      · cases hr
    · cases hr
  case makeInterface t x =>
    simp only [qx] at hr
    cases hd : P.underlying t with
    | none => rw [hd] at hr; simp at hr
    | some d =>
      rw [hd] at hr
      cases hv : s.ev x with
      | none => rw [hv] at hr; cases d <;> simp at hr
      | some v =>
        rw [hv] at hr
        obtain ⟨g1, g2⟩ := ev_sound F hv
        have key : (match v.plain && !unk t with | true => some (V.iface t v) | false => none) = some r → (∀ ms, d ≠ .interface ms) → Ans ρ (quietQ P esc fr h { dst, op := .makeInterface t x, type, pos, after, guard }) r := by
          intro hr hd'
          split at hr
          · rename_i hp
            cases hr
            simp only [Bool.and_eq_true, Bool.not_eq_true'] at hp
            have hp' : (fr.ev x).strip.plain = true := by rw [g1.plain]; exact hp.1
            unfold quietQ
            simp only [qop, hd, hp']
            cases d <;> first | exact (hd' _ rfl).elim | exact .ok (.iface _ _ _ hp.2 g1)
          · cases hr
        refine ⟨?_, one hv rfl (by simp)⟩
        cases d <;> first | exact key hr (by simp) | (simp at hr; done)
  case call c =>
    obtain ⟨callee, args, ts⟩ := c
    simp only [qx] at hr
    split at hr
    case h_2 => cases hr
    rename_i vs hvs
    obtain ⟨g1, g2⟩ := evs_sound F hvs
    cases callee <;> try (simp at hr; done)
    rename_i b
    have hops : ∀ v ∈ quietOps { dst, op := .call { callee := .builtin b, args, argTypes := ts }, type, pos, after, guard } fr, Here v :=
      many (fun z hz => g2 z (by simpa [Op.operands, Call.operands] using hz)) (by simp)
    refine ⟨?_, hops⟩
    cases b <;> try (simp at hr; done)
    case len =>
      simp only at hr
      split at hr
      · rename_i t _ v _ ht
        unfold quietQ
        simp only [qop, ht]
        cases ha : args.toList with
        | nil => rw [ha] at g1; have := g1.1; simp at this
        | cons x xs =>
          rw [ha] at g1
          simp only [List.map_cons] at g1
          exact len_sound g1.tail.1 hr
      · cases hr
    case min => exact minmax_sound g1 hr
    case max => exact minmax_sound g1 hr
end
end Jx
end

section
/- Effects: what is run, and what JbB asks. -/
namespace Jx
open Go Jb

section
variable {ρ : Locs} {H : T Xb} {nx : Nat} {h : Heap}

theorem ObX.mono {ρ' : Locs} (s : Sub ρ ρ') {L : Loc} {xb : Xb} {o : Ob} (x : ObX ρ L xb o) : ObX ρ' L xb o := by
  cases xb with
  | cells cs =>
    obtain ⟨cs', h1, h2, h3, h4⟩ := x
    exact ⟨cs', h1, h2, h3, h4.mono s⟩
  | loop st ps tm n asg body =>
    obtain ⟨tm', h1, h2, h3⟩ := x
    exact ⟨tm', h1, h2, fun t v hv => by obtain ⟨u, hu, hr⟩ := h3 t v hv; exact ⟨u, hu, hr.mono s⟩⟩
  | map es =>
    obtain ⟨es', h1, h2, h3⟩ := x
    exact ⟨es', h1, h2, fun i a b c d p q => ⟨(h3 i a b c d p q).1.mono s, (h3 i a b c d p q).2.mono s⟩⟩

def Locs.add (ρ : Locs) (k : Nat) (L : Loc) : Locs := { ρ with at_ := fun j => if j = k then some L else ρ j }
theorem add_at (ρ : Locs) (k j : Nat) (L : Loc) : (ρ.add k L) j = if j = k then some L else ρ j := rfl

theorem HX.sub (X : HX ρ H nx h) (L : Loc) : Sub ρ (ρ.add nx L) := ⟨fun k M hk => by
  rw [add_at]
  by_cases e : k = nx
  · subst e; rw [(X.fresh k (Nat.le_refl _)).1] at hk; cases hk
  · rw [if_neg e]; exact hk, rfl, rfl⟩

theorem HX.del (X : HX ρ H nx h) (k : Nat) : HX ρ (H.put none k) nx h where
  pos := X.pos
  zero := X.zero
  fresh := fun j hj => ⟨(X.fresh j hj).1, by rw [T.get_put]; split; rfl; exact (X.fresh j hj).2⟩
  at_ := fun j xb hj => by
    rw [T.get_put] at hj
    split at hj
    · cases hj
    · exact X.at_ j xb hj
  inj := fun i j xb yb L M hi hj a b e => by
    rw [T.get_put] at hi hj
    split at hi
    · cases hi
    · split at hj
      · cases hj
      · exact X.inj i j xb yb L M hi hj a b e

theorem HX.add (X : HX ρ H nx h) {L : Loc} {xb : Xb} {o : Ob} {h' : Heap} (hL : ∀ j yb M, H.get j = some yb → ρ j = some M → M.l ≠ L.l) (hsame : ∀ l, l ≠ L.l → h' l = h l) (hnew : h' L.l = some o) (hx : ObX (ρ.add nx L) L xb o) :
    HX (ρ.add nx L) (H.put (some xb) nx) (nx + 1) h' where
  pos := by omega
  zero := by rw [add_at, if_neg (by have := X.pos; omega)]; exact X.zero
  fresh := fun j hj => by
    rw [add_at, if_neg (by omega), T.get_put, if_neg (by omega)]
    exact X.fresh j (by omega)
  at_ := fun j yb hj => by
    rw [T.get_put] at hj
    split at hj
    · rename_i e
      subst e
      cases hj
      exact ⟨L, o, by simp [Locs.add], hnew, hx⟩
    · rename_i e
      obtain ⟨M, o', h1, h2, h3⟩ := X.at_ j yb hj
      exact ⟨M, o', X.sub L j M h1, by rw [hsame _ (hL j yb M hj h1)]; exact h2, h3.mono (X.sub L)⟩
  inj := fun i j xb' yb A B hi hj a b e => by
    rw [T.get_put] at hi hj
    rw [add_at] at a b
    split at hi
    · rename_i ei
      split at hj
      · rename_i ej; rw [ei, ej]
      · rename_i ej
        rw [if_pos ei] at a
        rw [if_neg ej] at b
        cases a
        exact (hL j yb B hj b e.symm).elim
    · rename_i ei
      split at hj
      · rename_i ej
        rw [if_neg ei] at a
        rw [if_pos ej] at b
        cases b
        exact (hL i xb' A hi a e).elim
      · rename_i ej
        rw [if_neg ei] at a
        rw [if_neg ej] at b
        exact X.inj i j xb' yb A B hi hj a b e

theorem HX.new (X : HX ρ H nx h) {l : Nat} (hl : h l = none) (e : Nat) {xb : Xb} {o : Ob} (hx : ObX (ρ.add nx ⟨l, 0, e⟩) ⟨l, 0, e⟩ xb o) : HX (ρ.add nx ⟨l, 0, e⟩) (H.put (some xb) nx) (nx + 1) (h.upd l o) :=
  X.add (fun j yb M hj hM he => by
    obtain ⟨M', o', h1, h2, _⟩ := X.at_ j yb hj
    rw [hM] at h1
    cases h1
    rw [he, hl] at h2
    cases h2) (fun k hk => by simp [Heap.upd, hk]) (by simp [Heap.upd]) hx

theorem HX.set (X : HX ρ H nx h) {k : Nat} {L : Loc} {xb yb : Xb} {o : Ob} (hk : H.get k = some yb) (hL : ρ k = some L) (hx : ObX ρ L xb o) : HX ρ (H.put (some xb) k) nx (h.upd L.l o) where
  pos := X.pos
  zero := X.zero
  fresh := fun j hj => ⟨(X.fresh j hj).1, by
    rw [T.get_put]
    split
    · rename_i e; subst e; rw [(X.fresh j hj).2] at hk; cases hk
    · exact (X.fresh j hj).2⟩
  at_ := fun j zb hj => by
    rw [T.get_put] at hj
    split at hj
    · rename_i e; subst e; cases hj; exact ⟨L, o, hL, by simp [Heap.upd], hx⟩
    · rename_i e
      obtain ⟨M, o', h1, h2, h3⟩ := X.at_ j zb hj
      have hne : M.l ≠ L.l := fun c => e (X.inj j k zb yb M L hj hk h1 hL c)
      exact ⟨M, o', h1, by simp [Heap.upd, hne]; exact h2, h3⟩
  inj := fun i j ab bb A B hi hj a b e => by
    rw [T.get_put] at hi hj
    have gi : ∃ z, H.get i = some z := by
      split at hi
      · rename_i e; subst e; exact ⟨_, hk⟩
      · exact ⟨_, hi⟩
    have gj : ∃ z, H.get j = some z := by
      split at hj
      · rename_i e; subst e; exact ⟨_, hk⟩
      · exact ⟨_, hj⟩
    obtain ⟨z1, g1⟩ := gi
    obtain ⟨z2, g2⟩ := gj
    exact X.inj i j z1 z2 A B g1 g2 a b e

theorem wr_len (cs new : List V) (off : Nat) (hl : off + new.length ≤ cs.length) : (wrCells cs off new).length = cs.length := by
  simp [wrCells]; omega

theorem wr_part {cs cs' new new' : List V} {d off : Nat} (h : VL ρ cs ((cs'.drop d).take cs.length)) (hd : d + cs.length ≤ cs'.length) (hn : VL ρ new new') (hl : off + new.length ≤ cs.length) :
    VL ρ (wrCells cs off new) (((wrCells cs' (d + off) new').drop d).take (wrCells cs off new).length) := by
  have e : ((wrCells cs' (d + off) new').drop d).take (wrCells cs off new).length = wrCells ((cs'.drop d).take cs.length) off new' := by
    rw [wr_len cs new off hl]
    have hn' := hn.1
    apply List.ext_getElem?
    intro i
    rw [List.getElem?_take, List.getElem?_drop]
    unfold wrCells
    have t1 : (List.take (d + off) cs').length = d + off := by simp; omega
    have t2 : (List.take off (List.take cs.length (List.drop d cs'))).length = off := by simp; omega
    by_cases hi : i < cs.length
    · rw [if_pos hi]
      by_cases h1 : i < off
      · rw [List.append_assoc, List.getElem?_append_left (by omega), List.getElem?_take, if_pos (by omega),
          List.append_assoc, List.getElem?_append_left (by omega), List.getElem?_take, if_pos h1, List.getElem?_take, if_pos hi, List.getElem?_drop]
      · by_cases h2 : i < off + new'.length
        · rw [List.append_assoc, List.getElem?_append_right (by omega), List.getElem?_append_left (by omega),
            List.append_assoc, List.getElem?_append_right (by omega), List.getElem?_append_left (by omega), t1, t2]
          congr 1
          omega
        · rw [List.append_assoc, List.getElem?_append_right (by omega), List.getElem?_append_right (by omega), List.getElem?_drop,
            List.append_assoc, List.getElem?_append_right (by omega), List.getElem?_append_right (by omega), List.getElem?_drop, List.getElem?_take, if_pos (by omega), List.getElem?_drop, t1, t2]
          congr 1
          omega
    · rw [if_neg hi]
      symm
      apply List.getElem?_eq_none
      simp
      omega
  rw [e]
  unfold wrCells
  rw [hn.1]
  exact ((h.take off).append hn).append (h.drop (off + new.length))

theorem HX.write (X : HX ρ H nx h) {k : Nat} {L : Loc} {cs new new' : List V} {off : Nat} (hk : cellsX H k = some cs) (hL : ρ k = some L) (hn : VL ρ new new') (hl : off + new.length ≤ cs.length) :
    HX ρ (H.put (some (.cells (wrCells cs off new))) k) nx (h.upd L.l (.cells (wrCells (cellsAt h L.l) (L.d + off) new'))) ∧ L.d + off + new'.length ≤ (cellsAt h L.l).length := by
  obtain ⟨M, h1, h2, h3, h4, h5, h6⟩ := X.cells hk
  rw [hL] at h1
  cases h1
  refine ⟨X.set h6 hL ⟨_, rfl, ?_, ?_, wr_part h5 h3 hn hl⟩, by rw [hn.1]; omega⟩
  · rw [wr_len cs new off hl, wr_len _ _ _ (by rw [hn.1]; omega)]; exact h3
  · rw [wr_len _ _ _ (by rw [hn.1]; omega)]; exact h4
end

structure EnvOk (P : Program) (E : Env) : Prop where
  call : ∀ f args H nx v H' nx', E.call f args H nx = some (v, H', nx') → ∀ ρ args' h, VL ρ args args' → HX ρ H nx h →
    AnyW P f args' h fun u h' => ∃ ρ', Sub ρ ρ' ∧ VR ρ' v u ∧ HX ρ' H' nx' h'
  yield : ∀ k args H nx v H' nx', E.yield k args H nx = some (v, H', nx') → ∀ ρ args' h L, VL ρ args args' → HX ρ H nx h → ρ k = some L →
    YieldW P L.l args' h fun u h' => ∃ ρ', Sub ρ ρ' ∧ VR ρ' v u ∧ HX ρ' H' nx' h'

section
variable {P : Program} {ρ : Locs} {s : St} {h : Heap} {n : Nat} {fr : Fr}

def Behind (ρ : Locs) (s' : St) (v : V) (K : V → Heap → Prop) : Prop := ∀ ρ' u h', Sub ρ ρ' → VR ρ' v u → HX ρ' s'.h s'.nx h' → K u h'

theorem src_sound (X : HX ρ s.h s.nx h) {t2 : TypeId} {size : Nat} {v u : V} {m : List (List V)} (hv : VR ρ v u) (hr : srcX P s.h t2 size v = some m) : ∃ m' c, srcH P h t2 size u = some (m', c) ∧ c ∧ VLL ρ m m' := by
  revert hr
  unfold srcX srcH
  cases ht : P.underlying t2 with
  | none => exact fun hr => by cases hr
  | some d =>
    cases d <;> simp only <;> intro hr <;> try cases hr
    · cases v with
      | str s' =>
        simp only at hr
        split at hr
        · cases hr
          cases hv
          refine ⟨s'.data.toList.map fun b => [V.int .u8 b.toNat], True, by simp [srcQ, ht], trivial, ⟨rfl, fun i a b ha hb => ?_⟩⟩
          rw [ha] at hb
          cases hb
          simp only [List.getElem?_map, Option.map_eq_some_iff] at ha
          obtain ⟨x, _, rfl⟩ := ha
          exact .cons (.int _ _) .nil
        · cases hr
      | _ => simp at hr
    · cases v with
      | sl es l g =>
        obtain ⟨l', rfl, hl, _⟩ := hv.sl_inv
        obtain ⟨rfl, rfl⟩ := els_sl hr
        exact ⟨l', True, by simp [srcQ, ht], trivial, hl⟩
      | sref es k off n c =>
        obtain ⟨k', o', c', rfl, rfl, hle, hll⟩ := els_ref X hv hr
        exact ⟨_, _, by simp, hle, hll⟩
      | _ => simp [elsX] at hr

theorem add_sound (X : HX ρ s.h s.nx h) {cs cs' : List V} {l e : Nat} (hl : h l = none) (h1 : cs.length ≤ cs'.length) (h2 : e ≤ cs'.length) (hv : VL ρ cs (cs'.take cs.length)) :
    HX (ρ.add s.nx ⟨l, 0, e⟩) (s.add cs).h (s.add cs).nx (h.upd l (.cells cs')) :=
  X.new hl e ⟨cs', rfl, by simpa using h1, h2, by simpa using hv.mono (X.sub _)⟩

theorem write_sound (X : HX ρ s.h s.nx h) {l off : Nat} {cs new new' : List V} {s' : St} {L : Loc} (hc : cellsX s.h l = some cs) (hL : ρ l = some L) (hn : VL ρ new new') (hw : s.write l off cs new = some s') :
    HX ρ s'.h s'.nx (h.upd L.l (.cells (wrCells (cellsAt h L.l) (L.d + off) new'))) ∧ L.d + off + new'.length ≤ (cellsAt h L.l).length ∧ s'.tm = s.tm := by
  unfold St.write at hw
  split at hw
  · rename_i hb
    cases hw
    obtain ⟨g1, g2⟩ := X.write hc hL hn (Nat.le_of_ble_eq_true hb)
    exact ⟨g1, g2, rfl⟩
  · cases hw

theorem store_sound (X : HX ρ s.h s.nx h) {t : TypeId} {a v a' v' : V} {s' : St} (ha : VR ρ a a') (hv : VR ρ v v') (hr : storeX P t a v s = some s') {K : Fr → Heap → Prop} (hK : ∀ h', HX ρ s'.h s'.nx h' → K fr h') : storeW P t a' v' fr h K := by
  unfold storeX at hr
  unfold storeW
  split at hr
  · rename_i n hok hcells
    rw [hok, hcells]
    simp only
    split at hr
    · rename_i new l off hnew
      obtain ⟨new', c, h1, h2, h3, h4⟩ := cellsOf_sound hv hnew
      rw [h1]
      simp only
      split at hr
      · rename_i cs hc
        cases ha with
        | ptr _ _ L hL =>
          obtain ⟨g1, g2, _⟩ := write_sound X hc hL h3 hr
          rw [show off + L.d = L.d + off from by omega]
          refine ⟨h2, ?_, hK _ g1⟩
          rw [h3.1, h4] at g2
          exact g2
      · cases hr
    · cases hr
  · cases hr
theorem append_sound (X : HX ρ s.h s.nx h) {t t2 : TypeId} {x y x' y' r : V} {s' : St} (hx : VR ρ x x') (hy : VR ρ y y') (hr : appendOn P t t2 x y s = some (r, s')) {K : V → Heap → Prop} (hK : Behind ρ s' r K) :
    appendD P t t2 x' y' h K ∧ s'.tm = s.tm := by
  unfold appendOn at hr
  unfold appendD
  split at hr
  case h_2 => cases hr
  rename_i e ht
  split at hr
  case h_2 => cases hr
  rename_i i hi
  rw [ht]
  simp only
  rw [hi]
  simp only
  split at hr
  case h_2 => cases hr
  rename_i z m hd hz hm
  obtain ⟨m', c, m1, m2, m3⟩ := src_sound X hy hm
  rw [hd, hz, m1]
  simp only [Bool.and_eq_true, decide_eq_true_eq] at hd ⊢
  have mlen := m3.1
  have mfl := m3.flatten
  split at hr
  · -- a value
    rename_i es l
    obtain ⟨l', rfl, hl, _⟩ := hx.sl_inv
    split at hr
    case h_2 => cases hr
    rename_i hb
    simp only [Bool.and_eq_true] at hb
    obtain ⟨⟨b1, b2⟩, b3⟩ := hb
    have b1 := Nat.eq_of_beq_eq_true b1
    have b2 := Nat.eq_of_beq_eq_true b2
    have b3 := Nat.le_of_ble_eq_true b3
    subst b1
    simp only [beq_self_eq_true]
    split at hr
    · cases hr
      have : m' = [] := List.length_eq_zero_iff.1 (by simpa using mlen)
      subst this
      refine ⟨⟨m2, by rw [hl.1]; simpa using b3, fun _ => hK ρ _ h (Sub.refl _) hx X, fun hp => by simp at hp⟩, rfl⟩
    · rename_i a ms _ _
      cases hr
      refine ⟨⟨m2, by rw [hl.1, mlen]; exact b3, fun e => by subst e; simp at mlen, fun _ k cap rest hk hcap hrest => ?_⟩, rfl⟩
      rw [hl.1, mlen] at hcap hrest ⊢
      have hfl := (hl.append m3).flatten
      have hlen' : (l' ++ m').flatten.length = (l.length + (a :: ms).length) * i.size := by rw [hfl.1]; exact b2
      have htot : (l.length + (a :: ms).length) * i.size + (cap - (l.length + (a :: ms).length)) * i.size = cap * i.size := by rw [← Nat.add_mul]; congr 1; omega
      refine hK (ρ.add s.nx ⟨k, 0, cap * i.size⟩) _ _ (X.sub _) ?_ (add_sound X hk ?_ ?_ ?_)
      · have := VR.grown (ρ := ρ.add s.nx ⟨k, 0, cap * i.size⟩) i.size s.nx 0 (l.length + (a :: ms).length) (2 * (l.length + (a :: ms).length)) cap ⟨k, 0, cap * i.size⟩ (by simp [Locs.add]) (by omega) (by omega) (by simp) hd.1
        simpa using this
      · simp only [List.length_append, hrest, hlen', b2]; omega
      · simp only [List.length_append, hrest, hlen']; omega
      · rw [List.take_append_of_le_length (by rw [hlen', b2]; exact Nat.le_refl _), List.take_of_length_le (by rw [hlen', b2]; exact Nat.le_refl _)]
        exact hfl
  · -- it may be written to
    rename_i es k off n c'
    split at hr
    case h_2 => cases hr
    rename_i hb
    simp only [Bool.and_eq_true] at hb
    obtain ⟨⟨b1, b2⟩, b3⟩ := hb
    have b1 := Nat.eq_of_beq_eq_true b1
    have b2 := Nat.eq_of_beq_eq_true b2
    have b3 := Nat.le_of_ble_eq_true b3
    subst b1
    split at hr
    case h_2 => cases hr
    rename_i cs hcs
    obtain ⟨L, k1, k2, k3, k4, k5, k6⟩ := X.cells hcs
    split at hr
    case h_2 => cases hr
    rename_i hb2
    simp only [Bool.and_eq_true, Bool.or_eq_true] at hb2
    have hin := Nat.le_of_ble_eq_true hb2.1
    have mfl' : m'.flatten.length = m.length * i.size := by rw [mfl.1]; exact b2
    -- the slice's place
    have place : ∃ cap, x' = .sref i.size L.l (off + L.d) n cap ∧ c' / 2 ≤ cap ∧ off + L.d + cap * i.size ≤ (cellsAt h L.l).length ∧ (c' % 2 = 1 → cap = c' / 2) ∧ (c' % 2 = 0 → off + L.d + cap * i.size = L.e) := by
      cases hx with
      | exact _ _ _ _ _ M hM hc =>
        rw [k1] at hM
        cases hM
        refine ⟨_, rfl, Nat.le_refl _, ?_, fun _ => rfl, fun h => by omega⟩
        rcases hb2.2 with h | h
        · have := Nat.eq_of_beq_eq_true h; omega
        · have := Nat.le_of_ble_eq_true h; omega
      | grown _ _ _ _ _ cap M hM hc hle he _ =>
        rw [k1] at hM
        cases hM
        exact ⟨cap, rfl, hle, by omega, fun h => by omega, fun _ => he⟩
      | none => rw [X.zero] at k1; cases k1
    obtain ⟨cap, rfl, p1, p2, p3, p4⟩ := place
    simp only [beq_self_eq_true]
    have hin' : off + L.d + n * i.size ≤ (cellsAt h L.l).length := by omega
    split at hr
    · cases hr
      have : m' = [] := List.length_eq_zero_iff.1 (by simpa using mlen)
      subst this
      refine ⟨⟨m2, by simpa using b3, .inr hin', fun _ => p2, fun _ => hK ρ _ h (Sub.refl _) hx X, fun hp => by simp at hp⟩, rfl⟩
    · rename_i a ms _ _
      generalize hmm : a :: ms = m at *
      have hm0 : 0 < m.length := by rw [← hmm]; simp
      -- what is read of the block
      have hread : VL ρ ((cs.drop off).take (n * i.size)) (((cellsAt h L.l).drop (off + L.d)).take (n * i.size)) := by
        refine ⟨by simp; omega, fun j v u hv hu => ?_⟩
        rw [List.getElem?_take] at hv hu
        split at hv
        · rename_i hj
          rw [if_pos hj] at hu
          rw [List.getElem?_drop] at hv hu
          obtain ⟨u', hu', hr⟩ := part_get k5 hv
          rw [show L.d + (off + j) = off + L.d + j from by omega, hu] at hu'
          cases hu'
          exact hr
        · cases hv
      have hfull : VL ρ ((cs.drop off).take (n * i.size) ++ m.flatten) (((cellsAt h L.l).drop (off + L.d)).take (n * i.size) ++ m'.flatten) := hread.append mfl
      have hfl1 : ((cs.drop off).take (n * i.size) ++ m.flatten).length = (n + m.length) * i.size := by simp [b2, Nat.add_mul]; omega
      have hfl2 : (((cellsAt h L.l).drop (off + L.d)).take (n * i.size) ++ m'.flatten).length = (n + m.length) * i.size := by rw [hfull.1, hfl1]
      -- all is copied
      have copied : ∀ (l2 cap2 : Nat) (rest : List V) (H2 : T Xb) (X2 : HX ρ H2 s.nx h), h l2 = none → n + m.length ≤ cap2 → rest.length = (cap2 - (n + m.length)) * i.size →
          HX (ρ.add s.nx ⟨l2, 0, cap2 * i.size⟩) (H2.put (some (.cells ((cs.drop off).take (n * i.size) ++ m.flatten))) s.nx) (s.nx + 1) (h.upd l2 (.cells (((cellsAt h L.l).drop (off + L.d)).take (n * i.size) ++ m'.flatten ++ rest))) ∧
          VR (ρ.add s.nx ⟨l2, 0, cap2 * i.size⟩) (.sref i.size s.nx 0 (n + m.length) (2 * (n + m.length))) (.sref i.size l2 0 (n + m'.length) cap2) := by
        intro l2 cap2 rest H2 X2 hl2 hc2 hrest
        have htot : (n + m.length) * i.size + (cap2 - (n + m.length)) * i.size = cap2 * i.size := by rw [← Nat.add_mul]; congr 1; omega
        refine ⟨?_, ?_⟩
        · have etot : (((cellsAt h L.l).drop (off + L.d)).take (n * i.size) ++ m'.flatten ++ rest).length = cap2 * i.size := by rw [List.length_append, hfl2, hrest]; exact htot
          refine add_sound (s := { s with h := H2 }) X2 hl2 ?_ ?_ ?_
          · rw [hfl1, etot]; exact Nat.mul_le_mul_right _ hc2
          · rw [etot]; exact Nat.le_refl _
          · rw [hfl1, List.take_left' hfl2]
            exact hfull
        · rw [mlen]
          have := VR.grown (ρ := ρ.add s.nx ⟨l2, 0, cap2 * i.size⟩) i.size s.nx 0 (n + m.length) (2 * (n + m.length)) cap2 ⟨l2, 0, cap2 * i.size⟩ (by simp [Locs.add]) (by omega) (by omega) (by simp) hd.1
          simpa using this
      refine ⟨⟨m2, by rw [mlen]; exact b3, .inr hin', fun _ => p2, fun e => by rw [e] at mlen; simp at mlen; omega, fun _ => ?_⟩, ?_⟩
      · intro l2 off2 cap2 h2 hap
        split at hr
        · -- where it is
          rename_i hfit
          have hfit := Nat.le_of_ble_eq_true hfit
          split at hr
          case h_2 => cases hr
          rename_i s2 hw
          cases hr
          rcases hap with ⟨q1, rfl, rfl, rfl, rfl⟩ | ⟨q1, _⟩
          · obtain ⟨w1, w2, w3⟩ := write_sound X hcs k1 mfl hw
            rw [show L.d + (off + n * i.size) = off + L.d + n * i.size from by omega] at w1
            refine hK ρ _ _ (Sub.refl _) ?_ w1
            rw [mlen]
            rcases Nat.mod_two_eq_zero_or_one c' with h0 | h0
            · exact .grown _ _ _ _ _ _ L k1 h0 p1 (p4 h0) hd.1
            · rw [p3 h0]; exact .exact _ _ _ _ _ L k1 h0
          · rw [mlen] at q1; omega
        · rename_i hfit
          have hfit : ¬ n + m.length ≤ c' / 2 := fun h => by rw [Nat.ble_eq_true_of_le h] at hfit; cases hfit
          split at hr
          · -- it is full
            rename_i hodd
            have hodd := Nat.eq_of_beq_eq_true hodd
            cases hr
            rcases hap with ⟨q1, _⟩ | ⟨q1, q2, q3, rfl, rest, q4, rfl⟩
            · rw [mlen, p3 hodd] at q1; omega
            · rw [mlen] at q2 q4
              obtain ⟨g1, g2⟩ := copied l2 cap2 rest s.h X q3 q2 q4
              exact hK _ _ _ (X.sub _) g2 g1
          · rename_i hodd
            have heven : c' % 2 = 0 := by
              have : ¬ c' % 2 = 1 := fun h => by rw [h] at hodd; cases hodd
              omega
            split at hr
            case h_2 => cases hr
            rename_i hend
            have hend := Nat.le_of_ble_eq_true hend
            cases hr
            rcases hap with ⟨q1, rfl, rfl, rfl, rfl⟩ | ⟨q1, q2, q3, rfl, rest, q4, rfl⟩
            · -- there was room behind it
              rw [mlen] at q1
              have hmul : n * i.size + m.length * i.size ≤ cap2 * i.size := by rw [← Nat.add_mul]; exact Nat.mul_le_mul_right _ q1
              have hwl : (wrCells (cellsAt h L.l) (off + L.d + n * i.size) m'.flatten).length = (cellsAt h L.l).length := wr_len _ _ _ (by rw [mfl']; omega)
              have hw : ((wrCells (cellsAt h L.l) (off + L.d + n * i.size) m'.flatten).drop (off + L.d)).take ((n + m.length) * i.size) = ((cellsAt h L.l).drop (off + L.d)).take (n * i.size) ++ m'.flatten := by
                apply List.ext_getElem?
                intro j
                unfold wrCells
                have t1 : (List.take (off + L.d + n * i.size) (cellsAt h L.l)).length = off + L.d + n * i.size := by simp; omega
                have t2 : (((cellsAt h L.l).drop (off + L.d)).take (n * i.size)).length = n * i.size := by simp; omega
                rw [List.getElem?_take, List.getElem?_drop]
                by_cases hj : j < n * i.size
                · rw [if_pos (by rw [Nat.add_mul]; omega), List.append_assoc, List.getElem?_append_left (by omega), List.getElem?_take, if_pos (by omega), List.getElem?_append_left (by omega), List.getElem?_take, if_pos hj, List.getElem?_drop]
                · by_cases hj2 : j < (n + m.length) * i.size
                  · have hj3 : j - n * i.size < m'.flatten.length := by rw [mfl']; rw [Nat.add_mul] at hj2; omega
                    rw [if_pos hj2, List.append_assoc, List.getElem?_append_right (by omega), List.getElem?_append_left (by omega), List.getElem?_append_right (by omega), t1, t2]
                    congr 1
                    omega
                  · rw [if_neg hj2]
                    symm
                    apply List.getElem?_eq_none
                    rw [hfl2]
                    omega
              have hH : HX (ρ.add s.nx ⟨L.l, off + L.d, L.e⟩) ((s.h.put none k).put (some (.cells ((cs.drop off).take (n * i.size) ++ m.flatten))) s.nx) (s.nx + 1) (h.upd L.l (.cells (wrCells (cellsAt h L.l) (off + L.d + n * i.size) m'.flatten))) := by
                refine (X.del k).add (L := ⟨L.l, off + L.d, L.e⟩) (o := .cells (wrCells (cellsAt h L.l) (off + L.d + n * i.size) m'.flatten)) (fun j yb M hj hM he => ?_) (fun l hl => if_neg hl) (if_pos rfl) ⟨_, rfl, ?_, ?_, ?_⟩
                · rw [T.get_put] at hj
                  split at hj
                  · cases hj
                  · rename_i hne
                    exact hne (X.inj j k yb _ M L hj k6 hM k1 he)
                · rw [hwl, hfl1, Nat.add_mul]
                  simp only
                  omega
                · rw [hwl]; exact k4
                · rw [hfl1]
                  simp only
                  rw [hw]
                  exact hfull.mono (X.sub _)
              refine hK _ _ _ (X.sub _) ?_ hH
              rw [mlen]
              have := VR.grown (ρ := ρ.add s.nx ⟨L.l, off + L.d, L.e⟩) i.size s.nx 0 (n + m.length) (2 * (n + m.length)) cap2 ⟨L.l, off + L.d, L.e⟩ (by simp [Locs.add]) (by omega) (by omega) (by simpa using p4 heven) hd.1
              simpa using this
            · rw [mlen] at q2 q4
              obtain ⟨g1, g2⟩ := copied l2 cap2 rest (s.h.put none k) (X.del k) q3 q2 q4
              exact hK _ _ _ (X.sub _) g2 g1
      · split at hr
        · split at hr
          · rename_i hw; cases hr; exact (write_sound X hcs k1 mfl hw).2.2
          · cases hr
        · split at hr
          · cases hr; rfl
          · split at hr
            · cases hr; rfl
            · cases hr
  · cases hr
theorem ref_place (X : HX ρ s.h s.nx h) {es k off n c : Nat} {cs : List V} {u : V} (hx : VR ρ (.sref es k off n c) u) (hcs : cellsX s.h k = some cs) :
    ∃ L cap, ρ k = some L ∧ u = .sref es L.l (off + L.d) n cap ∧ h L.l = some (.cells (cellsAt h L.l)) ∧ L.d + cs.length ≤ (cellsAt h L.l).length := by
  obtain ⟨L, k1, k2, k3, _, _, _⟩ := X.cells hcs
  cases hx with
  | exact _ _ _ _ _ M hM hc => rw [k1] at hM; cases hM; exact ⟨L, _, k1, rfl, k2, k3⟩
  | grown _ _ _ _ _ cap M hM hc hle he _ => rw [k1] at hM; cases hM; exact ⟨L, _, k1, rfl, k2, k3⟩
  | none => rw [X.zero] at k1; cases k1

theorem copy_sound (X : HX ρ s.h s.nx h) {t t2 : TypeId} {x y x' y' r : V} {s' : St} (hx : VR ρ x x') (hy : VR ρ y y') (hr : copyOn P t t2 x y s = some (r, s')) {K : V → Heap → Prop} (hK : Behind ρ s' r K) :
    copyW P t t2 x' y' h K ∧ s'.tm = s.tm := by
  unfold copyOn at hr
  unfold copyW
  split at hr
  case h_2 => cases hr
  rename_i e ht
  split at hr
  case h_2 => cases hr
  rename_i i hi
  rw [ht]
  simp only
  rw [hi]
  simp only
  split at hr
  case h_2 => cases hr
  rename_i m hd hm
  simp only [decide_eq_true_eq] at hd
  obtain ⟨m', c, m1, m2, m3⟩ := src_sound X hy hm
  rw [m1]
  split at hr
  · rename_i es l off n c'
    split at hr
    case h_2 => cases hr
    rename_i cs he hcs
    have he := Nat.eq_of_beq_eq_true he
    subst he
    split at hr
    case h_2 => cases hr
    rename_i s2 hb hw
    have hb := Nat.le_of_ble_eq_true hb
    cases hr
    obtain ⟨L, cap, k1, rfl, k2, k3⟩ := ref_place X hx hcs
    obtain ⟨w1, w2, w3⟩ := write_sound X hcs k1 (m3.take n).flatten hw
    simp only [beq_self_eq_true]
    rw [show L.d + off = off + L.d from by omega] at w1
    refine ⟨⟨m2, hd, by omega, k2, ?_⟩, w3⟩
    rw [m3.1]
    exact hK ρ _ _ (Sub.refl _) (.int _ _) w1
  · rename_i es g
    cases hr
    obtain ⟨l', rfl, hl, _⟩ := hx.sl_inv
    have : l' = [] := List.length_eq_zero_iff.1 (by simpa using hl.1)
    subst this
    exact ⟨⟨m2, hd, hK ρ _ _ (Sub.refl _) (.int _ _) X⟩, rfl⟩
  · cases hr

theorem clear_sound (X : HX ρ s.h s.nx h) {t : TypeId} {x x' r : V} {s' : St} (hx : VR ρ x x') (hr : clearOn P t x s = some (r, s')) {K : V → Heap → Prop} (hK : Behind ρ s' r K) :
    clearW P t x' h K ∧ s'.tm = s.tm := by
  unfold clearOn at hr
  unfold clearW
  split at hr
  case h_2 => cases hr
  rename_i e ht
  split at hr
  case h_2 => cases hr
  rename_i i hi
  rw [ht]
  simp only
  rw [hi]
  simp only
  split at hr
  case h_2 => cases hr
  rename_i z es l off n c' hd hz
  simp only [decide_eq_true_eq] at hd
  split at hr
  case h_2 => cases hr
  rename_i cs he hcs
  have he := Nat.eq_of_beq_eq_true he
  subst he
  split at hr
  case h_2 => cases hr
  rename_i s2 hb hw
  have hb := Nat.le_of_ble_eq_true hb
  cases hr
  obtain ⟨L, cap, k1, rfl, k2, k3⟩ := ref_place X hx hcs
  obtain ⟨w1, w2, w3⟩ := write_sound X hcs k1 ((zeroV_refl hz).replicate n).flatten hw
  rw [hz]
  simp only [beq_self_eq_true]
  rw [show L.d + off = off + L.d from by omega] at w1
  exact ⟨⟨hd, by omega, k2, hK ρ _ _ (Sub.refl _) (.tup [] [] rfl (fun i v u h => by simp at h)) w1⟩, w3⟩

theorem exact_new {es n c : Nat} {l e : Nat} : VR (ρ.add s.nx ⟨l, 0, e⟩) (.sref es s.nx 0 n (2 * c + 1)) (.sref es l 0 n c) := by
  have := VR.exact (ρ := ρ.add s.nx ⟨l, 0, e⟩) es s.nx 0 n (2 * c + 1) ⟨l, 0, e⟩ (by simp [Locs.add]) (by omega)
  rw [show (2 * c + 1) / 2 = c from by omega] at this
  simpa using this

theorem add_all (X : HX ρ s.h s.nx h) {cs cs' : List V} {l : Nat} (hl : h l = none) (hv : VL ρ cs cs') : HX (ρ.add s.nx ⟨l, 0, 0⟩) (s.add cs).h (s.add cs).nx (h.upd l (.cells cs')) :=
  add_sound X hl (by rw [hv.1]; exact Nat.le_refl _) (Nat.zero_le _) (by rw [List.take_of_length_le (by rw [hv.1]; exact Nat.le_refl _)]; exact hv)

theorem make_sound (X : HX ρ s.h s.nx h) {t : TypeId} {x y x' y' r : V} {s' : St} (hx : VR ρ x x') (hy : VR ρ y y') (hr : makeSliceOn P t x y s = some (r, s')) {K : V → Heap → Prop} (hK : Behind ρ s' r K) :
    makeSliceW P t x' y' h K ∧ s'.tm = s.tm := by
  unfold makeSliceOn at hr
  unfold makeSliceW
  split at hr
  case h_2 => cases hr
  rename_i e ht
  split at hr
  case h_2 => cases hr
  rename_i i hi
  rw [ht]
  simp only
  rw [hi]
  simp only
  split at hr
  case h_2 => cases hr
  rename_i z k1 a k2 b hz hd
  split at hr
  case h_2 => cases hr
  rename_i hb
  simp only [Bool.and_eq_true] at hb
  have h1 := Nat.le_of_ble_eq_true hb.1
  have h2 := Nat.le_of_ble_eq_true hb.2
  cases hr
  cases hx
  cases hy
  rw [hz, hd]
  refine ⟨⟨Int.natCast_nonneg _, Int.ofNat_le.2 h1, Int.ofNat_le.2 h2, fun k hk => ?_⟩, rfl⟩
  exact hK _ _ _ (X.sub _) exact_new (add_all X hk ((zeroV_refl hz).replicate b).flatten)

theorem upd_sound {k k' v v' : V} (hk : VR ρ k k') (hv : VR ρ v v') : ∀ {es es' r : List (V × V)}, es'.length = es.length → (∀ (i : Nat) (a b c d : V), es[i]? = some (a, b) → es'[i]? = some (c, d) → VR ρ a c ∧ VR ρ b d) →
    updV k v es = some r → ∃ r', updV k' v' es' = some r' ∧ r'.length = r.length ∧ ∀ (i : Nat) (a b c d : V), r[i]? = some (a, b) → r'[i]? = some (c, d) → VR ρ a c ∧ VR ρ b d
  | [], es', r, hl, _, hr => by
    have : es' = [] := List.length_eq_zero_iff.1 (by simpa using hl)
    subst this
    simp only [updV] at hr
    cases hr
    refine ⟨_, rfl, rfl, fun i a b c d h1 h2 => ?_⟩
    cases i with
    | zero => simp at h1 h2; obtain ⟨rfl, rfl⟩ := h1; obtain ⟨rfl, rfl⟩ := h2; exact ⟨hk, hv⟩
    | succ i => simp at h1
  | e :: es, [], r, hl, _, _ => by simp at hl
  | (a, b) :: es, (c, d) :: es', r, hl, hrel, hr => by
    obtain ⟨h1, h2⟩ := hrel 0 a b c d rfl rfl
    have htail : ∀ (i : Nat) (a b c d : V), es[i]? = some (a, b) → es'[i]? = some (c, d) → VR ρ a c ∧ VR ρ b d := fun i a b c d h1 h2 => hrel (i + 1) a b c d (by simpa using h1) (by simpa using h2)
    simp only [updV] at hr ⊢
    split at hr
    · rename_i he
      cases hr
      rw [keyEq_sound hk h1 he]
      refine ⟨_, rfl, by simpa using hl, fun i a b c d g1 g2 => ?_⟩
      cases i with
      | zero => simp at g1 g2; obtain ⟨rfl, rfl⟩ := g1; obtain ⟨rfl, rfl⟩ := g2; exact ⟨hk, hv⟩
      | succ i => exact htail i a b c d (by simpa using g1) (by simpa using g2)
    · rename_i he
      rw [keyEq_sound hk h1 he]
      split at hr
      · rename_i l hl'
        cases hr
        obtain ⟨r', a1, a2, a3⟩ := upd_sound hk hv (by simpa using hl) htail hl'
        rw [a1]
        refine ⟨_, rfl, by simpa using a2, fun i a b c d g1 g2 => ?_⟩
        cases i with
        | zero => simp at g1 g2; obtain ⟨rfl, rfl⟩ := g1; obtain ⟨rfl, rfl⟩ := g2; exact ⟨h1, h2⟩
        | succ i => exact a3 i a b c d (by simpa using g1) (by simpa using g2)
      · cases hr
    · cases hr

theorem mapUpdate_sound (X : HX ρ s.h s.nx h) {t : TypeId} {m k v m' k' v' : V} {s' : St} (hm : VR ρ m m') (hk : VR ρ k k') (hv : VR ρ v v') (hr : mapUpdateOn P t m k v s = some s') {K : Heap → Prop} (hK : ∀ h', HX ρ s'.h s'.nx h' → K h') :
    mapUpdateW P t m' k' v' h K ∧ s'.tm = s.tm := by
  unfold mapUpdateOn at hr
  unfold mapUpdateW
  split at hr
  case h_2 => cases hr
  rename_i kt vt r ht
  split at hr
  case h_2 => cases hr
  rename_i es hkt hg hp
  split at hr
  case h_2 => cases hr
  rename_i es2 hu
  cases hr
  obtain ⟨L, o, h1, h2, es', rfl, h3, h4⟩ := X.at_ r _ hg
  cases hm with
  | map _ M hM =>
    rw [h1] at hM
    cases hM
    obtain ⟨r', a1, a2, a3⟩ := upd_sound hk hv h3 h4 hu
    rw [ht]
    simp only
    rw [keyT_sound hk hkt, h2, hv.plain, hp]
    simp only
    rw [a1]
    exact ⟨hK _ (X.set hg h1 ⟨r', rfl, a2, a3⟩), trivial⟩

theorem evT_sound (F : FX ρ s.tm n fr) {t : TypeId} {x : Operand} {v : V} (hr : s.evT P t x = some v) : VR ρ v (typed P (fun x => (fr.ev x).strip) t x) ∧ Here (fr.ev x) := by
  unfold St.evT at hr
  split at hr
  · unfold nilOf at hr
    split at hr
    · rename_i e he
      cases hr
      refine ⟨?_, fun b y e => by simp [Fr.ev, ofConst] at e⟩
      simp only [typed, he]
      exact .ofVLL (by simp) .nil
    · cases hr
  · rename_i hx
    obtain ⟨g1, g2⟩ := ev_sound F hr
    refine ⟨?_, g2⟩
    unfold typed
    split
    · exact (hx rfl).elim
    · exact g1

theorem evsT_sound (F : FX ρ s.tm n fr) : ∀ {ts : List TypeId} {l : List Operand} {vs : List V}, evsT P s ts l = some vs → VL ρ vs (argsV P (fun x => (fr.ev x).strip) ts l) ∧ ∀ x ∈ l, Here (fr.ev x)
  | ts, [], vs, hr => by
    have : vs = [] := by cases ts <;> (simp only [evsT] at hr; cases hr; rfl)
    subst this
    exact ⟨by cases ts <;> exact .nil, fun x h => by cases h⟩
  | [], x :: l, vs, hr => by
    simp only [evsT] at hr
    split at hr
    · rename_i v r h1 h2
      cases hr
      obtain ⟨g1, g2⟩ := ev_sound F h1
      obtain ⟨g3, g4⟩ := evsT_sound F h2
      exact ⟨.cons g1 g3, fun y hy => by rcases List.mem_cons.1 hy with rfl | hy; exact g2; exact g4 y hy⟩
    · cases hr
  | t :: ts, x :: l, vs, hr => by
    simp only [evsT] at hr
    split at hr
    · rename_i v r h1 h2
      cases hr
      obtain ⟨g1, g2⟩ := evT_sound F h1
      obtain ⟨g3, g4⟩ := evsT_sound F h2
      exact ⟨.cons g1 g3, fun y hy => by rcases List.mem_cons.1 hy with rfl | hy; exact g2; exact g4 y hy⟩
    · cases hr
end
end Jx
end

section
/- Operations, regions, statements, calls: what is run is so. -/
namespace Jx
open Go Jb

section
variable {P : Program} {ρ : Locs} {s : St} {h : Heap} {n : Nat} {fr : Fr}

theorem shape1_ans {t : TypeId} {v u : V} {K : V → Prop} (hv : VR ρ v u) (ho : okShape1 P t v = true) (hK : K u) : shape1 P 2 t u K := by
  unfold okShape1 at ho
  unfold shape1
  cases hu : P.underlying t with
  | none => rw [hu] at ho; simp only at ho ⊢; have : u.plain = true := by rw [hv.plain]; exact ho
            exact ⟨this, by rw [deLp_same this]; exact hK⟩
  | some d =>
    rw [hu] at ho
    cases d <;> simp only at ho ⊢ <;> first
      | (have hp : u.plain = true := by rw [hv.plain]; exact ho
         exact ⟨hp, by rw [deLp_same hp]; exact hK⟩)
      | skip
    · -- a pointer
      unfold ptrK
      cases hv <;> simp only at ho <;> first | exact hK | cases ho
    · -- a slice
      cases v <;> simp only at ho <;> try cases ho
      · obtain ⟨l', rfl, hl, hg⟩ := hv.sl_inv
        exact ⟨by simp [V.isSl, Nat.eq_of_beq_eq_true ho], hK⟩
      · rename_i es _ _ _ _
        have : ∃ l o n c, u = .sref es l o n c := by cases hv <;> exact ⟨_, _, _, _, rfl⟩
        obtain ⟨l, o, n, c, rfl⟩ := this
        exact ⟨by simp only [V.isSl, V.isRef, ho, Bool.or_true], hK⟩
theorem shapes_ans : ∀ {ts : List TypeId} {i : Nat} {vs us us' : List V} {K : List V → Prop}, VL ρ vs us → us' = us'.take i ++ us → i ≤ us'.length → okShapes P ts vs = true → K us → shapes P 2 ts i us' K
  | [], i, vs, us, us', K, h, _, _, ho, hK => by
    cases vs with
    | nil =>
      have : us = [] := List.length_eq_zero_iff.1 (by simpa using h.1)
      subst this
      exact hK
    | cons => simp [okShapes] at ho
  | t :: ts, i, vs, us, us', K, h, he, hi, ho, hK => by
    cases vs with
    | nil => simp [okShapes] at ho
    | cons v vs =>
      cases us with
      | nil => have := h.1; simp at this
      | cons u us =>
        simp only [okShapes, Bool.and_eq_true] at ho
        obtain ⟨h1, h2⟩ := h.tail
        have hlen : (us'.take i).length = i := by simp; omega
        have hget : us'.getD i .undef = u := by
          rw [he]
          simp [List.getD, List.getElem?_append_right, hlen]
        simp only [shapes]
        rw [hget]
        have hl : us'.length = i + (us.length + 1) := by rw [he]; simp; omega
        refine shape1_ans h1 ho.1 (shapes_ans (us := us) h2 ?_ (by omega) ho.2 hK)
        have : us'.take (i + 1) = us'.take i ++ [u] := by
          rw [List.take_add_one]
          congr 1
          have : us'[i]? = some u := by rw [he, List.getElem?_append_right (by omega), hlen]; simp
          rw [this]; rfl
        rw [this]
        simpa using he

theorem shape_ans {t : TypeId} {v u : V} {K : V → Prop} (hv : VR ρ v u) (ho : okShape P t v = true) (hK : K u) : shapeW P 2 t u K := by
  unfold okShape at ho
  unfold shapeW
  split at ho
  · rename_i ts ht
    rw [ht]
    simp only
    split at ho
    · rename_i vs
      obtain ⟨us, rfl, hc⟩ := hv.tup_inv
      have hl : ∀ {ts : List TypeId} {vs : List V}, okShapes P ts vs = true → ts.length = vs.length := by
        intro ts
        induction ts with
        | nil => intro vs h; cases vs <;> simp [okShapes] at h ⊢
        | cons t ts ih => intro vs h; cases vs <;> simp [okShapes] at h ⊢; exact ih h.2
      refine ⟨?_, shapes_ans hc (by simp [V.vs]) (Nat.zero_le _) ho hK⟩
      simp only [V.isTup]
      rw [hc.1, ← hl ho]
      exact Nat.beq_refl _
    · cases ho
  · rename_i h1
    split
    · rename_i ts ht; exact (h1 _ ht).elim
    · exact shape1_ans hv ho hK

theorem all_plain {vs us : List V} (h : VL ρ vs us) (ha : vs.all V.plain = true) : us.all V.plain = true := by
  rw [List.all_eq_true] at ha ⊢
  intro x hx
  obtain ⟨i, hi⟩ := List.getElem?_of_mem hx
  have hlt : i < vs.length := by have := (List.getElem?_eq_some_iff.1 hi).1; rw [← h.1]; exact this
  have := h.2 i _ x (List.getElem?_eq_getElem hlt) hi
  rw [this.plain]
  exact ha _ (List.getElem_mem hlt)

theorem eff_sound {E : Env} (O : EnvOk P E) (X : HX ρ s.h s.nx h) (F : FX ρ s.tm n fr) {o : Op} {ty : TypeId} {r : V} {s' : St} (hr : effX P E s o ty = some (r, s')) {K : V → Fr → Heap → Prop} (hK : Behind ρ s' r fun u h' => K u fr h') :
    effW P 2 o ty (fun x => (fr.ev x).strip) fr h K ∧ s'.tm = s.tm ∧ ∀ x ∈ o.operands.toList, Here (fr.ev x) := by
  cases o <;> try (simp only [effX] at hr; cases hr; done)
  case alloc t =>
    simp only [effX] at hr
    split at hr
    · rename_i cs hz
      cases hr
      refine ⟨?_, rfl, fun x hx => by simp [Op.operands] at hx⟩
      simp only [effW, hz]
      intro l hl
      refine hK _ _ _ (X.sub ⟨l, 0, 0⟩) ?_ (add_all X hl (zeroV_refl hz))
      have := VR.ptr (ρ := ρ.add s.nx ⟨l, 0, 0⟩) s.nx 0 ⟨l, 0, 0⟩ (by simp [Locs.add])
      simpa using this
    · cases hr
  case box t x =>
    simp only [effX] at hr
    split at hr
    · rename_i v hok hv
      split at hr
      · rename_i cs hc
        cases hr
        obtain ⟨g1, g2⟩ := ev_sound F hv
        obtain ⟨cs', c, a1, a2, a3, a4⟩ := cellsOf_sound g1 hc
        refine ⟨?_, rfl, fun x hx => by simp [Op.operands] at hx; subst hx; exact g2⟩
        simp only [effW, hok, a1]
        refine ⟨a2, fun l hl => ?_⟩
        refine hK _ _ _ (X.sub ⟨l, 0, 0⟩) ?_ (add_all X hl a3)
        have := VR.ptr (ρ := ρ.add s.nx ⟨l, 0, 0⟩) s.nx 0 ⟨l, 0, 0⟩ (by simp [Locs.add])
        simpa using this
      · cases hr
    · cases hr
  case buildSlice t k ps =>
    simp only [effX] at hr
    split at hr
    case h_2 => cases hr
    rename_i l hl
    obtain ⟨⟨g1, g2⟩, g3⟩ := parts_sound F hl
    split at hr
    case h_2 => cases hr
    rename_i es l0 hb
    cases hr
    obtain ⟨l', c, a1, a2, a3⟩ := lit_sound g1 g2 hb
    refine ⟨?_, rfl, fun x hx => by simp [Op.operands] at hx; obtain ⟨i, hx⟩ := hx; exact g3 _ (by simpa using hx)⟩
    simp only [effW, a1]
    refine ⟨a2, fun k hk => ?_⟩
    rw [a3.1]
    exact hK _ _ _ (X.sub _) exact_new (add_all X hk a3.flatten)
  case store t a x =>
    simp only [effX] at hr
    split at hr
    · rename_i p v hp hv
      split at hr
      · rename_i s2 hs
        cases hr
        obtain ⟨g1, g2⟩ := ev_sound F hp
        obtain ⟨g3, g4⟩ := evT_sound F hv
        have htm : s'.tm = s.tm := by
          unfold storeX at hs
          split at hs
          · split at hs
            · split at hs
              · unfold St.write at hs
                split at hs
                · cases hs; rfl
                · cases hs
              · cases hs
            · cases hs
          · cases hs
        refine ⟨store_sound X g1 g3 hs fun h' X' => hK ρ _ h' (Sub.refl _) .undef X', htm, fun y hy => ?_⟩
        simp [Op.operands] at hy
        rcases hy with rfl | rfl
        · exact g2
        · exact g4
      · cases hr
    · cases hr
  case makeSlice t a b =>
    simp only [effX] at hr
    split at hr
    · rename_i u v hu hv
      obtain ⟨g1, g2⟩ := ev_sound F hu
      obtain ⟨g3, g4⟩ := ev_sound F hv
      obtain ⟨k1, k2⟩ := make_sound X g1 g3 hr hK
      refine ⟨k1, k2, fun y hy => ?_⟩
      simp [Op.operands] at hy
      rcases hy with rfl | rfl
      · exact g2
      · exact g4
    · cases hr
  case makeMap t r0 =>
    cases r0 with
    | some _ => simp [effX] at hr
    | none =>
      simp only [effX] at hr
      cases hr
      refine ⟨fun l hl => ?_, rfl, fun x hx => by simp [Op.operands] at hx⟩
      refine hK _ _ _ (X.sub ⟨l, 0, 0⟩) ?_ (X.new hl 0 ⟨[], rfl, rfl, fun i a b c d h => by simp at h⟩)
      exact .map _ ⟨l, 0, 0⟩ (by simp [Locs.add])
  case mapUpdate t m k v =>
    simp only [effX] at hr
    split at hr
    · rename_i a b c ha hb hc
      split at hr
      · rename_i s2 hs
        cases hr
        obtain ⟨g1, g2⟩ := ev_sound F ha
        obtain ⟨g3, g4⟩ := ev_sound F hb
        obtain ⟨g5, g6⟩ := ev_sound F hc
        obtain ⟨k1, k2⟩ := mapUpdate_sound X g1 g3 g5 hs (K := fun h' => K .undef fr h') fun h' X' => hK ρ _ h' (Sub.refl _) .undef X'
        refine ⟨k1, k2, fun y hy => ?_⟩
        simp [Op.operands] at hy
        rcases hy with rfl | rfl | rfl
        · exact g2
        · exact g4
        · exact g6
      · cases hr
    · cases hr
  case convert a d x =>
    simp only [effX] at hr
    split at hr
    · rename_i e es l o m c had hs hv
      split at hr
      · rename_i cs hz hc
        cases hr
        obtain ⟨g1, g2⟩ := ev_sound F hv
        obtain ⟨L, cap, k1, k2, k3, k4⟩ := ref_place X g1 hc
        refine ⟨?_, rfl, fun y hy => by simp [Op.operands] at hy; subst hy; exact g2⟩
        simp only [effW, had, hs]
        rw [k2]
        simp only [hz]
        exact ⟨Nat.succ_pos _, k3, hK ρ _ h (Sub.refl _) (by rw [k2] at g1; exact g1) X⟩
      · cases hr
    · cases hr
  case binOp op t x y t2 =>
    by_cases hy : y = .const (.slice none 0 0)
    · subst hy
      simp only [effX] at hr
      split at hr
      case h_2 => cases hr
      rename_i v hv
      obtain ⟨g1, g2⟩ := ev_sound F hv
      have main : ∀ e, P.underlying t = some (.slice e) → someSl v = true → (op = .eql ∧ r = .bool false ∨ op = .neq ∧ r = .bool true) → s' = s →
          effW P 2 (.binOp op t x (.const (.slice none 0 0)) t2) ty (fun x => (fr.ev x).strip) fr h K := by
        intro e ht hsm hop hs
        subst hs
        unfold someSl at hsm
        split at hsm
        · obtain ⟨l', hu, hl, _⟩ := g1.sl_inv
          have hne : l' ≠ [] := fun h => by subst h; have := hl.1; simp at this
          rcases hop with ⟨rfl, rfl⟩ | ⟨rfl, rfl⟩
          · simp only [effW, ht, hu]
            intro b hb
            rw [hb hne]
            exact hK ρ _ h (Sub.refl _) (.bool _) X
          · simp only [effW, ht, hu]
            intro b hb
            rw [hb hne]
            exact hK ρ _ h (Sub.refl _) (.bool _) X
        · rename_i es l0 o0 m c0
          have : ∃ l o c, (fr.ev x).strip = .sref es l o (m + 1) c := by
            generalize (fr.ev x).strip = u at g1
            cases g1 <;> exact ⟨_, _, _, rfl⟩
          obtain ⟨l, o, c, hu⟩ := this
          rcases hop with ⟨rfl, rfl⟩ | ⟨rfl, rfl⟩
          · simp only [effW, ht, hu]
            intro b hb
            rw [hb (by simp)]
            exact hK ρ _ h (Sub.refl _) (.bool _) X
          · simp only [effW, ht, hu]
            intro b hb
            rw [hb (by simp)]
            exact hK ρ _ h (Sub.refl _) (.bool _) X
        · cases hsm
      have here : ∀ z ∈ (Op.binOp op t x (.const (.slice none 0 0)) t2).operands.toList, Here (fr.ev z) := by
        intro z hz
        simp [Op.operands] at hz
        rcases hz with rfl | rfl
        · exact g2
        · exact fun b y e => by simp [Fr.ev, ofConst] at e
      have slT : ∀ {b : Bool}, (someSl v && (match P.underlying t with | some (.slice _) => true | _ => false)) = true → someSl v = true ∧ ∃ e, P.underlying t = some (.slice e) := by
        intro b hb
        simp only [Bool.and_eq_true] at hb
        refine ⟨hb.1, ?_⟩
        have := hb.2
        split at this
        · rename_i e he; exact ⟨e, he⟩
        · cases this
      split at hr
      · rename_i hb
        cases hr
        obtain ⟨h1, e, h2⟩ := slT (b := true) hb
        exact ⟨main e h2 h1 (.inl ⟨rfl, rfl⟩) rfl, rfl, here⟩
      · rename_i hb
        cases hr
        obtain ⟨h1, e, h2⟩ := slT (b := true) hb
        exact ⟨main e h2 h1 (.inr ⟨rfl, rfl⟩) rfl, rfl, here⟩
      · cases hr
    · exfalso
      unfold effX at hr
      split at hr <;> first | (rename_i e; cases e; done) | cases hr | skip
      all_goals first
        | (rename_i e; injection e with e1 e2 e3 e4 e5; exact hy e4)
        | skip
  case call c =>
    obtain ⟨callee, args, ts⟩ := c
    simp only [effX] at hr
    split at hr
    · cases hr
    · rename_i vs hvs
      obtain ⟨g1, g2⟩ := evsT_sound F hvs
      cases callee with
      | value f =>
        simp only at hr
        have hargs : ∀ x ∈ (Op.call { callee := .value f, args := args, argTypes := ts }).operands.toList, x = f ∨ x ∈ args.toList := by
          intro x hx
          simpa [Op.operands, Call.operands] using hx
        have shp : ∀ {w : Option (V × St)}, shapedX P ty w = some (r, s') → w = some (r, s') ∧ okShape P ty r = true := by
          intro w hw
          unfold shapedX at hw
          split at hw
          · split at hw
            · rename_i ho; cases hw; exact ⟨rfl, ho⟩
            · cases hw
          · cases hw
        have wth : ∀ {w : Option (V × T Xb × Nat)}, withH s w = some (r, s') → ∃ H' nx', w = some (r, H', nx') ∧ s' = { s with h := H', nx := nx' } := by
          intro w hw
          unfold withH at hw
          split at hw
          · cases hw; exact ⟨_, _, rfl, rfl⟩
          · cases hw
        split at hr
        · rename_i k first caps hf hp
          obtain ⟨f1, f2⟩ := ev_sound F hf
          obtain ⟨hw, ho⟩ := shp hr
          obtain ⟨H', nx', hc, rfl⟩ := wth hw
          refine ⟨?_, rfl, fun x hx => by rcases hargs x hx with rfl | hx; exact f2; exact g2 x hx⟩
          have hp' := all_plain g1 hp
          generalize hu : (fr.ev f).strip = uf at f1
          cases f1 with
          | fn _ _ a' _ b' l1 l2 ha hb =>
            have hcall := O.call _ _ _ _ _ _ _ hc
            have hcall := hcall ρ (a' ++ argsV P (fun x => (fr.ev x).strip) ts.toList args.toList ++ b') h ((VL.append (show VL ρ first a' from ⟨l1, ha⟩) g1).append ⟨l2, hb⟩) X
            simp only [effW, hu, hp']
            refine AnyW.mono hcall ?_
            rintro u h' ⟨ρ', h1, h2, h3⟩
            exact shape_ans h2 ho (hK ρ' u h' h1 h2 h3)
        · rename_i l hf hp
          obtain ⟨f1, f2⟩ := ev_sound F hf
          obtain ⟨hw, ho⟩ := shp hr
          obtain ⟨H', nx', hc, rfl⟩ := wth hw
          refine ⟨?_, rfl, fun x hx => by rcases hargs x hx with rfl | hx; exact f2; exact g2 x hx⟩
          have hp' := all_plain g1 hp
          generalize hu : (fr.ev f).strip = uf at f1
          cases f1 with
          | yield _ L hL =>
            simp only [effW, hu, hp']
            refine YieldW.mono (O.yield _ _ _ _ _ _ _ hc ρ _ h L g1 X hL) ?_
            rintro u h' ⟨ρ', h1, h2, h3⟩
            exact shape_ans h2 ho (hK ρ' u h' h1 h2 h3)
        · cases hr
      | invoke a b => simp at hr
      | builtin b =>
        have here : ∀ x ∈ (Op.call { callee := .builtin b, args := args, argTypes := ts }).operands.toList, Here (fr.ev x) := by
          intro x hx
          exact g2 x (by simpa [Op.operands, Call.operands] using hx)
        cases b <;> try (simp at hr; done)
        case append =>
          simp only at hr
          split at hr
          case h_2 => cases hr
          rename_i t t2 tr x y hts
          cases ha : args.toList with
          | nil => rw [ha] at g1; have := g1.1; cases ts.toList <;> simp [argsV] at this
          | cons a1 l1 =>
            rw [ha, hts] at g1
            simp only [argsV] at g1
            obtain ⟨p1, g1⟩ := g1.tail
            cases l1 with
            | nil => have := g1.1; simp [argsV] at this
            | cons a2 l2 =>
              simp only [argsV] at g1
              obtain ⟨p2, g1⟩ := g1.tail
              cases l2 with
              | cons a3 l3 => have := g1.1; cases tr <;> simp [argsV] at this
              | nil =>
                obtain ⟨k1, k2⟩ := append_sound X p1 p2 hr hK
                refine ⟨?_, k2, here⟩
                simp only [effW, hts, ha, appendX]
                exact k1
        case copy =>
          simp only at hr
          split at hr
          case h_2 => cases hr
          rename_i t t2 tr x y hts
          cases ha : args.toList with
          | nil => rw [ha] at g1; have := g1.1; cases ts.toList <;> simp [argsV] at this
          | cons a1 l1 =>
            rw [ha, hts] at g1
            simp only [argsV] at g1
            obtain ⟨p1, g1⟩ := g1.tail
            cases l1 with
            | nil => have := g1.1; simp [argsV] at this
            | cons a2 l2 =>
              simp only [argsV] at g1
              obtain ⟨p2, g1⟩ := g1.tail
              cases l2 with
              | cons a3 l3 => have := g1.1; cases tr <;> simp [argsV] at this
              | nil =>
                obtain ⟨k1, k2⟩ := copy_sound X p1 p2 hr hK
                refine ⟨?_, k2, here⟩
                simp only [effW, hts, ha]
                exact k1
        case len =>
          simp only at hr
          split at hr
          case h_2 => cases hr
          rename_i t tr x hts
          cases ha : args.toList with
          | nil => rw [ha] at g1; have := g1.1; cases ts.toList <;> simp [argsV] at this
          | cons a1 l1 =>
            rw [ha, hts] at g1
            simp only [argsV] at g1
            obtain ⟨p1, g1⟩ := g1.tail
            cases l1 with
            | cons a3 l3 => have := g1.1; cases tr <;> simp [argsV] at this
            | nil =>
              split at hr
              case h_2 => cases hr
              rename_i es hmt hmx
              cases hr
              obtain ⟨kt, e, ht⟩ := mapT_some hmt
              refine ⟨?_, rfl, here⟩
              simp only [effW, hts, ha]
              have hty : typed P (fun x => (fr.ev x).strip) t a1 = (fr.ev a1).strip := by
                unfold typed
                split
                · simp only [ht]; rfl
                · rfl
              rw [hty] at p1
              obtain ⟨es', hm', hl, _⟩ := map_sound X p1 hmx
              unfold lenMW
              simp only [ht, hm']
              rw [hl]
              exact hK ρ _ h (Sub.refl _) (.int _ _) X
        case clear =>
          simp only at hr
          split at hr
          case h_2 => cases hr
          rename_i t tr x hts
          cases ha : args.toList with
          | nil => rw [ha] at g1; have := g1.1; cases ts.toList <;> simp [argsV] at this
          | cons a1 l1 =>
            rw [ha, hts] at g1
            simp only [argsV] at g1
            obtain ⟨p1, g1⟩ := g1.tail
            cases l1 with
            | cons a3 l3 => have := g1.1; cases tr <;> simp [argsV] at this
            | nil =>
              obtain ⟨k1, k2⟩ := clear_sound X p1 hr hK
              refine ⟨?_, k2, here⟩
              simp only [effW, hts, ha]
              exact k1
end
end Jx
end

section
/- Operations and regions: what is run is so. -/
namespace Jx
open Go Jb

section
variable {P : Program} {ρ : Locs} {s : St} {h : Heap} {n : Nat} {fr : Fr}

theorem FX.mono {ρ ρ' : Locs} {tm : T V} (S : Sub ρ ρ') (F : FX ρ tm n fr) : FX ρ' tm n fr :=
  ⟨F.len, F.lc, fun t v hv => by obtain ⟨u, hu, hr⟩ := F.at_ t v hv; exact ⟨u, hu, hr.mono S⟩⟩

theorem FX.put {s : St} (F : FX ρ s.tm n fr) (dst : Option Tmp) (hd : ∀ d, dst = some d → d < n) {v : Option V} {u : V} (hv : ∀ x, v = some x → VR ρ x u) : FX ρ (s.put dst v).tm n (fr.put dst u) := by
  cases dst with
  | none => exact F
  | some d =>
    have hlt := hd d rfl
    refine ⟨by simp [Fr.put, F.len], F.lc, fun t x hx => ?_⟩
    have hy : (s.tm.put v d).get t = some x := hx
    rw [T.get_put] at hy
    show ∃ w, (fr.tm.set d u)[t]? = some w ∧ VR ρ x w
    by_cases e : t = d
    · rw [if_pos e] at hy
      subst e
      refine ⟨u, ?_, hv x hy⟩
      rw [List.getElem?_set_self (by rw [F.len]; exact hlt)]
    · rw [if_neg e] at hy
      rw [List.getElem?_set_ne (fun c => e c.symm)]
      exact F.at_ t x hy

theorem put_h (s : St) (dst : Option Tmp) (v : Option V) : (s.put dst v).h = s.h ∧ (s.put dst v).nx = s.nx := by cases dst <;> exact ⟨rfl, rfl⟩

theorem HX.put {s : St} (X : HX ρ s.h s.nx h) (dst : Option Tmp) (v : Option V) : HX ρ (s.put dst v).h (s.put dst v).nx h := by
  rw [(put_h s dst v).1, (put_h s dst v).2]; exact X

theorem guard_sound (F : FX ρ s.tm n fr) {ops : List Oper} {o : Oper} {g : Option Bool} (hr : guardX ops s o = some g) : guardOf ops fr o = some g := by
  unfold guardX at hr
  unfold guardOf
  split at hr
  · rename_i e; cases hr; rw [e]
  · rename_i j want e
    rw [e]
    simp only
    split at hr
    · rename_i p hp
      rw [hp]
      simp only
      split at hr
      · rename_i d hd
        rw [hd]
        simp only
        split at hr
        · rename_i t ht
          cases hr
          obtain ⟨u, hu, hv⟩ := F.at_ d _ ht
          have : fr.tm.getD d .undef = u := by simp [List.getD, hu]
          rw [this]
          cases hv
          rfl
        · rename_i t ht
          cases hr
          obtain ⟨u, hu, hv⟩ := F.at_ d _ ht
          have : fr.tm.getD d .undef = u := by simp [List.getD, hu]
          rw [this]
          cases hv with
          | opt _ u hv =>
            cases hv
            cases want <;> simp only [Bool.true_and]
        · rename_i t ht
          cases hr
          obtain ⟨u, hu, hv⟩ := F.at_ d _ ht
          have : fr.tm.getD d .undef = u := by simp [List.getD, hu]
          rw [this]
          cases hv with
          | skip u =>
            cases u <;> simp only [Bool.false_and]
        · cases hr
      · cases hr
    · cases hr

theorem needs_here {g : Option Bool} (hg : g ≠ some false ∨ True) : ∀ {l : List V} {R : Prop}, (∀ v ∈ l, Here v) → R → optNeeds g l R
  | [], R, _, hR => hR
  | v :: r, R, h, hR => by
    have ih := needs_here hg (l := r) (fun x hx => h x (List.mem_cons_of_mem _ hx)) hR
    unfold optNeeds
    unfold optNeed
    split
    · rename_i b y
      have hb : b = true := h _ List.mem_cons_self b y rfl
      subst hb
      refine ⟨?_, ih⟩
      cases g <;> simp
    · exact ih

theorem needs_false : ∀ {l : List V} {R : Prop}, R → optNeeds (some false) l R
  | [], R, hR => hR
  | v :: r, R, hR => by
    have ih := needs_false (l := r) hR
    unfold optNeeds
    unfold optNeed
    split
    · exact ⟨by simp, ih⟩
    · exact ih

theorem yes_sound {t : TypeId} {v u : V} (h : VR ρ v u) : VR ρ (yesV P t true v) (yesV P t true u) := by
  unfold yesV
  cases P.underlying t with
  | none => exact h
  | some d => cases d <;> first | exact .opt _ _ h | exact h

theorem op_sound {E : Env} (O : EnvOk P E) (X : HX ρ s.h s.nx h) (F : FX ρ s.tm n fr) {esc : List Nat} {ops : List Oper} {o : Oper} {s' : St} (hm : dstMode o esc = 2) (hd : ∀ d, o.dst = some d → d < n)
    (hr : opX P E esc ops s o = some s') {K : Fr → Heap → Prop} (hK : ∀ ρ' fr' h', Sub ρ ρ' → HX ρ' s'.h s'.nx h' → FX ρ' s'.tm n fr' → K fr' h') : opW P esc ops o fr h K ∧ sortOf esc o ≠ 1 := by
  unfold opX at hr
  unfold opW
  split at hr
  · cases hr
  · -- it is skipped
    rename_i hg
    rw [guard_sound F hg]
    simp only
    generalize hs : sortOf esc o = k at hr
    match k, hr with
    | 0, hr =>
      simp only at hr
      cases hr
      refine ⟨?_, by omega⟩
      simp only
      unfold quietW
      refine needs_false ?_
      have fin : ∀ u, K (fr.put o.dst (.opt false u)) h := fun u => hK ρ _ _ (Sub.refl _) (X.put _ _) (F.put _ hd fun x hx => by
        have : V.opt false .undef = x := by simpa [skipped] using hx
        subst this
        exact .skip u)
      split
      · exact fin _
      · rename_i e; cases e
      · rename_i e; cases e; exact ⟨by simp, fin _⟩
      · rename_i e; cases e
      · rename_i e; cases e; exact ⟨rfl, fin _⟩
    | 1, hr => simp at hr
    | k + 2, hr =>
      simp only at hr
      cases hr
      refine ⟨?_, by omega⟩
      simp only [brW]
      refine hK ρ _ _ (Sub.refl _) (X.put _ _) (F.put _ hd fun x hx => ?_)
      unfold skipped at hx
      unfold noV
      cases hu : P.underlying o.type with
      | none => rw [hu] at hx; simp at hx
      | some d =>
        rw [hu] at hx
        cases d <;> simp at hx <;> subst hx <;> exact .skip _
  · rename_i g hne hg
    rw [guard_sound F hg]
    simp only
    have hgf : g = none ∨ g = some true := by
      cases g with
      | none => exact .inl rfl
      | some b => cases b with
        | true => exact .inr rfl
        | false => exact (hne rfl).elim
    generalize hs : sortOf esc o = k at hr
    match k, hr with
    | 0, hr =>
      simp only at hr
      split at hr
      · rename_i v hv
        cases hr
        refine ⟨?_, by omega⟩
        obtain ⟨⟨u, hq, hvu⟩, hh⟩ := q_sound X F o hm hv
        simp only
        unfold quietW
        refine needs_here (.inr trivial) hh ?_
        rcases hgf with rfl | rfl
        · have fin : K (fr.put o.dst u) h := hK ρ _ _ (Sub.refl _) (X.put _ _) (F.put _ hd fun x hx => by cases hx; exact hvu)
          rcases hq with hq | ⟨c, hq, hc⟩
          · rw [hq]; exact fin
          · rw [hq]; exact ⟨hc, fin⟩
        · have fin : K (fr.put o.dst (.opt true u)) h := hK ρ _ _ (Sub.refl _) (X.put _ _) (F.put _ hd fun x hx => by cases hx; exact .opt _ _ hvu)
          rcases hq with hq | ⟨c, hq, hc⟩
          · rw [hq]; exact fin
          · rw [hq]; exact ⟨fun _ => hc, fin⟩
      · cases hr
    | 1, hr => simp at hr
    | k + 2, hr =>
      simp only at hr
      split at hr
      · rename_i v s1 he
        cases hr
        refine ⟨?_, by omega⟩
        simp only
        have main : ∀ (tr : V → V), (∀ ρ' u, VR ρ' v u → VR ρ' (yesX P o.type g v) (tr u)) → optNeeds none (o.op.operands.toList.map fr.ev) (effW P (dstMode o esc) o.op o.type (fun x => (fr.ev x).strip) fr h fun v fr' h' => K (fr'.put o.dst (tr v)) h') := by
          intro tr htr
          have hB : Behind ρ s1 v fun u h' => K (fr.put o.dst (tr u)) h' := by
            intro ρ' u h' S hvu X'
            have htm : s1.tm = s.tm := (eff_sound O X F he (K := fun _ _ _ => True) (fun _ _ _ _ _ _ => trivial)).2.1
            exact hK ρ' _ _ S (X'.put _ _) (FX.put (s := s1) (by rw [htm]; exact F.mono S) _ hd fun x hx => by cases hx; exact htr ρ' u hvu)
          obtain ⟨k1, k2, k3⟩ := eff_sound O X F he (K := fun u f h' => K (f.put o.dst (tr u)) h') hB
          rw [hm]
          refine needs_here (.inr trivial) (fun v hv => ?_) k1
          obtain ⟨x, hx, rfl⟩ := List.mem_map.1 hv
          exact k3 x hx
        rcases hgf with rfl | rfl
        · exact main id fun ρ' u hvu => hvu
        · exact main (fun v => yesV P o.type true v) fun ρ' u hvu => yes_sound hvu
      · cases hr

theorem ops_sound {E : Env} (O : EnvOk P E) {esc : List Nat} (hm : hasN esc 999999 = true) {ops : List Oper} : ∀ {r : List Oper} {ρ : Locs} {s s' : St} {h : Heap} {fr : Fr}, HX ρ s.h s.nx h → FX ρ s.tm n fr →
    (∀ o ∈ r, ∀ d, o.dst = some d → d < n) → opsX P E esc ops r s = some s' → ∀ {K : Fr → Heap → Prop}, (∀ ρ' fr' h', Sub ρ ρ' → HX ρ' s'.h s'.nx h' → FX ρ' s'.tm n fr' → K fr' h') → opsW P esc ops r fr h K
  | [], ρ, s, s', h, fr, X, F, _, hr, K, hK => by
    simp only [opsX] at hr
    cases hr
    exact hK ρ fr h (Sub.refl _) X F
  | o :: r, ρ, s, s', h, fr, X, F, hd, hr, K, hK => by
    simp only [opsX] at hr
    split at hr
    · rename_i s1 h1
      refine (op_sound O X F (by unfold dstMode; rw [hm]) (hd o List.mem_cons_self) h1 (K := fun fr' h' => opsW P esc ops r fr' h' K) fun ρ' fr' h' S X' F' => ?_).1
      exact ops_sound O hm X' F' (fun o ho => hd o (List.mem_cons_of_mem _ ho)) hr fun ρ'' fr'' h'' S' X'' F'' => hK ρ'' fr'' h'' (S.trans S') X'' F''
    · cases hr

theorem op_sort {E : Env} {esc : List Nat} {ops : List Oper} {o : Oper} {s s' : St} (hr : opX P E esc ops s o = some s') : sortOf esc o ≠ 1 := by
  intro hs
  unfold opX at hr
  rw [hs] at hr
  split at hr
  · cases hr
  · cases hr
  · cases hr

theorem ops_sort {E : Env} {esc : List Nat} {ops : List Oper} : ∀ {r : List Oper} {s s' : St}, opsX P E esc ops r s = some s' → ∀ o ∈ r, sortOf esc o ≠ 1
  | [], s, s', _, o, ho => by cases ho
  | a :: r, s, s', hr, o, ho => by
    simp only [opsX] at hr
    split at hr
    · rename_i s1 h1
      rcases List.mem_cons.1 ho with rfl | ho
      · exact op_sort h1
      · exact ops_sort hr o ho
    · cases hr

theorem begun_nil {esc : List Nat} : ∀ {ops : List Oper}, (∀ o ∈ ops, sortOf esc o ≠ 1) → Jb.begun esc ops = []
  | [], _ => rfl
  | o :: r, h => by
    unfold Jb.begun
    split
    · rename_i e _; exact (h o List.mem_cons_self e).elim
    · exact begun_nil fun x hx => h x (List.mem_cons_of_mem _ hx)
end
end Jx
end

section
/- Regions in a free order; regions. -/
namespace Jx
open Go Jb

section
variable {P : Program} {ρ : Locs} {s : St} {h : Heap} {n : Nat} {fr : Fr}

theorem kind_same {k k' : IntKind} (h : kindEq k k' = true) : k = k' := kindEq_eq h

theorem sameG_eq {g g' : G} (h : sameG g g' = true) : g = g' := by
  cases g <;> cases g' <;> simp [sameG] at h <;> rfl

mutual
theorem same_sound : ∀ (a b u w : V), sameV a b = true → VR ρ a u → VR ρ b w → u = w
  | .agg a, b, u, w, h, h1, h2 => by
    cases b <;> simp only [sameV] at h <;> try cases h
    obtain ⟨a', rfl, ha⟩ := h1.agg_inv
    obtain ⟨b', rfl, hb⟩ := h2.agg_inv
    rw [sames_sound a _ a' b' h ha hb]
  | .sl es l g, b, u, w, h, h1, h2 => by
    cases b <;> simp only [sameV, Bool.and_eq_true] at h <;> try (cases h; done)
    obtain ⟨a', rfl, ha, _⟩ := h1.sl_inv
    obtain ⟨b', rfl, hb, _⟩ := h2.sl_inv
    obtain ⟨⟨h12, h13⟩, h3⟩ := h
    rw [samess_sound l _ a' b' h13 ha hb, Nat.eq_of_beq_eq_true h12, sameG_eq h3]
  | .opt c a, b, u, w, h, h1, h2 => by
    cases b <;> simp only [sameV, Bool.and_eq_true] at h <;> try (cases h; done)
    obtain ⟨⟨rfl, rfl⟩, h⟩ := h
    cases h1 with | opt _ x h1 => cases h2 with | opt _ y h2 =>
      rw [same_sound a _ x y h h1 h2]
  | .bool a, b, u, w, h, h1, h2 => by
    cases b <;> simp only [sameV] at h <;> try cases h
    cases h1
    cases h2
    rw [eq_of_beq h]
  | .int k a, b, u, w, h, h1, h2 => by
    cases b <;> simp only [sameV, Bool.and_eq_true] at h <;> try cases h
    cases h1
    cases h2
    rename_i g1 g2
    rw [eq_of_beq g2, kind_same g1]
  | .str a, b, u, w, h, h1, h2 => by
    cases b <;> simp only [sameV] at h <;> try cases h
    cases h1
    cases h2
    rw [ByteArray.ext (Array.ext' (eq_of_beq h))]
  | .nilp, b, u, w, h, h1, h2 => by
    cases b <;> simp only [sameV] at h <;> try cases h
    cases h1
    cases h2
    rfl
  | .nilfn, b, u, w, h, h1, h2 => by
    cases b <;> simp only [sameV] at h <;> try cases h
    cases h1
    cases h2
    rfl
  | .ptr k a, b, u, w, h, h1, h2 => by
    cases b <;> simp only [sameV, Bool.and_eq_true] at h <;> try cases h
    rename_i g1 g2
    cases Nat.eq_of_beq_eq_true g1
    cases Nat.eq_of_beq_eq_true g2
    cases h1 with | ptr _ _ L hL => cases h2 with | ptr _ _ M hM =>
      rw [hL] at hM
      cases hM
      rfl
  | .sref es k off m c, b, u, w, h, h1, h2 => by
    cases b <;> simp only [sameV, Bool.and_eq_true] at h <;> try cases h
    rename_i h h6
    obtain ⟨⟨⟨⟨e1, e2⟩, e3⟩, e4⟩, e5⟩ := h
    cases Nat.eq_of_beq_eq_true e1
    cases Nat.eq_of_beq_eq_true e2
    cases Nat.eq_of_beq_eq_true e3
    cases Nat.eq_of_beq_eq_true e4
    cases Nat.eq_of_beq_eq_true e5
    have hk : 0 < k := by simp [Nat.blt] at h6; omega
    cases h1 with
    | exact _ _ _ _ _ L hL hc =>
      cases h2 with
      | exact _ _ _ _ _ M hM hc' => rw [hL] at hM; cases hM; rfl
      | grown _ _ _ _ _ c' M hM hc' hle he hes => omega
      | none => omega
    | grown _ _ _ _ _ c' L hL hc hle he hes =>
      cases h2 with
      | exact _ _ _ _ _ M hM hc' => omega
      | grown _ _ _ _ _ c'' M hM hc' hle' he' hes' =>
        rw [hL] at hM
        cases hM
        have : c' * es = c'' * es := by omega
        rw [Nat.eq_of_mul_eq_mul_right hes this]
      | none => omega
    | none => omega
  | .undef, b, u, w, h, h1, h2 => by simp [sameV] at h
  | .lp _ _, b, u, w, h, h1, h2 => by simp [sameV] at h
  | .cptr _ _, b, u, w, h, h1, h2 => by simp [sameV] at h
  | .map none, b, u, w, h, h1, h2 => by
    cases b <;> try (simp [sameV] at h; done)
    rename_i r
    cases r with
    | some r => simp [sameV] at h
    | none => cases h1; cases h2; rfl
  | .map (some k), b, u, w, h, h1, h2 => by
    cases b <;> try (simp [sameV] at h; done)
    rename_i r
    cases r with
    | none => simp [sameV] at h
    | some r =>
      simp only [sameV] at h
      cases Nat.eq_of_beq_eq_true h
      cases h1 with | map _ L hL => cases h2 with | map _ M hM =>
        rw [hL] at hM
        cases hM
        rfl
  | .fn (.func f) a c, b, u, w, h, h1, h2 => by
    cases b <;> try (simp [sameV] at h; done)
    rename_i g a2 c2
    cases g <;> try (simp [sameV] at h; done)
    simp only [sameV, Bool.and_eq_true] at h
    obtain ⟨⟨e1, e2⟩, e3⟩ := h
    cases Nat.eq_of_beq_eq_true e1
    cases h1 with
    | fn _ _ a' _ c' l1 l2 ha hb =>
      cases h2 with
      | fn _ _ a2' _ c2' l3 l4 hc hd =>
        rw [sames_sound a _ a' a2' e2 ⟨l1, ha⟩ ⟨l3, hc⟩, sames_sound c _ c' c2' e3 ⟨l2, hb⟩ ⟨l4, hd⟩]
  | .fn (.yield _) _ _, b, u, w, h, h1, h2 => by cases b <;> simp [sameV] at h
  | .fn (.method _) _ _, b, u, w, h, h1, h2 => by cases b <;> simp [sameV] at h
  | .fn (.methodOf _ _) _ _, b, u, w, h, h1, h2 => by cases b <;> simp [sameV] at h
  | .iface t a, b, u, w, h, h1, h2 => by
    cases b <;> simp only [sameV, Bool.and_eq_true] at h <;> try (cases h; done)
    obtain ⟨ht, h⟩ := h
    cases Nat.eq_of_beq_eq_true ht
    cases h1 with
    | iface _ _ x hx hv =>
      cases h2 with
      | iface _ _ y _ hw => rw [same_sound a _ x y h hv hw]
      | num _ _ _ _ hu => rw [hu] at hx; cases hx
      | some_ _ _ _ _ _ _ _ _ hu => rw [hu] at hx; cases hx
    | num _ k n m hu hm =>
      cases h2 with
      | iface _ _ _ hx => rw [hu] at hx; cases hx
      | num _ k' n' m' _ hm' =>
        simp only [sameV, Bool.and_eq_true] at h
        cases kind_same h.1
        cases eq_of_beq h.2
        rw [hm] at hm'
        cases hm'
        rfl
      | some_ => simp [sameV] at h
    | some_ _ es id o c c' l g hu hl hn =>
      cases h2 with
      | iface _ _ _ hx => rw [hu] at hx; cases hx
      | num => simp [sameV] at h
      | some_ _ es' id' o' d d' l' g' _ hl' hn' =>
        simp only [sameV, Bool.and_eq_true] at h
        obtain ⟨⟨⟨⟨⟨e1, e2⟩, _⟩, _⟩, _⟩, _⟩ := h
        cases Nat.eq_of_beq_eq_true e1
        cases Nat.eq_of_beq_eq_true e2
        rw [hl] at hl'
        cases hl'
        rfl
  | .nilif, b, u, w, h, h1, h2 => by
    cases b <;> simp only [sameV] at h <;> try cases h
    cases h1
    cases h2
    rfl
  | .tup _, b, u, w, h, h1, h2 => by simp [sameV] at h
  termination_by a => sizeOf a
theorem sames_sound : ∀ (l m l' m' : List V), sameVs l m = true → VL ρ l l' → VL ρ m m' → l' = m'
  | [], m, l', m', h, h1, h2 => by
    cases m with
    | cons => simp [sameVs] at h
    | nil =>
      have e1 : l' = [] := List.length_eq_zero_iff.1 (by simpa using h1.1)
      have e2 : m' = [] := List.length_eq_zero_iff.1 (by simpa using h2.1)
      rw [e1, e2]
  | a :: l, m, l', m', h, h1, h2 => by
    cases m with
    | nil => simp [sameVs] at h
    | cons b m =>
      cases l' with
      | nil => have := h1.1; simp at this
      | cons u l' =>
        cases m' with
        | nil => have := h2.1; simp at this
        | cons w m' =>
          simp only [sameVs, Bool.and_eq_true] at h
          rw [same_sound a b u w h.1 h1.tail.1 h2.tail.1, sames_sound l m l' m' h.2 h1.tail.2 h2.tail.2]
  termination_by l => sizeOf l
theorem samess_sound : ∀ (l m l' m' : List (List V)), sameVss l m = true → VLL ρ l l' → VLL ρ m m' → l' = m'
  | [], m, l', m', h, h1, h2 => by
    cases m with
    | cons => simp [sameVss] at h
    | nil =>
      have e1 : l' = [] := List.length_eq_zero_iff.1 (by simpa using h1.1)
      have e2 : m' = [] := List.length_eq_zero_iff.1 (by simpa using h2.1)
      rw [e1, e2]
  | a :: l, m, l', m', h, h1, h2 => by
    cases m with
    | nil => simp [sameVss] at h
    | cons b m =>
      cases l' with
      | nil => have := h1.1; simp at this
      | cons u l' =>
        cases m' with
        | nil => have := h2.1; simp at this
        | cons w m' =>
          simp only [sameVss, Bool.and_eq_true] at h
          rw [sames_sound a b u w h.1 h1.tail.1 h2.tail.1, samess_sound l m l' m' h.2 h1.tail.2 h2.tail.2]
  termination_by l => sizeOf l
end

theorem again_sound (X : HX ρ s.h s.nx h) (F : FX ρ s.tm n fr) {esc : List Nat} (hm : hasN esc 999999 = true) {ops : List Oper} {j : Nat} (hr : againX P ops s j = true) : AgainOk P esc ops fr h j := by
  unfold againX at hr
  unfold AgainOk
  split at hr
  · cases hr
  · rename_i o ho
    rw [ho]
    simp only
    split at hr
    · cases hr
    · rename_i g d hne hg hd
      rw [guard_sound F hg, hd]
      simp only
      split at hr
      · rename_i v u hv hu
        obtain ⟨⟨x, hq, hvx⟩, _⟩ := q_sound X F o (by unfold dstMode; rw [hm]) hv
        obtain ⟨w, hw, huw⟩ := F.at_ d _ hu
        have hget : fr.tm.getD d .undef = w := by simp [List.getD, hw]
        rw [hget]
        cases g with
        | none =>
          have e := same_sound _ _ _ _ hr hvx huw
          rcases hq with hq | ⟨c, hq, hc⟩
          · rw [hq]; exact e
          · rw [hq]; exact ⟨hc, e⟩
        | some b =>
          cases b with
          | false => exact (hne rfl).elim
          | true =>
            have e := same_sound _ _ _ _ hr (.opt _ _ hvx) huw
            rcases hq with hq | ⟨c, hq, hc⟩
            · rw [hq]; exact e
            · rw [hq]; exact ⟨fun _ => hc, e⟩
      · cases hr
    · cases hr

theorem run_sound {E : Env} (O : EnvOk P E) {esc : List Nat} (hm : hasN esc 999999 = true) {ops : List Oper} (hd : ∀ o ∈ ops, ∀ d, o.dst = some d → d < n) : ∀ {r : List (Nat × List Nat)} {ρ : Locs} {s s' : St} {h : Heap} {fr : Fr}, HX ρ s.h s.nx h → FX ρ s.tm n fr →
    runX P E esc ops r s = some s' → ∀ {K : Fr → Heap → Prop}, (∀ ρ' fr' h', Sub ρ ρ' → HX ρ' s'.h s'.nx h' → FX ρ' s'.tm n fr' → K fr' h') → runD P esc ops r fr h K
  | [], ρ, s, s', h, fr, X, F, hr, K, hK => by
    simp only [runX] at hr
    cases hr
    exact hK ρ fr h (Sub.refl _) X F
  | (i, rc) :: r, ρ, s, s', h, fr, X, F, hr, K, hK => by
    simp only [runX] at hr
    simp only [runD]
    split at hr
    · cases hr
    · rename_i o ho
      rw [ho]
      simp only
      split at hr
      · rename_i s1 h1
        split at hr
        · rename_i ha
          refine (op_sound O X F (by unfold dstMode; rw [hm]) (hd o (List.mem_of_getElem? ho)) h1 (K := fun fr' h' => againsG P esc ops (guardOf ops fr o) fr' h' rc (runD P esc ops r fr' h' K)) fun ρ' fr' h' S X' F' => ?_).1
          refine againsG_iff.2 ⟨fun hg j hj => ?_, ?_⟩
          · split at ha
            · rename_i e; exact (hg (guard_sound F e)).elim
            · exact again_sound X' F' hm (List.all_eq_true.1 ha j hj)
          exact run_sound O hm hd X' F' hr fun ρ'' fr'' h'' S' X'' F'' => hK ρ'' fr'' h'' (S.trans S') X'' F''
        · cases hr
      · cases hr

theorem run_sort {E : Env} {esc : List Nat} {ops : List Oper} : ∀ {r : List (Nat × List Nat)} {s s' : St}, runX P E esc ops r s = some s' → ∀ i rc o, (i, rc) ∈ r → ops[i]? = some o → sortOf esc o ≠ 1
  | [], s, s', _, i, rc, o, hi, _ => by cases hi
  | (k, rk) :: r, s, s', hr, i, rc, o, hi, ho => by
    simp only [runX] at hr
    split at hr
    · cases hr
    · rename_i o1 ho1
      split at hr
      · rename_i s1 h1
        split at hr
        · rcases List.mem_cons.1 hi with e | hi
          · cases e
            rw [ho1] at ho
            cases ho
            exact op_sort h1
          · exact run_sort hr i rc o hi ho
        · cases hr
      · cases hr

theorem plan_all {esc : List Nat} {ops : List Oper} {plan : List (Nat × List Nat)} (h : regPlan esc ops = some plan) {o : Oper} (ho : o ∈ ops) : ∃ i rc, (i, rc) ∈ plan ∧ ops[i]? = some o := by
  unfold regPlan at h
  simp only at h
  split at h
  · rename_i hp
    cases h
    unfold planOk at hp
    simp only [Bool.and_eq_true] at hp
    have hp := hp.2
    obtain ⟨i, hi⟩ := List.getElem?_of_mem ho
    have hlt := (List.getElem?_eq_some_iff.1 hi).1
    have := List.all_eq_true.1 hp i (List.mem_range.2 hlt)
    unfold hasN at this
    obtain ⟨x, hx, hb⟩ := List.any_eq_true.1 this
    have hb := Nat.eq_of_beq_eq_true hb
    subst hb
    obtain ⟨⟨a, rc⟩, hm, e⟩ := List.mem_map.1 hx
    simp only at e
    subst e
    exact ⟨_, rc, hm, hi⟩
  · cases h

theorem frame_of {ops : List Oper} (h : inFrame n ops = true) : ∀ o ∈ ops, ∀ d, o.dst = some d → d < n := by
  intro o ho d hd
  have := List.all_eq_true.1 h o ho
  rw [hd] at this
  exact Nat.le_of_ble_eq_true (show Nat.ble (d + 1) n = true from this)

theorem reg_sound {E : Env} (O : EnvOk P E) (X : HX ρ s.h s.nx h) (F : FX ρ s.tm n fr) {esc : List Nat} (hm : hasN esc 999999 = true) {ops : List Oper} {draw : Bool} {s' : St} (hr : regX P E esc n ops draw s = some s')
    {K : Fr → Heap → Prop} (hK : ∀ ρ' fr' h', Sub ρ ρ' → HX ρ' s'.h s'.nx h' → FX ρ' s'.tm n fr' → K fr' h') : regW P esc ops draw fr h K := by
  unfold regX at hr
  unfold regW
  split at hr
  · rename_i hf
    have hd := frame_of hf
    cases draw with
    | false =>
      simp only at hr ⊢
      rw [begun_nil (ops_sort hr)]
      exact ops_sound O hm X F hd hr hK
    | true =>
      simp only at hr ⊢
      split at hr
      · rename_i plan hz hp
        rw [hp, hz]
        simp only
        rw [begun_nil fun o ho => by obtain ⟨i, rc, h1, h2⟩ := plan_all hp ho; exact run_sort hr i rc o h1 h2]
        exact run_sound O hm hd X F hr hK
      · cases hr
  · cases hr
end
end Jx
end

section
/- Statements, answers, functions, rounds, calls. -/
namespace Jx
open Go Jb

section
variable {P : Program} {ρ : Locs} {s : St} {h : Heap} {n : Nat} {fr : Fr}

theorem HX.drop {H : T Xb} {nx : Nat} (X : HX ρ H nx h) {k : Nat} {xb : Xb} {L : Loc} (hk : H.get k = some xb) (hL : ρ k = some L) : HX ρ (H.put none k) nx (h.del L.l) where
  pos := X.pos
  zero := X.zero
  fresh := (X.del k).fresh
  at_ := fun j zb hj => by
    rw [T.get_put] at hj
    split at hj
    · cases hj
    · rename_i e
      obtain ⟨M, o', h1, h2, h3⟩ := X.at_ j zb hj
      have hne : M.l ≠ L.l := fun c => e (X.inj j k zb xb M L hj hk h1 hL c)
      exact ⟨M, o', h1, by simp [Heap.del, hne]; exact h2, h3⟩
  inj := (X.del k).inj

theorem noLp_rel {v u : V} (hv : VR ρ v u) {w : V} (hw : plainTm (some v) = some w) : w = v ∧ noLp u = u := by
  unfold plainTm at hw
  split at hw
  · cases hw
  · cases hw
    rename_i hne
    refine ⟨rfl, ?_⟩
    cases hv <;> first | rfl | exact (hne _ _ rfl).elim

theorem wipe_nil (id : Nat) (g : Cfg) (hw : g.wipes = []) (fr : Fr) (hl : fr.lc = []) : fr.wipe (wipesAt id g.wipes) = fr := by
  obtain ⟨tm, lc⟩ := fr
  simp only at hl
  subst hl
  rw [hw]
  rfl

theorem AnyW.enter {P : Program} {f : FuncId} (he : enters P f = true) {args : List V} {h : Heap} {K : V → Heap → Prop} (c : AnyW P f args h K) : CallW P f args h K := by
  unfold AnyW at c; rw [he] at c; exact c

theorem exL_sound {E : Env} (O : EnvOk P E) (g : Cfg) (hm : hasN g.esc 999999 = true) (hw : g.wipes = []) {fuel : Nat} (c : Code) :
    (∀ {ρ : Locs} {s s' : St} {e : Ex} {h : Heap} {fr : Fr}, HX ρ s.h s.nx h → FX ρ s.tm n fr → exX P E g.esc g.rnd n fuel c s = some (e, s') →
      ∀ {Q : Ex → Fr → Heap → Prop}, (∀ ρ' fr' h', Sub ρ ρ' → HX ρ' s'.h s'.nx h' → FX ρ' s'.tm n fr' → Q e fr' h') → wpA P g c fr h Q) ∧
    (∀ {l : Nat} {ρ : Locs} {s s' : St} {e : Ex} {h : Heap} {fr : Fr}, HX ρ s.h s.nx h → FX ρ s.tm n fr → exL P E g.esc g.rnd n fuel c l s = some (e, s') →
      ∀ {Q : Ex → Fr → Heap → Prop}, (∀ ρ' fr' h', Sub ρ ρ' → HX ρ' s'.h s'.nx h' → FX ρ' s'.tm n fr' → Q e fr' h') → wpL P g c l fr h Q) := by
  induction c with
  | skip =>
    refine ⟨?_, fun {l ρ s s' e h fr} X F hr => by simp [exL] at hr⟩
    intro ρ s s' e h fr X F hr Q hK
    simp only [exX] at hr
    cases hr
    exact hK ρ fr h (Sub.refl _) X F
  | region id ops draw =>
    refine ⟨?_, fun {l ρ s s' e h fr} X F hr => by simp [exL] at hr⟩
    intro ρ s s' e h fr X F hr Q hK
    simp only [exX] at hr
    split at hr
    · rename_i s1 h1
      cases hr
      unfold wpA
      exact reg_sound O X F hm h1 fun ρ' fr' h' S X' F' => by rw [wipe_nil id g hw fr' F'.lc]; exact hK ρ' fr' h' S X' F'
    · cases hr
  | seq a b ia ib =>
    constructor
    · intro ρ s s' e h fr X F hr Q hK
      simp only [exX] at hr
      unfold wpA
      split at hr
      · rename_i s1 h1
        exact ia.1 X F h1 fun ρ' fr' h' S X' F' => ib.1 X' F' hr fun ρ'' fr'' h'' S' X'' F'' => hK ρ'' fr'' h'' (S.trans S') X'' F''
      · rename_i hne
        cases e with
        | normal => exact (hne _ hr).elim
        | exit i => exact ia.1 X F hr fun ρ' fr' h' S X' F' => hK ρ' fr' h' S X' F'
        | goto i => exact ia.1 X F hr fun ρ' fr' h' S X' F' => hK ρ' fr' h' S X' F'
        | ret => exact ia.1 X F hr fun ρ' fr' h' S X' F' => hK ρ' fr' h' S X' F'
    · intro l ρ s s' e h fr X F hr Q hK
      simp only [exL] at hr
      unfold wpL
      split at hr
      · rename_i hl
        simp only [hl]
        split at hr
        · rename_i s1 h1
          exact ia.2 X F h1 fun ρ' fr' h' S X' F' => ib.1 X' F' hr fun ρ'' fr'' h'' S' X'' F'' => hK ρ'' fr'' h'' (S.trans S') X'' F''
        · rename_i hne
          cases e with
          | normal => exact (hne _ hr).elim
          | exit i => exact ia.2 X F hr fun ρ' fr' h' S X' F' => hK ρ' fr' h' S X' F'
          | goto i => exact ia.2 X F hr fun ρ' fr' h' S X' F' => hK ρ' fr' h' S X' F'
          | ret => exact ia.2 X F hr fun ρ' fr' h' S X' F' => hK ρ' fr' h' S X' F'
      · rename_i hl
        simp only [hl]
        exact ib.2 X F hr hK
  | cond c a b ia ib =>
    refine ⟨?_, fun {l ρ s s' e h fr} X F hr => by simp [exL] at hr⟩
    intro ρ s s' e h fr X F hr Q hK
    simp only [exX] at hr
    unfold wpA
    split at hr
    · rename_i hc
      have := raw_sound F hc
      generalize fr.ev c = u at this
      cases this
      exact ia.1 X F hr hK
    · rename_i hc
      have := raw_sound F hc
      generalize fr.ev c = u at this
      cases this
      exact ib.1 X F hr hK
    · cases hr
  | block id c ic =>
    refine ⟨?_, fun {l ρ s s' e h fr} X F hr => by simp [exL] at hr⟩
    intro ρ s s' e h fr X F hr Q hK
    simp only [exX] at hr
    unfold wpA
    split at hr
    · rename_i i s1 h1
      refine ic.1 X F h1 fun ρ' fr' h' S X' F' => ?_
      unfold blockK
      simp only
      cases hb : Nat.beq i id with
      | true => rw [hb] at hr; cases hr; exact hK ρ' fr' h' S X' F'
      | false => rw [hb] at hr; cases hr; exact hK ρ' fr' h' S X' F'
    · rename_i hne
      cases e with
      | exit i => exact (hne _ _ hr).elim
      | normal => exact ic.1 X F hr fun ρ' fr' h' S X' F' => hK ρ' fr' h' S X' F'
      | goto i => exact ic.1 X F hr fun ρ' fr' h' S X' F' => hK ρ' fr' h' S X' F'
      | ret => exact ic.1 X F hr fun ρ' fr' h' S X' F' => hK ρ' fr' h' S X' F'
  | loop c ic =>
    refine ⟨?_, fun {l ρ s s' e h fr} X F hr => by simp [exL] at hr⟩
    intro ρ s s' e h fr X F hr Q hK
    simp only [exX] at hr
    unfold wpA
    have main : ∀ (k : Nat) {ρ : Locs} {s : St} {h : Heap} {fr : Fr}, HX ρ s.h s.nx h → FX ρ s.tm n fr → iter (exX P E g.esc g.rnd n fuel c) k s = some (e, s') →
        (∀ ρ' fr' h', Sub ρ ρ' → HX ρ' s'.h s'.nx h' → FX ρ' s'.tm n fr' → Q e fr' h') → LoopI (fun fr h Q => wpA P g c fr h Q) Q fr h := by
      intro k
      induction k with
      | zero => intro ρ s h fr X F hr _; simp [iter] at hr
      | succ k ik =>
        intro ρ s h fr X F hr hK
        simp only [iter] at hr
        split at hr
        · rename_i s1 h1
          refine LoopI.mk fr h (fun fr' h' => LoopI (fun fr h Q => wpA P g c fr h Q) Q fr' h') (ic.1 X F h1 fun ρ' fr' h' S X' F' => ?_) fun _ _ i => i
          exact ik X' F' hr fun ρ'' fr'' h'' S' X'' F'' => hK ρ'' fr'' h'' (S.trans S') X'' F''
        · rename_i hne
          refine LoopI.mk fr h (fun _ _ => False) ?_ fun _ _ i => i.elim
          cases e with
          | normal => exact (hne _ hr).elim
          | exit i => exact ic.1 X F hr fun ρ' fr' h' S X' F' => hK ρ' fr' h' S X' F'
          | goto i => exact ic.1 X F hr fun ρ' fr' h' S X' F' => hK ρ' fr' h' S X' F'
          | ret => exact ic.1 X F hr fun ρ' fr' h' S X' F' => hK ρ' fr' h' S X' F'
    exact main fuel X F hr hK
  | exit id =>
    refine ⟨?_, fun {l ρ s s' e h fr} X F hr => by simp [exL] at hr⟩
    intro ρ s s' e h fr X F hr Q hK
    simp only [exX] at hr
    cases hr
    exact hK ρ fr h (Sub.refl _) X F
  | ret =>
    refine ⟨?_, fun {l ρ s s' e h fr} X F hr => by simp [exL] at hr⟩
    intro ρ s s' e h fr X F hr Q hK
    simp only [exX] at hr
    cases hr
    exact hK ρ fr h (Sub.refl _) X F
  | label l =>
    constructor
    · intro ρ s s' e h fr X F hr Q hK
      simp only [exX] at hr
      cases hr
      exact hK ρ fr h (Sub.refl _) X F
    · intro l ρ s s' e h fr X F hr Q hK
      simp only [exL] at hr
      cases hr
      exact hK ρ fr h (Sub.refl _) X F
  | rangeFunc f ps asg body =>
    refine ⟨?_, fun {l ρ s s' e h fr} X F hr => by simp [exL] at hr⟩
    intro ρ s s' e h fr X F hr Q hK
    simp only [exX] at hr
    unfold wpA
    split at hr
    case h_2 => cases hr
    rename_i k first caps hrnd hf
    split at hr
    case h_1 => cases hr
    rename_i he
    split at hr
    case h_2 => cases hr
    rename_i v0 H' nx' hc
    have hcall := fun ρ args' h a X => AnyW.enter he (O.call _ _ _ _ _ _ _ hc ρ args' h a X)
    have := raw_sound F hf
    generalize fr.ev f = u at this
    cases this with
    | fn _ _ a' _ b' l1 l2 ha hb =>
      rw [hrnd]
      refine ⟨he, fun l hl => ?_⟩
      have X1 : HX (ρ.add s.nx ⟨l, 0, 0⟩) (s.h.put (some (.loop .ready ps.toList (s.tm.map plainTm) n asg body)) s.nx) (s.nx + 1) (h.upd l (.obj (.loop .ready ps.toList (fr.tm.map noLp) asg body))) := by
        refine X.new hl 0 ⟨fr.tm.map noLp, rfl, by rw [List.length_map]; exact F.len, fun t v hv => ?_⟩
        rw [T.get_map _ rfl] at hv
        cases hg : s.tm.get t with
        | none => rw [hg] at hv; cases hv
        | some v1 =>
          rw [hg] at hv
          obtain ⟨u, hu, hvu⟩ := F.at_ t _ hg
          obtain ⟨rfl, hn⟩ := noLp_rel hvu hv
          exact ⟨u, by rw [List.getElem?_map, hu, Option.map_some, hn], hvu.mono (X.sub _)⟩
      have hplace : (ρ.add s.nx ⟨l, 0, 0⟩) s.nx = some ⟨l, 0, 0⟩ := by simp [Locs.add]
      have hargs : VL (ρ.add s.nx ⟨l, 0, 0⟩) (first ++ [.fn (.yield s.nx) [] []] ++ caps) (a' ++ [.fn (.yield l) [] []] ++ b') :=
        (((show VL ρ first a' from ⟨l1, ha⟩).mono (X.sub _)).append (.cons (.yield _ ⟨l, 0, 0⟩ hplace) .nil)).append ((show VL ρ caps b' from ⟨l2, hb⟩).mono (X.sub _))
      refine (hcall _ _ _ hargs X1).mono ?_
      rintro u h' ⟨ρ', S, _, X'⟩
      have hp := S _ _ hplace
      split at hr
      · rename_i ps' tm' n' asg' body' hrec
        cases hr
        obtain ⟨L, o, g1, g2, tm'', rfl, g3, g4⟩ := X'.at_ _ _ hrec
        rw [hp] at g1
        cases g1
        unfold loopEnd
        rw [g2]
        exact hK ρ' fr (h'.del l) ((X.sub _).trans S) (X'.drop hrec hp) (F.mono ((X.sub _).trans S))
      · rename_i c' ps' tm' n' asg' body' hrec
        split at hr
        · rename_i e' he'
          cases hr
          obtain ⟨L, o, g1, g2, tm'', rfl, g3, g4⟩ := X'.at_ _ _ hrec
          rw [hp] at g1
          cases g1
          unfold loopEnd
          rw [g2]
          simp only [he']
          exact hK ρ' fr (h'.del l) ((X.sub _).trans S) (X'.drop hrec hp) (F.mono ((X.sub _).trans S))
        · cases hr
      · cases hr
  | goto id =>
    refine ⟨?_, fun {l ρ s s' e h fr} X F hr => by simp [exL] at hr⟩
    intro ρ s s' e h fr X F hr Q hK
    simp only [exX] at hr
    cases hr
    exact hK ρ fr h (Sub.refl _) X F
  | refuse w =>
    refine ⟨?_, fun {l ρ s s' e h fr} X F hr => by simp [exL] at hr⟩
    intro ρ s s' e h fr X F hr
    simp [exX] at hr
  | scope c ic =>
    refine ⟨?_, fun {l ρ s s' e h fr} X F hr => by simp [exL] at hr⟩
    intro ρ s s' e h fr X F hr Q hK
    simp only [exX] at hr
    unfold wpA
    suffices outer : ∀ k, scopeX c (fun l s => exL P E g.esc g.rnd n fuel c l s) k (exX P E g.esc g.rnd n fuel c s) = some (e, s') → wpA P g c fr h (scopeK c (ScopeI c (fun l fr h Q => wpL P g c l fr h Q) Q) Q) from outer fuel hr
    intro k hr
    cases k with
    | zero => simp [scopeX] at hr
    | succ k =>
      have main : ∀ (k : Nat) {ρ : Locs} {s : St} {h : Heap} {fr : Fr} {l : Nat}, HX ρ s.h s.nx h → FX ρ s.tm n fr → scopeX c (fun l s => exL P E g.esc g.rnd n fuel c l s) k (exL P E g.esc g.rnd n fuel c l s) = some (e, s') →
          (∀ ρ' fr' h', Sub ρ ρ' → HX ρ' s'.h s'.nx h' → FX ρ' s'.tm n fr' → Q e fr' h') → ScopeI c (fun l fr h Q => wpL P g c l fr h Q) Q l fr h := by
        intro k
        induction k with
        | zero => intro ρ s h fr l X F hr _; simp [scopeX] at hr
        | succ k ik =>
          intro ρ s h fr l X F hr hK
          simp only [scopeX] at hr
          split at hr
          · rename_i l' s1 h1
            split at hr
            · rename_i hl
              refine ScopeI.mk l fr h (fun l' fr' h' => ScopeI c (fun l fr h Q => wpL P g c l fr h Q) Q l' fr' h') (ic.2 X F h1 fun ρ' fr' h' S X' F' => ?_) fun _ _ _ i => i
              simp only [scopeK, hl]
              exact ik X' F' hr fun ρ'' fr'' h'' S' X'' F'' => hK ρ'' fr'' h'' (S.trans S') X'' F''
            · rename_i hl
              cases hr
              refine ScopeI.mk l fr h (fun _ _ _ => False) (ic.2 X F h1 fun ρ' fr' h' S X' F' => ?_) fun _ _ _ i => i.elim
              simp only [scopeK, hl]
              exact hK ρ' fr' h' S X' F'
          · rename_i hne
            refine ScopeI.mk l fr h (fun _ _ _ => False) (ic.2 X F hr fun ρ' fr' h' S X' F' => ?_) fun _ _ _ i => i.elim
            cases e with
            | goto l' => exact (hne _ _ hr).elim
            | normal => exact hK ρ' fr' h' S X' F'
            | exit i => exact hK ρ' fr' h' S X' F'
            | ret => exact hK ρ' fr' h' S X' F'
      simp only [scopeX] at hr
      split at hr
      · rename_i l' s1 h1
        split at hr
        · rename_i hl
          refine ic.1 X F h1 fun ρ' fr' h' S X' F' => ?_
          simp only [scopeK, hl]
          exact main k X' F' hr fun ρ'' fr'' h'' S' X'' F'' => hK ρ'' fr'' h'' (S.trans S') X'' F''
        · rename_i hl
          cases hr
          refine ic.1 X F h1 fun ρ' fr' h' S X' F' => ?_
          simp only [scopeK, hl]
          exact hK ρ' fr' h' S X' F'
      · rename_i hne
        refine ic.1 X F hr fun ρ' fr' h' S X' F' => ?_
        cases e with
        | goto l' => exact (hne _ _ hr).elim
        | normal => exact hK ρ' fr' h' S X' F'
        | exit i => exact hK ρ' fr' h' S X' F'
        | ret => exact hK ρ' fr' h' S X' F'

theorem ex_sound {E : Env} (O : EnvOk P E) (g : Cfg) (hm : hasN g.esc 999999 = true) (hw : g.wipes = []) {fuel : Nat} (c : Code) : ∀ {ρ : Locs} {s s' : St} {e : Ex} {h : Heap} {fr : Fr}, HX ρ s.h s.nx h → FX ρ s.tm n fr → exX P E g.esc g.rnd n fuel c s = some (e, s') →
    ∀ {Q : Ex → Fr → Heap → Prop}, (∀ ρ' fr' h', Sub ρ ρ' → HX ρ' s'.h s'.nx h' → FX ρ' s'.tm n fr' → Q e fr' h') → wpA P g c fr h Q := (exL_sound O g hm hw c).1

theorem Ans.need {q : Q} {v : V} (a : Ans ρ q v) {K : V → Prop} (hK : ∀ u, VR ρ v u → K u) : q.need K := by
  obtain ⟨u, rfl | ⟨c, rfl, hc⟩, hvu⟩ := a
  · exact hK u hvu
  · exact ⟨hc, hK u hvu⟩

theorem res_sound (X : HX ρ s.h s.nx h) (F : FX ρ s.tm n fr) {r : ResultVar} {v : V} (hr : resX P s r = some v) : Ans ρ (resultV P 2 fr h r) v := by
  cases r with
  | tmp t =>
    simp only [resX] at hr
    simp only [resultV]
    split at hr
    · rename_i v1 hg
      split at hr
      · rename_i hp
        cases hr
        obtain ⟨u, hu, hv⟩ := F.at_ t _ hg
        have : fr.tm.getD t .undef = u := by simp [List.getD, hu]
        rw [this]
        cases hv with
        | opt _ u hv =>
          have hp' : u.plain = true := by rw [hv.plain]; exact hp
          cases u <;> first | exact .chk rfl hv | cases hp'
      · cases hr
    · cases hr
    · rename_i h1 h2
      obtain ⟨u, hu, hv⟩ := F.at_ t _ hr
      have : fr.tm.getD t .undef = u := by simp [List.getD, hu]
      rw [this]
      refine ⟨u, .inl ?_, hv⟩
      cases hv <;> first | rfl | exact (h1 _ hr).elim | exact (h2 _ hr).elim
  | cell a t =>
    simp only [resX] at hr
    simp only [resultV]
    split at hr
    · rename_i l off hg
      obtain ⟨u, hu, hv⟩ := F.at_ a _ hg
      have : fr.tm.getD a .undef = u := by simp [List.getD, hu]
      rw [this]
      have hl := load_sound (P := P) X (fr := fr) (t := t) hv hr
      cases hv
      exact hl
    · cases hr

theorem ress_sound (X : HX ρ s.h s.nx h) (F : FX ρ s.tm n fr) : ∀ {rs : List ResultVar} {vs : List V}, ressX P s rs = some vs → ∀ {K : List V → Prop}, (∀ us, VL ρ vs us → K us) → resultsW P 2 fr h rs K
  | [], vs, hr, K, hK => by
    simp only [ressX] at hr
    cases hr
    exact hK [] .nil
  | r :: rs, vs, hr, K, hK => by
    simp only [ressX] at hr
    split at hr
    · rename_i v l h1 h2
      cases hr
      unfold resultsW
      exact (res_sound X F h1).need fun u hu => ress_sound X F h2 fun us hus => hK _ (.cons hu hus)
    · cases hr

theorem answer_sound (X : HX ρ s.h s.nx h) (F : FX ρ s.tm n fr) {fn : Func} {v : V} {H' : T Xb} {nx' : Nat} (hr : answerX P fn s = some (v, H', nx')) {K : V → Prop} (hK : ∀ u, VR ρ v u → HX ρ H' nx' h → K u) : answerW P 2 fn fr h K := by
  unfold answerX at hr
  unfold answerW
  split at hr
  · rename_i v1 h1
    cases hr
    refine ress_sound X F h1 fun us hus => ?_
    cases us with
    | nil => have := hus.1; simp at this
    | cons u us =>
      cases us with
      | nil => exact hK u hus.tail.1 X
      | cons => have := hus.1; simp at this
  · rename_i vs hne h1
    cases hr
    refine ress_sound X F h1 fun us hus => ?_
    have ht : K (.tup us) := hK _ (.tup _ _ hus.1 hus.2) X
    cases us with
    | nil => exact ht
    | cons u us =>
      cases us with
      | nil =>
        exfalso
        cases vs with
        | nil => have := hus.1; simp at this
        | cons v vs =>
          cases vs with
          | nil => exact hne v rfl
          | cons => have := hus.1; simp at this
      | cons => exact ht
  · cases hr

theorem ofList_get {j : Nat} {v : V} : ∀ {l : List V} {k : Nat} {t : T V}, (T.ofList l k t).get j = some v → (k ≤ j ∧ l[j - k]? = some v) ∨ t.get j = some v
  | [], k, t, h => .inr h
  | a :: l, k, t, h0 => by
    rcases ofList_get (l := l) (k := k + 1) (t := t.put (some a) k) h0 with ⟨h1, h2⟩ | h
    · refine .inl ⟨by omega, ?_⟩
      rw [show j - k = (j - (k + 1)) + 1 from by omega]
      simpa using h2
    · rw [T.get_put] at h
      by_cases e : j = k
      · rw [if_pos e] at h
        subst e
        exact .inl ⟨Nat.le_refl _, by rw [Nat.sub_self]; exact h⟩
      · rw [if_neg e] at h
        exact .inr h

theorem slots_dyn (c : Code) : hasN (slots P c) 999999 = true := rfl

theorem body_sound (hmix : P.follows .mixedOrders = true) {E : Env} (O : EnvOk P E) {fuel : Nat} {f : FuncId} {args : List V} {H : T Xb} {nx : Nat} {v : V} {H' : T Xb} {nx' : Nat} (hr : bodyX P E fuel f args H nx = some (v, H', nx')) :
    enters P f = true ∧ ∀ ρ args' h, VL ρ args args' → HX ρ H nx h → CallW P f args' h fun u h' => ∃ ρ', Sub ρ ρ' ∧ VR ρ' v u ∧ HX ρ' H' nx' h' := by
  unfold bodyX at hr
  split at hr
  case h_2 => cases hr
  rename_i fn hf
  split at hr
  case h_2 => cases hr
  rename_i c hc hn
  simp only [Bool.and_eq_true] at hn
  have hlen := Nat.le_of_ble_eq_true hn.2
  refine ⟨by unfold enters; rw [hf]; simp [hc, hn.1], fun ρ args' h hargs X => ?_⟩
  refine CallW.body hmix { esc := slots P c, wipes := [], rnd := false } hf (by rw [hargs.1]; exact hlen) ?_
  unfold bodyW
  rw [hc]
  simp only
  have F0 : FX ρ (T.ofList args 0 .nil) fn.ntmps (frame0 fn args') := by
    refine ⟨by simp [frame0]; have := hargs.1; omega, rfl, fun t x hx => ?_⟩
    rcases ofList_get hx with ⟨_, h2⟩ | h2
    · simp only [Nat.sub_zero] at h2
      obtain ⟨u, hu, hr⟩ := hargs.get h2
      refine ⟨u, ?_, hr⟩
      simp only [frame0]
      rw [List.getElem?_append_left (List.getElem?_eq_some_iff.1 hu).1]
      exact hu
    · rw [T.get_nil] at h2; cases h2
  have fin : ∀ {s : St}, answerX P fn s = some (v, H', nx') → ∀ ρ' fr' h', Sub ρ ρ' → HX ρ' s.h s.nx h' → FX ρ' s.tm fn.ntmps fr' → answerW P (rmode (slots P c)) fn fr' h' fun r => ∃ ρ', Sub ρ ρ' ∧ VR ρ' v r ∧ HX ρ' H' nx' h' :=
    fun ha ρ' fr' h' S X' F' => answer_sound X' F' ha fun u hu X'' => ⟨ρ', S, hu, X''⟩
  split at hr
  · rename_i s1 h1
    exact ex_sound O { esc := slots P c, wipes := [], rnd := false } (slots_dyn c) rfl c (s := { tm := T.ofList args 0 .nil, h := H, nx := nx }) X F0 h1 fun ρ' fr' h' S X' F' => fin hr ρ' fr' h' S X' F'
  · rename_i s1 h1
    exact ex_sound O { esc := slots P c, wipes := [], rnd := false } (slots_dyn c) rfl c (s := { tm := T.ofList args 0 .nil, h := H, nx := nx }) X F0 h1 fun ρ' fr' h' S X' F' => fin hr ρ' fr' h' S X' F'
  · cases hr

theorem foldl_sound : ∀ {ps : List Nat} {args args' : List V} {tm : T V} {tms : List V}, FX ρ tm n { tm := tms, lc := [] } → VL ρ args args' → (∀ p ∈ ps, p < n) →
    FX ρ ((ps.zip args).foldl (fun t e => t.put (some e.2) e.1) tm) n { tm := setTm ps args' tms, lc := [] }
  | [], _, _, tm, tms, F, _, _ => by simpa [setTm] using F
  | p :: ps, [], args', tm, tms, F, h, _ => by
    have : args' = [] := List.length_eq_zero_iff.1 (by simpa using h.1)
    subst this
    simpa [setTm] using F
  | p :: ps, a :: args, [], tm, tms, F, h, _ => by have := h.1; simp at this
  | p :: ps, a :: args, b :: args', tm, tms, F, h, hp => by
    have F' := FX.put (s := { tm := tm, h := .nil, nx := 0 }) F (some p) (fun d e => by cases e; exact hp p List.mem_cons_self) (v := some a) (u := b) fun x hx => by cases hx; exact h.tail.1
    have := foldl_sound (ps := ps) (tm := tm.put (some a) p) (tms := tms.set p b) F' h.tail.2 fun q hq => hp q (List.mem_cons_of_mem _ hq)
    simpa [setTm] using this

theorem round_sound (hmix : P.follows .mixedOrders = true) {E : Env} (O : EnvOk P E) {fuel : Nat} {k : Nat} {args : List V} {H : T Xb} {nx : Nat} {v : V} {H' : T Xb} {nx' : Nat} (hr : roundX P E fuel k args H nx = some (v, H', nx')) :
    ∀ ρ args' h L, VL ρ args args' → HX ρ H nx h → ρ k = some L → YieldW P L.l args' h fun u h' => ∃ ρ', Sub ρ ρ' ∧ VR ρ' v u ∧ HX ρ' H' nx' h' := by
  intro ρ args' h L hargs X hL
  unfold roundX at hr
  split at hr
  case h_2 => cases hr
  rename_i ps tm n asg body hrec
  split at hr
  case h_2 => cases hr
  rename_i hck
  simp only [Bool.and_eq_true] at hck
  obtain ⟨L1, o, g1, g2, tm', rfl, g3, g4⟩ := X.at_ _ _ hrec
  rw [hL] at g1
  cases g1
  refine YieldW.round hmix { esc := slots P asg ++ slots P body, wipes := [], rnd := true } ?_
  have hm : hasN (slots P asg ++ slots P body) 999999 = true := rfl
  unfold roundW
  rw [g2]
  refine ⟨by rw [hargs.1]; exact Nat.eq_of_beq_eq_true hck.1, ?_⟩
  split at hr
  case h_2 => cases hr
  rename_i s1 h1
  have F0 : FX ρ tm n { tm := tm', lc := [] } := ⟨g3, rfl, fun t v hv => g4 t v hv⟩
  have F1 := foldl_sound (ps := ps) F0 hargs fun p hp => by
    have := List.all_eq_true.1 hck.2 p hp
    exact Nat.le_of_ble_eq_true (show Nat.ble (p + 1) n = true from this)
  refine ex_sound O { esc := slots P asg ++ slots P body, wipes := [], rnd := true } hm rfl asg (s := { tm := (ps.zip args).foldl (fun t e => t.put (some e.2) e.1) tm, h := H, nx := nx }) X F1 h1 fun ρ1 fr1 hh1 S1 X1 FF1 => ?_
  split at hr
  case h_2 => cases hr
  rename_i ps2 tm2 n2 asg2 body2 hrec2
  obtain ⟨L2, o2, q1, q2, tm2', rfl, q3, q4⟩ := X1.at_ _ _ hrec2
  have hL1 := S1 _ _ hL
  rw [hL1] at q1
  cases q1
  rw [q2]
  simp only
  split at hr
  case h_2 => cases hr
  rename_i e s2 h2
  have X2 : HX ρ1 (s1.h.put (some (.loop .busy ps2 tm2 n2 asg2 body2)) k) s1.nx (hh1.upd L.l (.obj (.loop .busy ps2 tm2' asg2 body2))) := X1.set hrec2 hL1 ⟨tm2', rfl, q3, q4⟩
  refine ex_sound O { esc := slots P asg ++ slots P body, wipes := [], rnd := true } hm rfl body (s := { s1 with h := s1.h.put (some (.loop .busy ps2 tm2 n2 asg2 body2)) k }) X2 FF1 h2 fun ρ3 fr3 hh3 S3 X3 FF3 => ?_
  split at hr
  case h_2 => cases hr
  rename_i st3 ps3 tm3 n3 asg3 body3 hrec3
  obtain ⟨L3, o3, q1', q2', tm3', rfl, q3', q4'⟩ := X3.at_ _ _ hrec3
  have hL3 := S3 _ _ hL1
  rw [hL3] at q1'
  cases q1'
  unfold roundK
  rw [q2']
  simp only
  cases e with
  | normal =>
    simp only at hr
    cases hr
    exact ⟨ρ3, S1.trans S3, .bool _, X3.set hrec3 hL3 ⟨tm3', rfl, q3', q4'⟩⟩
  | exit i =>
    simp only at hr
    cases hr
    exact ⟨ρ3, S1.trans S3, .bool _, X3.set hrec3 hL3 ⟨tm3', rfl, q3', q4'⟩⟩
  | goto i => simp at hr
  | ret =>
    simp only at hr
    cases hr
    exact ⟨ρ3, S1.trans S3, .bool _, X3.set hrec3 hL3 ⟨tm3', rfl, q3', q4'⟩⟩

abbrev Hook := FuncId → List V → T Xb → Nat → Option (V × T Xb × Nat)

def HookOk (P : Program) (hk : Hook) : Prop := ∀ f args H nx v H' nx', hk f args H nx = some (v, H', nx') → ∀ ρ args' h, VL ρ args args' → HX ρ H nx h →
    AnyW P f args' h fun u h' => ∃ ρ', Sub ρ ρ' ∧ VR ρ' v u ∧ HX ρ' H' nx' h'

theorem call_ok (hmix : P.follows .mixedOrders = true) {hk : Hook} (ok : HookOk P hk) (fuel : Nat) : ∀ d, EnvOk P (callX P hk fuel d)
  | 0 => ⟨fun f args H nx v H' nx' h => (by cases h), fun k args H nx v H' nx' h => (by cases h)⟩
  | d + 1 => by
    have ih := call_ok hmix ok fuel d
    refine ⟨fun f args H nx v H' nx' hr => ?_, fun k args H nx v H' nx' hr => round_sound hmix ih hr⟩
    have hr : (match hk f args H nx with | some r => some r | none => bodyX P (callX P hk fuel d) fuel f args H nx) = some (v, H', nx') := hr
    split at hr
    · rename_i r hh
      cases hr
      exact ok _ _ _ _ _ _ _ hh
    · obtain ⟨he, hb⟩ := body_sound hmix ih hr
      exact fun ρ args' h a X => AnyW.call he (hb ρ args' h a X)

theorem HX.empty (ρ : Locs) (h0 : ∀ k, ρ k = none) (h : Heap) : HX ρ .nil 1 h where
  pos := by omega
  zero := h0 0
  fresh := fun _ _ => ⟨h0 _, T.get_nil _⟩
  at_ := fun k xb e => by rw [T.get_nil] at e; cases e
  inj := fun i j xb yb L M e => by rw [T.get_nil] at e; cases e

theorem closed (hmix : P.follows .mixedOrders = true) {hk : Hook} (ok : HookOk P hk) {fuel d : Nat} {f : FuncId} (he : enters P f = true) {args : List V} {v : V} {H' : T Xb} {nx' : Nat} (hr : (callX P hk fuel d).call f args .nil 1 = some (v, H', nx'))
    {ρ : Locs} (h0 : ∀ k, ρ k = none) {args' : List V} (ha : VL ρ args args') (h : Heap) : CallW P f args' h fun u _ => ∃ ρ', Sub ρ ρ' ∧ VR ρ' v u := by
  have hc := (call_ok hmix ok fuel d).call f args .nil 1 v H' nx' hr ρ args' h ha (HX.empty ρ h0 h)
  unfold AnyW at hc
  rw [he] at hc
  exact hc.mono fun u h' ⟨ρ', S, hv, _⟩ => ⟨ρ', S, hv⟩
end
end Jx
end
