/- Proved here: of JO4, that what the Go functions of this part compute is as their contracts say (texts Sa, Sb, Sc, Sd), for every input; no condition beyond those that each theorem states. -/
import Derived.Test.YtoimhhmlkbdodaaGreatJO3
set_option linter.all false
section
/- The transformer of JbB, made to be gone through step by step: values are kept in plain form; what must be found elsewhere is asked for. -/
namespace Js
open Go Jb

structure Nx (p : Prop) : Prop where
  out : p
structure Fin (p : Prop) : Prop where
  out : p
structure CallS (P : Program) (f : FuncId) (args : List V) (h : Heap) (K : V → Heap → Prop) : Prop where
  out : AnyW P f args h K
structure YieldS (P : Program) (l : Nat) (args : List V) (h : Heap) (K : V → Heap → Prop) : Prop where
  out : YieldW P l args h K
structure RdC (h : Heap) (l off : Nat) (k : V → Prop) : Prop where
  out : ∃ cs v, h l = some (.cells cs) ∧ cs[off]? = some v ∧ Nx (k v)
structure RdV (cs : List V) (off : Nat) (k : V → Prop) : Prop where
  out : ∃ v, cs[off]? = some v ∧ Nx (k v)
structure RdH (h : Heap) (l : Nat) (k : List V → Prop) : Prop where
  out : ∃ cs, h l = some (.cells cs) ∧ Nx (k cs)
structure RdE (l : List (List V)) (n : Int) (k : List V → Prop) : Prop where
  out : ∃ (i : Nat) (row : List V), n = (i : Int) ∧ l[i]? = some row ∧ Nx (k row)
structure RdI (cs : List V) (n : Int) (len es : Nat) (k : V → Prop) : Prop where
  out : ∃ (i : Nat) (v : V), n = (i : Int) ∧ i < len ∧ cs[i * es]? = some v ∧ Nx (k v)
structure Nm {α : Type} (x : α) (k : α → Prop) : Prop where
  out : ∃ y, x = y ∧ Nx (k y)
structure Wr (kd : IntKind) (x : Int) (k : Int → Prop) : Prop where
  out : ∃ y, kd.wrap x = y ∧ Nx (k y)
structure RdM (h : Heap) (m key : V) (k : Option V → Prop) : Prop where
  out : ∃ es r, mapAt h m = some es ∧ findV key es = some r ∧ Nx (k r)
structure At (n : Int) (len : Nat) (k : Nat → Prop) : Prop where
  out : ∃ i : Nat, n = (i : Int) ∧ i < len ∧ Nx (k i)
structure ToS (l : List (List V)) (k : ByteArray → Prop) : Prop where
  out : ∃ s, l.all isByte = true ∧ textOf l = s ∧ Nx (k s)
structure Part {α : Type} (f : Nat → Nat → α) (a b : Int) (n : Nat) (k : Nat → Nat → α → Prop) : Prop where
  out : ∃ (i j : Nat) (y : α), a = (i : Int) ∧ b = (j : Int) ∧ i ≤ j ∧ j ≤ n ∧ f i j = y ∧ Nx (k i j y)

def fK (d : IntKind) (k : IntKind → Prop) : Prop :=
  match d with
  | .i8 => k .i8 | .i16 => k .i16 | .i32 => k .i32 | .i64 => k .i64 | .u8 => k .u8 | .u16 => k .u16 | .u32 => k .u32 | .u64 => k .u64

def fN (n : Nat) (k : Nat → Prop) : Prop :=
  match n with
  | 0 => k 0 | 1 => k 1 | 2 => k 2 | 3 => k 3 | 4 => k 4 | 5 => k 5 | 6 => k 6 | 7 => k 7 | 8 => k 8 | 9 => k 9 | 10 => k 10 | 11 => k 11 | 12 => k 12 | 13 => k 13 | 14 => k 14 | 15 => k 15
  | n => k n

mutual
def fV : V → (V → Prop) → Prop
  | .undef, k => k .undef
  | .bool b, k => k (.bool b)
  | .int d n, k => fK d fun d => k (.int d n)
  | .str s, k => k (.str s)
  | .nilp, k => k .nilp
  | .ptr l o, k => k (.ptr l o)
  | .lp l o, k => k (.lp l o)
  | .cptr cs o, k => k (.cptr cs o)
  | .sl es l g, k => k (.sl es l g)
  | .sref es l o n c, k => k (.sref es l o n c)
  | .map r, k => k (.map r)
  | .fn f a b, k => fVs a fun a => fVs b fun b => k (.fn f a b)
  | .nilfn, k => k .nilfn
  | .iface t v, k => fV v fun v => k (.iface t v)
  | .nilif, k => k .nilif
  | .agg cs, k => fVs cs fun cs => k (.agg cs)
  | .tup cs, k => fVs cs fun cs => k (.tup cs)
  | .opt b v, k => fV v fun v => k (.opt b v)
def fVs : List V → (List V → Prop) → Prop
  | [], k => k []
  | v :: r, k => fV v fun v => fVs r fun r => k (v :: r)
end

def setS : List V → Nat → V → (List V → Prop) → Prop
  | [], _, _, k => k []
  | _ :: r, 0, v, k => k (v :: r)
  | a :: r, n + 1, v, k => setS r n v fun r => k (a :: r)

def wrS : List V → Nat → List V → (List V → Prop) → Prop
  | cs, 0, [], k => k cs
  | [], 0, _ :: _, _ => False
  | _ :: r, 0, v :: new, k => wrS r 0 new fun r => k (v :: r)
  | [], _ + 1, _, _ => False
  | a :: r, n + 1, new, k => wrS r n new fun r => k (a :: r)

structure brS (b : Bool) (T E : Prop) : Prop where
  out : (b = true → Nx T) ∧ (b = false → Nx E)
structure spB (b : Bool) (K : Bool → Prop) : Prop where
  out : (b = true → Nx (K true)) ∧ (b = false → Nx (K false))

def plainS (v : V) (k : V → Prop) : Prop :=
  match v with
  | .lp _ _ => False
  | .opt _ _ => False
  | v => k v

def shS (P : Program) (m : Nat) (t : TypeId) (v : V) (k : V → Prop) : Prop :=
  match P.underlying t with
  | some .bool => (match v with | .bool b => k (.bool b) | _ => False)
  | some (.int kd) => (match v with | .int k' n => (match kindEq kd k' with | true => fK kd fun kd => k (.int kd n) | false => False) | _ => False)
  | some .string => (match v with | .str s => k (.str s) | _ => False)
  | some (.slice e) => (match v, m with
    | .sl es l g, 0 => (match Nat.beq es (P.cellsOf e) with | true => k (.sl es l g) | false => False)
    | .sref es l o n c, 1 => (match Nat.beq es (P.cellsOf e) with | true => k (.sref es l o n c) | false => False)
    | .sl es l g, 2 => (match Nat.beq es (P.cellsOf e) with | true => k (.sl es l g) | false => False)
    | .sref es l o n c, 2 => (match Nat.beq es (P.cellsOf e) with | true => k (.sref es l o n c) | false => False)
    | _, _ => False)
  | some (.struct _) | some (.array _ _) => False
  | none => False
  | _ => plainS v k

def rdS (P : Program) (m : Nat) (t : TypeId) (cs : List V) (off : Nat) (k : V → Prop) : Prop :=
  match okT P t, (P.underlying t).isSome, aggT P t with
  | true, true, true => (match Nat.ble (off + P.cellsOf t) cs.length with
    | true => fVs ((cs.drop off).take (P.cellsOf t)) fun l => k (.agg l)
    | false => False)
  | true, true, false => (match cs[off]? with
    | some v => shS P m t v k
    | none => False)
  | _, _, _ => False

def varS (d : Nat) : List (Nat × List V) → (List V → Prop) → Prop
  | [], k => k []
  | (e, x) :: r, k => match Nat.beq e d with | true => k x | false => varS d r k

def rdO (P : Program) (m : Nat) (t : TypeId) (cs : List V) (off : Nat) (k : V → Prop) : Prop :=
  match okT P t, (P.underlying t).isSome, aggT P t with
  | true, true, true => off + P.cellsOf t ≤ cs.length ∧ Nx (fVs ((cs.drop off).take (P.cellsOf t)) fun l => k (.agg l))
  | true, true, false => RdV cs off fun v => shS P m t v k
  | _, _, _ => False

def loadS (P : Program) (m : Nat) (fr : Fr) (h : Heap) (t : TypeId) (a : V) (k : V → Prop) : Prop :=
  match a with
  | .ptr l off => (match okT P t, (P.underlying t).isSome, aggT P t with
    | true, true, true => RdH h l fun cs => off + P.cellsOf t ≤ cs.length ∧ Nx (fVs ((cs.drop off).take (P.cellsOf t)) fun l => k (.agg l))
    | true, true, false => RdC h l off fun v => shS P m t v k
    | _, _, _ => False)
  | .lp d off => varS d fr.lc fun cs => rdO P m t cs off k
  | .cptr cs off => rdO P m t cs off k
  | _ => False

def idxAddrS (P : Program) (t : TypeId) (x i : V) (k : V → Prop) : Prop :=
  match i with
  | .int _ n =>
    match P.underlying t with
    | some (.array len e) =>
      match okT P e with
      | true => At n len fun i => fN (P.cellsOf e) fun s => (match x with
        | .ptr l off => k (.ptr l (off + i * s))
        | .lp d off => k (.lp d (off + i * s))
        | .cptr cs off => k (.cptr cs (off + i * s))
        | _ => False)
      | false => False
    | some (.slice e) =>
      match okT P e with
      | true =>
        match x with
        | .sl es l _ => (match es == P.cellsOf e with
          | true => RdE l n fun row => k (.cptr row 0)
          | false => False)
        | .sref es l off len _ => (match es == P.cellsOf e with
          | true => At n len fun i => k (.ptr l (off + i * es))
          | false => False)
        | _ => False
      | false => False
    | _ => False
  | _ => False

def idxS (P : Program) (m : Nat) (t : TypeId) (x i : V) (k : V → Prop) : Prop :=
  match i with
  | .int _ n =>
    match P.underlying t with
    | some (.array len e) => (match x, okT P e, (P.underlying e).isSome, aggT P e with
      | .agg cs, true, true, false => RdI cs n len (P.cellsOf e) fun v => shS P m e v k
      | .agg cs, true, true, true => At n len fun i => i * P.cellsOf e + P.cellsOf e ≤ cs.length ∧ Nx (fVs ((cs.drop (i * P.cellsOf e)).take (P.cellsOf e)) fun l => k (.agg l))
      | _, _, _, _ => False)
    | some .string => (match x with
      | .str s => At n s.size fun i => Nm ((s.data.getD i 0).toNat : Int) fun b => k (.int .u8 b)
      | _ => False)
    | _ => False
  | _ => False

def needQ (q : Q) (k : V → Prop) : Prop :=
  match q with
  | .ok v => fV v k
  | .chk c v => c ∧ Nx (fV v k)
  | .bad => False

def fVss : List (List V) → (List (List V) → Prop) → Prop
  | [], k => k []
  | r :: l, k => fVs r fun r => fVss l fun l => k (r :: l)
def bsQ (q : Q) (k : V → Prop) : Prop :=
  match q with
  | .chk c (.sl es l g) => c ∧ Nx (fVss l fun l => fN es fun es => k (.sl es l g))
  | q => needQ q k
def numQ (q : Q) (k : V → Prop) : Prop :=
  match q with
  | .ok (.int d n) => fK d fun d => Nm n fun n => k (.int d n)
  | .chk c (.int d n) => c ∧ Nx (fK d fun d => Nm n fun n => k (.int d n))
  | q => needQ q k
def isNumOp : BinOp → Bool
  | .quo | .rem | .and | .or | .xor | .andNot | .shl | .shr => true
  | _ => false

def binS (P : Program) (op : BinOp) (t : TypeId) (x y : Operand) (u v : V) (k : V → Prop) : Prop :=
  match op, u, v with
  | .add, .int d a, .int d' b => (match kindEq d d' with | true => fK d fun d => Wr d (a + b) fun n => k (.int d n) | false => False)
  | .sub, .int d a, .int d' b => (match kindEq d d' with | true => fK d fun d => Wr d (a - b) fun n => k (.int d n) | false => False)
  | .mul, .int d a, .int d' b => (match kindEq d d' with | true => fK d fun d => Wr d (a * b) fun n => k (.int d n) | false => False)
  | op, u, v => match isNumOp op with
    | true => numQ (binQn P op t x y u v) k
    | false => needQ (binQn P op t x y u v) k

def convS (P : Program) (h : Heap) (src dst : TypeId) (x : V) (k : V → Prop) : Prop :=
  match P.underlying src, P.underlying dst, x with
  | some _, some (.int d), .int _ n => fK d fun d => Wr d n fun n => k (.int d n)
  | some (.slice e), some .string, .sl es l _ => (match zeroIsByte P e, es with
    | true, 1 => ToS l fun s => k (.str s)
    | _, _ => False)
  | some .string, some (.slice e), .str s => (match zeroIsByte P e with | true => Nm (bytesOf s) fun l => k (.sl 1 l .no) | false => False)
  | some (.slice e), some .string, .sref es l off n c => needQ (convQ P h src dst (.sref es l off n c)) k
  | _, _, _ => False

def lenS (P : Program) (t : TypeId) (x : V) (k : V → Prop) : Prop :=
  match P.underlying t with
  | some (.slice _) => (match x with
    | .sl _ l _ => Nm l.length fun n => k (.int .i64 n)
    | .sref _ _ _ n _ => k (.int .i64 n)
    | _ => False)
  | some .string => (match x with | .str s => Nm s.size fun n => k (.int .i64 n) | _ => False)
  | some (.array n _) => k (.int .i64 n)
  | _ => False

def sliceS (P : Program) (t : TypeId) (x : V) (lo hi mx : Option V) (k : V → Prop) : Prop :=
  match P.underlying t with
  | some (.slice e) =>
    match okT P e, x with
    | true, .sl es l g =>
      match es == P.cellsOf e, mx with
      | true, none => Nm l.length fun n => (match bndI lo 0, bndI hi n with
        | some a, some b => Part (fun i j => (l.take j).drop i) a b n fun _ _ l => k (.sl es l .no)
        | _, _ => False)
      | true, some m => (match bndI lo 0, (match hi with | some b => bndI (some b) 0 | none => none), bndI (some m) 0 with
        | some a, some b, some c => c = b ∧ Nx (Nm l.length fun n => Part (fun i j => (l.take j).drop i) a b n fun _ _ l => k (.sl es l .full))
        | _, _, _ => False)
      | false, _ => False
    | true, .sref es l off n cap =>
      match es == P.cellsOf e with
      | true => (match bndI lo 0, bndI hi n, mx with
        | some a, some b, none => Part (fun _ _ => ()) a b cap fun i j _ => k (.sref es l (match Nat.beq cap i with | true => off | false => off + i * es) (j - i) (cap - i))
        | _, _, _ => needQ (sliceR es l off cap n lo hi mx) k)
      | false => False
    | _, _ => False
  | some .string => (match x, mx, bndI lo 0 with
    | .str s, none, some a => Nm s.size fun n => (match bndI hi n with
      | some b => Part (fun i j => s.extract i j) a b n fun _ _ s => k (.str s)
      | none => False)
    | _, _, _ => False)
  | some (.array len e) => (match okT P e, x with
    | true, .ptr l off => needQ (sliceR (P.cellsOf e) l off len len lo hi mx) k
    | _, _ => False)
  | _ => False

def lookS (P : Program) (h : Heap) (t : TypeId) (x i : V) (ok : Bool) (k : V → Prop) : Prop :=
  match P.underlying t with
  | some (.map kt e) =>
    match keyT P kt i with
    | true => RdM h x i fun r => (match r with
      | some v => plainS v fun v => k (match ok with | true => .tup [v, .bool true] | false => v)
      | none => (match zeroVal P e with
        | some z => fV z fun z => plainS z fun z => k (match ok with | true => .tup [z, .bool false] | false => z)
        | none => False))
    | false => False
  | _ => False

def extS (x : V) (i : Nat) (k : V → Prop) : Prop :=
  match x with
  | .tup vs => (match vs[i]? with | some v => plainS v k | none => False)
  | _ => False

def fldAddrS (P : Program) (t : TypeId) (x : V) (f : Nat) (k : V → Prop) : Prop :=
  match fieldOf P t f with
  | some (o, t) => (match okT P t, P.cellsOf t with
    | true, _ + 1 => fN o fun o => (match x with
      | .ptr l off => k (.ptr l (off + o))
      | .lp d off => k (.lp d (off + o))
      | .cptr cs off => k (.cptr cs (off + o))
      | _ => False)
    | _, _ => False)
  | none => False

def fieldS (P : Program) (m : Nat) (t : TypeId) (x : V) (f : Nat) (k : V → Prop) : Prop :=
  match fieldOf P t f with
  | some (o, t) => (match x with | .agg cs => rdS P m t cs o k | _ => False)
  | none => False

def qopS (P : Program) (m : Nat) (fr : Fr) (h : Heap) (ρ : Operand → V) (o : Op) (k : V → Prop) : Prop :=
  match o with
  | .move x | .assign x => fV (ρ x) k
  | .fieldAddr t x f => fldAddrS P t (ρ x) f k
  | .load t a => loadS P m fr h t (ρ a) k
  | .binOp op t x y _ => binS P op t x y (ρ x) (ρ y) k
  | .unOp op _ x => numQ (unQ op (ρ x)) k
  | .buildSlice t n ps => bsQ (buildSliceQ P t n (ps.toList.map fun e => (e.1, ρ e.2))) k
  | .convert s d x => convS P h s d (ρ x) k
  | .lookup t x i ok => lookS P h t (ρ x) (ρ i) ok k
  | .indexAddr t x i => idxAddrS P t (ρ x) (ρ i) k
  | .field t x f => fieldS P m t (ρ x) f k
  | .index t x i => idxS P m t (ρ x) (ρ i) k
  | .extract x i => extS (ρ x) i k
  | .slice t x lo hi mx => sliceS P t (ρ x) (lo.map ρ) (hi.map ρ) (mx.map ρ) k
  | .call c => (match c.callee with
    | .builtin .len => (match c.argTypes.toList, c.args.toList with
      | t :: _, x :: _ => lenS P t (ρ x) k
      | _, _ => False)
    | _ => needQ (qop P m fr h ρ (.call c)) k)
  | o => needQ (qop P m fr h ρ o) k

def pickS (c a b : V) (k : V → Prop) : Prop :=
  match c with
  | .bool t => (match t with
    | true => (match a with
      | .bool x => k (.bool x)
      | .opt g v => (match g, v with | true, .bool x => k (.bool x) | _, _ => False)
      | _ => False)
    | false => (match b with
      | .bool x => k (.bool x)
      | .opt g v => (match g, v with | true, .bool x => k (.bool x) | _, _ => False)
      | _ => False))
  | _ => False
def pickOk (b : V) : Bool :=
  match b with
  | .bool _ => true
  | .opt g v => (match g with | false => true | true => (match v with | .bool _ => true | _ => false))
  | .undef => true
  | _ => false

def needS (g : Option Bool) (vs : List V) (R : Prop) : Prop :=
  match vs with
  | [] => R
  | v :: r => (match v with
    | .opt b _ => (match g, b with
      | some false, _ => needS g r R
      | _, true => needS g r R
      | _, false => False)
    | _ => needS g r R)

def quietS (P : Program) (esc : List Nat) (fr : Fr) (h : Heap) (o : Oper) (k : V → Prop) : Prop :=
  match o.op with
  | .pick c a b => (match pickOk (fr.ev a) && pickOk (fr.ev b) with | true => pickS (fr.ev c).strip (fr.ev a) (fr.ev b) k | false => False)
  | .assign (.const (.slice none 0 0)) => needQ (nilSlQ P o.type) k
  | op => qopS P (dstMode o esc) fr h (fun x => (fr.ev x).strip) op k

def putS (fr : Fr) (dst : Option Tmp) (v : V) (k : Fr → Prop) : Prop :=
  match fr with
  | ⟨tm, lc⟩ => match dst with
    | some d => setS tm d v fun tm => k ⟨tm, lc⟩
    | none => k ⟨tm, lc⟩

def guards (ops : List Oper) (o : Oper) : Bool := ops.any fun p => match p.guard with
  | some (j, _) => (match ops[j]? with | some q => dstEq q o | none => false)
  | none => false

def splitS (used : Bool) (v : V) (k : V → Prop) : Prop :=
  match used with
  | true => (match v with
    | .bool b => spB b fun b => k (.bool b)
    | v => k v)
  | false => k v

def guardS (ops : List Oper) (fr : Fr) (o : Oper) : Option (Option Bool) :=
  match o.guard with
  | none => some none
  | some (j, want) =>
    match ops[j]? with
    | some p => match p.dst with
      | some d => match fr.tm.getD d .undef with
        | .bool t => some (some (match want, t with | true, true => true | true, false => false | false, true => false | false, false => true))
        | .opt b v => match b with
          | false => some (some false)
          | true => match v with
            | .bool t => some (some (match want, t with | true, true => true | true, false => false | false, true => false | false, false => true))
            | _ => none
        | _ => none
      | none => none
    | none => none

def shape1S (P : Program) (mt : Nat) (t : TypeId) (r : V) (k : V → Prop) : Prop :=
  match P.underlying t with
  | some (.pointer _) => (match r with
    | .ptr l off => k (.ptr l off)
    | .nilp => k .nilp
    | _ => False)
  | some (.struct _) | some (.array _ _) => (match r with | .agg cs => (match Nat.beq cs.length (P.cellsOf t) with | true => k (.agg cs) | false => False) | _ => False)
  | some d => (match mt with
    | 2 => shS P 2 t r k
    | _ => shS P mt t r k)
  | none => False

def shapesS (P : Program) (mt : Nat) : List TypeId → List V → (List V → Prop) → Prop
  | [], [], k => k []
  | t :: ts, v :: vs, k => shape1S P mt t v fun v => shapesS P mt ts vs fun l => k (v :: l)
  | _, _, _ => False

def shapeS (P : Program) (mt : Nat) (t : TypeId) (r : V) (k : V → Prop) : Prop :=
  match P.underlying t with
  | some (.tuple ts) => (match r with
    | .tup vs => (match Nat.beq vs.length ts.toList.length with | true => shapesS P mt ts.toList vs fun vs => k (.tup vs) | false => False)
    | _ => False)
  | _ => shape1S P mt t r k

def cellsS (size : Nat) (v : V) (k : List V → Prop) : Prop :=
  match v with
  | .agg cs => (match Nat.beq cs.length size with | true => k cs | false => False)
  | v => match v.one, size with | true, 1 => k [v] | _, _ => False

def lcS (d : Nat) (cs : List V) : List (Nat × List V) → (List (Nat × List V) → Prop) → Prop
  | [], k => k [(d, cs)]
  | (e, x) :: r, k => match Nat.beq e d, Nat.ble e d with
    | true, _ => k ((d, cs) :: r)
    | false, true => lcS d cs r fun r => k ((e, x) :: r)
    | false, false => k ((d, cs) :: (e, x) :: r)

structure Up (h : Heap) (l : Nat) (o : Ob) (k : Heap → Prop) : Prop where
  out : ∃ h', h.upd l o = h' ∧ Nx (k h')

def storeS (P : Program) (t : TypeId) (a v : V) (fr : Fr) (h : Heap) (k : Fr → Heap → Prop) : Prop :=
  match okT P t, P.cellsOf t with
  | true, s + 1 => fV v fun v => cellsS (s + 1) v fun new =>
    match a with
    | .ptr l off => RdH h l fun cs => wrS cs off new fun cs => Up h l (.cells cs) fun h => k fr h
    | .lp d off => (match fr with
      | ⟨tm, lc⟩ => varS d lc fun cs => wrS cs off new fun cs => lcS d cs lc fun lc => k ⟨tm, lc⟩ h)
    | _ => False
  | _, _ => False

structure New (h : Heap) (o : Ob) (k : Nat → Heap → Prop) : Prop where
  out : ∀ l, h l = none → Nx (k l (h.upd l o))

structure App (es n m : Nat) (g : G) (h : Heap) (k : G → Heap → Prop) : Prop where
  out : appG es n m g h fun g h => Nx (k g h)

def appS (P : Program) (t t2 : TypeId) (x y : V) (h : Heap) (k : V → Heap → Prop) : Prop :=
  match P.underlying t with
  | some (.slice e) =>
    match P.info? e with
    | some i =>
      match Nat.blt 0 i.size && Nat.ble i.bytes 4096, (zeroV P e).isSome, x, srcQ P t2 i.size y with
      | true, true, .sl es l g, some m =>
        (match es == i.size with
        | true => Nm l.length fun n => Nm m.length fun n' => Nm (l ++ m) fun l' => n + n' ≤ mostLen ∧ App es n n' g h fun g h => k (.sl es l' g) h
        | false => False)
      | _, _, _, _ => False
    | none => False
  | _ => False

structure MapUp (h : Heap) (r : Nat) (key v : V) (k : Heap → Prop) : Prop where
  out : ∃ es es', h r = some (.obj (.map es)) ∧ updV key v es = some es' ∧ Nx (k (h.upd r (.obj (.map es'))))
def mapUpS (P : Program) (t : TypeId) (x key v : V) (h : Heap) (k : Heap → Prop) : Prop :=
  match P.underlying t, x with
  | some (.map kt _), .map (some r) =>
    (match keyT P kt key, v.plain with
    | true, true => MapUp h r key v k
    | _, _ => False)
  | _, _ => False

def effS (P : Program) (mt : Nat) (o : Op) (ty : TypeId) (ρ : Operand → V) (fr : Fr) (h : Heap) (k : V → Fr → Heap → Prop) : Prop :=
  match o with
  | .alloc t => (match zeroV P t with | some cs => fVs cs fun cs => New h (.cells cs) fun l h => k (.ptr l 0) fr h | none => False)
  | .box t x => (match okT P t with
    | true => fV (ρ x) fun v => cellsS (P.cellsOf t) v fun cs => New h (.cells cs) fun l h => k (.ptr l 0) fr h
    | false => False)
  | .store t a x => storeS P t (ρ a) (typed P ρ t x) fr h fun fr h => k .undef fr h
  | .mapUpdate t m x v => mapUpS P t (ρ m) (ρ x) (ρ v) h fun h => k .undef fr h
  | .call c =>
    match c.callee with
    | .value f => (match ρ f with
      | .fn (.func j) first caps => (match (argsV P ρ c.argTypes.toList c.args.toList).all V.plain with
        | true => fVs (first ++ argsV P ρ c.argTypes.toList c.args.toList ++ caps) fun args => CallS P j args h fun r h => Nx (shapeS P mt ty r fun v => k v fr h)
        | false => False)
      | .fn (.yield l) [] [] => (match (argsV P ρ c.argTypes.toList c.args.toList).all V.plain with
        | true => fVs (argsV P ρ c.argTypes.toList c.args.toList) fun args => YieldS P l args h fun r h => Nx (shapeS P mt ty r fun v => k v fr h)
        | false => False)
      | _ => False)
    | .builtin .append => (match c.argTypes.toList, c.args.toList, mt with
      | t :: t2 :: _, [x, y], 0 => appS P t t2 (typed P ρ t x) (typed P ρ t2 y) h fun v h => k v fr h
      | _, _, _ => Nx (effW P mt o ty ρ fr h fun v fr h => Nx (k v fr h)))
    | _ => Nx (effW P mt o ty ρ fr h fun v fr h => Nx (k v fr h))
  | _ => effW P mt o ty ρ fr h fun v fr h => Nx (k v fr h)

def yesS (P : Program) (t : TypeId) (v : V) : V :=
  match P.underlying t with
  | some .bool | some (.int _) | some .string => .opt true v
  | _ => v

def opS (P : Program) (esc : List Nat) (ops : List Oper) (o : Oper) (fr : Fr) (h : Heap) (K : Fr → Heap → Prop) : Prop :=
  match guardS ops fr o with
  | none => False
  | some none =>
    (match sortOf esc o with
    | 0 => needS none (quietOps o fr) (quietS P esc fr h o fun v => splitS (guards ops o) v fun v => putS fr o.dst v fun fr => K fr h)
    | 1 => (match o.dst, ownVar P o.op (fun x => (fr.ev x).strip) with
      | some d, some (cs, c) => needS none (o.op.operands.toList.map fr.ev) (c ∧ Nx (fVs cs fun cs => (match fr with | ⟨tm, lc⟩ => setS tm d (.lp d 0) fun tm => lcS d cs lc fun lc => K ⟨tm, lc⟩ h)))
      | _, _ => False)
    | _ => needS none (o.op.operands.toList.map fr.ev) (effS P (dstMode o esc) o.op o.type (fun x => (fr.ev x).strip) fr h fun v fr h => splitS (guards ops o) v fun v => putS fr o.dst v fun fr => K fr h))
  | some (some true) =>
    (match sortOf esc o with
    | 0 => needS (some true) (quietOps o fr) (quietS P esc fr h o fun v => splitS (guards ops o) v fun v => putS fr o.dst (.opt true v) fun fr => K fr h)
    | 1 => False
    | _ => needS none (o.op.operands.toList.map fr.ev) (effS P (dstMode o esc) o.op o.type (fun x => (fr.ev x).strip) fr h fun v fr h => splitS (guards ops o) v fun v => putS fr o.dst (yesS P o.type v) fun fr => K fr h))
  | some (some false) =>
    (match sortOf esc o with
    | 0 => ∀ v : V, Nx (putS fr o.dst (.opt false v) fun fr => K fr h)
    | 1 => False
    | _ => fV (noV P o.type false) fun v => putS fr o.dst v fun fr => K fr h)

def opsS (P : Program) (esc : List Nat) (ops : List Oper) : List Oper → Fr → Heap → (Fr → Heap → Prop) → Prop
  | [], fr, h, K => K fr h
  | o :: r, fr, h, K => opS P esc ops o fr h fun fr h => opsS P esc ops r fr h K

structure EqV (u v : V) : Prop where
  out : u = v
def again1 (P : Program) (esc : List Nat) (ops : List Oper) (fr : Fr) (h : Heap) (j : Nat) : Prop :=
  match ops[j]? with
  | none => False
  | some o => match guardS ops fr o, o.dst with
    | some none, some d => quietS P esc fr h o fun v => fV (fr.tm.getD d .undef) fun u => EqV v u
    | some (some true), some d => quietS P esc fr h o fun v => fV (fr.tm.getD d .undef) fun u => EqV (.opt true v) u
    | _, _ => False
def againS (P : Program) (esc : List Nat) (ops : List Oper) (fr : Fr) (h : Heap) : List Nat → Prop → Prop
  | [], R => R
  | j :: r, R => Nx (again1 P esc ops fr h j) ∧ Nx (againS P esc ops fr h r R)
def againGS (P : Program) (esc : List Nat) (ops : List Oper) (g : Option (Option Bool)) (fr : Fr) (h : Heap) (rc : List Nat) (R : Prop) : Prop :=
  match rc with
  | [] => R
  | rc => match g with
    | some (some false) => R
    | _ => againS P esc ops fr h rc (Nx R)

def runS (P : Program) (esc : List Nat) (ops : List Oper) : List (Nat × List Nat) → Fr → Heap → (Fr → Heap → Prop) → Prop
  | [], fr, h, K => K fr h
  | (i, rc) :: r, fr, h, K =>
    match ops[i]? with
    | none => False
    | some o => opS P esc ops o fr h fun fr' h' => againGS P esc ops (guardS ops fr o) fr' h' rc (runS P esc ops r fr' h' K)

def planS (esc : List Nat) (ops : List Oper) : List (Nat × List Nat) :=
  let binds := ops.map bindsOf
  let sorts := ops.map (sortOf esc)
  let order := asap (binds.map maskOf) sorts ops.length 0
  let anc := ancOf binds order []
  planOf ops sorts anc order []
structure Plan (P : Program) (ops : List Oper) (esc : List Nat) (k : List (Nat × List Nat) → Prop) : Prop where
  out : ∃ p, zerosOk P ops = true ∧ regPlan esc ops = some p ∧ Nx (k p)

def killS (l : List Nat) (fr : Fr) (k : Fr → Prop) : Prop :=
  match l with
  | [] => k fr
  | l => (match fr with | ⟨tm, lc⟩ => fVs (killAll l ⟨tm, lc⟩).tm fun tm => k ⟨tm, lc⟩)

def regS (P : Program) (esc : List Nat) (ops : List Oper) (draw : Bool) (fr : Fr) (h : Heap) (K : Fr → Heap → Prop) : Prop :=
  match draw with
  | false => (match nodupN (begun esc ops) with
    | true => killS (begun esc ops) fr fun fr => opsS P esc ops ops fr h K
    | false => False)
  | true => Plan P ops esc fun p => killS (begun esc ops) fr fun fr => runS P esc ops p fr h K

structure Cg where
  esc : List Nat
  wipes : List (Nat × List Nat × List Nat)
  rnd : Bool := false

def reps (b : Bool) : Nat → List Bool → List Bool
  | 0, l => l
  | n + 1, l => b :: reps b n l
def rl : Bool → List Nat → List Bool
  | _, [] => []
  | b, n :: r => reps b n (rl (!b) r)
def offs : List Bool → Nat → List Nat
  | [], _ => []
  | true :: r, i => offs r (i + 1)
  | false :: r, i => i :: offs r (i + 1)
def Cg.cfg (g : Cg) : Cfg := { esc := g.esc, wipes := g.wipes.map fun e => (e.1, offs (rl true e.2.1) 0 ++ e.2.2.map (1000000 + ·)), rnd := g.rnd }

def keepS : List Bool → List V → (List V → Prop) → Prop
  | [], l, k => k l
  | _ :: _, [], k => k []
  | true :: m, v :: r, k => keepS m r fun r => k (v :: r)
  | false :: m, _ :: r, k => keepS m r fun r => k (.undef :: r)
def mutS : List Nat → List V → (List V → Prop) → Prop
  | [], l, k => k l
  | t :: r, l, k => fV (mutV (l.getD t .undef)) fun v => setS l t v fun l => mutS r l k
def dropS (m : List Bool) : List (Nat × List V) → (List (Nat × List V) → Prop) → Prop
  | [], k => k []
  | (e, x) :: r, k => match m[e]? with | some false => dropS m r k | _ => dropS m r fun r => k ((e, x) :: r)
def wipes3 (id : Nat) : List (Nat × List Nat × List Nat) → Option (List Nat × List Nat)
  | [] => none
  | e :: r => match Nat.beq e.1 id with | true => some e.2 | false => wipes3 id r

def wipeS (w : Option (List Nat × List Nat)) (fr : Fr) (k : Fr → Prop) : Prop :=
  match w with
  | none => k fr
  | some (m, mu) => (match fr with
    | ⟨tm, lc⟩ => match Nat.ble (rl true m).length 1000000 && Nat.ble tm.length 1000000 && lc.all (fun e => Nat.blt e.1 1000000) with
      | true => keepS (rl true m) tm fun tm => mutS mu tm fun tm => dropS (rl true m) lc fun lc => k ⟨tm, lc⟩
      | false => False)

structure RangeS (P : Program) (rnd : Bool) (v : V) (ps : Array Tmp) (asg body : Code) (fr : Fr) (h : Heap) (Q : Ex → Fr → Heap → Prop) : Prop where
  out : rangeW P rnd v ps asg body fr h Q

mutual
def wpS (P : Program) (g : Cg) : Code → Fr → Heap → (Ex → Fr → Heap → Prop) → Prop
  | .skip, fr, h, Q => Q .normal fr h
  | .region id ops draw, fr, h, Q => regS P g.esc ops.toList draw fr h fun fr h => wipeS (wipes3 id g.wipes) fr fun fr => Q .normal fr h
  | .seq a b, fr, h, Q => wpS P g a fr h (seqK (fun fr h => wpS P g b fr h Q) Q)
  | .cond c x y, fr, h, Q => (match fr.ev c with
    | .bool b => brS b (wpS P g x fr h Q) (wpS P g y fr h Q)
    | _ => False)
  | .block id c, fr, h, Q => wpS P g c fr h (blockK id Q)
  | .loop c, fr, h, Q => LoopI (fun fr h Q => wpS P g c fr h Q) Q fr h
  | .exit id, fr, h, Q => Q (.exit id) fr h
  | .ret, fr, h, Q => Q .ret fr h
  | .label _, fr, h, Q => Q .normal fr h
  | .rangeFunc f ps asg body, fr, h, Q => RangeS P g.rnd (fr.ev f) ps asg body fr h Q
  | .goto l, fr, h, Q => Q (.goto l) fr h
  | .scope c, fr, h, Q => wpS P g c fr h (scopeK c (ScopeI c (fun l fr h Q => wpLS P g c l fr h Q) Q) Q)
  | .refuse _, _, _, _ => False
def wpLS (P : Program) (g : Cg) : Code → Nat → Fr → Heap → (Ex → Fr → Heap → Prop) → Prop
  | .seq a b, l, fr, h, Q => (match hasLab a l with
    | true => wpLS P g a l fr h (seqK (fun fr h => wpS P g b fr h Q) Q)
    | false => wpLS P g b l fr h Q)
  | .label _, _, fr, h, Q => Q .normal fr h
  | _, _, _, _, _ => False
end

def resS (P : Program) (m : Nat) (fr : Fr) (h : Heap) (r : ResultVar) (k : V → Prop) : Prop :=
  match r with
  | .tmp t => fV (fr.tm.getD t .undef) fun v => (match v with
    | .lp _ _ => False
    | .opt b v => (match b with | true => plainS v k | false => False)
    | v => k v)
  | .cell a t => (match fr.tm.getD a .undef with
    | .lp d off => loadS P m fr h t (.lp d off) k
    | .ptr l off => loadS P m fr h t (.ptr l off) k
    | _ => False)

def ressS (P : Program) (m : Nat) (fr : Fr) (h : Heap) : List ResultVar → (List V → Prop) → Prop
  | [], k => k []
  | r :: rs, k => resS P m fr h r fun v => ressS P m fr h rs fun vs => k (v :: vs)

def endS (P : Program) (m : Nat) (fn : Func) (K : V → Heap → Prop) (e : Ex) (fr : Fr) (h : Heap) : Prop :=
  match e with
  | .normal | .ret => ressS P m fr h fn.results.toList fun vs => (match vs with | [v] => Fin (K v h) | vs => Fin (K (.tup vs) h))
  | _ => False

def bodyS (P : Program) (g : Cg) (fn : Func) (args : List V) (h : Heap) (K : V → Heap → Prop) : Prop :=
  match fn.body with
  | none => False
  | some c => fVs (frame0 fn args).tm fun tm => wpS P g c ⟨tm, []⟩ h (endS P (rmode g.esc) fn K)
end Js
end

section
/- What the transformer of Sa asks for is enough: JbB's asks for no more. -/
namespace Js
open Go Jb
variable {P : Program}

theorem fK_iff {d : IntKind} {k : IntKind → Prop} : fK d k ↔ k d := by cases d <;> exact Iff.rfl
theorem fN_iff {n : Nat} {k : Nat → Prop} : fN n k ↔ k n := by unfold fN; split <;> exact Iff.rfl
mutual
theorem fV_iff : ∀ (v : V) (k : V → Prop), fV v k ↔ k v
  | .undef, k => by simp only [fV]
  | .bool b, k => by simp only [fV]
  | .int d n, k => by simp only [fV]; exact fK_iff
  | .str s, k => by simp only [fV]
  | .nilp, k => by simp only [fV]
  | .ptr l o, k => by simp only [fV]
  | .lp l o, k => by simp only [fV]
  | .cptr cs o, k => by simp only [fV]
  | .sl es l g, k => by simp only [fV]
  | .sref es l o n c, k => by simp only [fV]
  | .map r, k => by simp only [fV]
  | .fn f a b, k => by simp only [fV]; rw [fVs_iff a, fVs_iff b]
  | .nilfn, k => by simp only [fV]
  | .iface t v, k => by simp only [fV]; rw [fV_iff v]
  | .nilif, k => by simp only [fV]
  | .agg cs, k => by simp only [fV]; rw [fVs_iff cs]
  | .tup cs, k => by simp only [fV]; rw [fVs_iff cs]
  | .opt b v, k => by simp only [fV]; rw [fV_iff v]
theorem fVs_iff : ∀ (l : List V) (k : List V → Prop), fVs l k ↔ k l
  | [], k => by simp only [fVs]
  | v :: r, k => by simp only [fVs]; rw [fV_iff v, fVs_iff r]
end
theorem setS_iff : ∀ {l : List V} {n : Nat} {v : V} {k : List V → Prop}, setS l n v k ↔ k (l.set n v)
  | [], _, _, _ => by simp [setS]
  | _ :: _, 0, _, _ => by simp [setS]
  | a :: r, n + 1, v, k => by simp only [setS, List.set_cons_succ]; exact setS_iff

theorem wrS_sound : ∀ {cs : List V} {off : Nat} {new : List V} {k : List V → Prop}, wrS cs off new k → off + new.length ≤ cs.length ∧ k (wrCells cs off new)
  | cs, 0, [], k, e => by simp only [wrS] at e; simpa [wrCells] using e
  | [], 0, _ :: _, k, e => e.elim
  | a :: r, 0, v :: new, k, e => by
    simp only [wrS] at e
    obtain ⟨h1, h2⟩ := wrS_sound e
    simp only [Nat.zero_add] at h1
    refine ⟨by simp; omega, ?_⟩
    simpa [wrCells] using h2
  | [], _ + 1, _, k, e => by simp only [wrS] at e
  | a :: r, n + 1, new, k, e => by
    simp only [wrS] at e
    obtain ⟨h1, h2⟩ := wrS_sound e
    refine ⟨by simp; omega, ?_⟩
    have : n + 1 + new.length = n + new.length + 1 := by omega
    simpa [wrCells, this] using h2

theorem kindEq_eq {a b : IntKind} (h : kindEq a b = true) : a = b := by cases a <;> cases b <;> first | rfl | cases h

theorem plainS_sound {v : V} {k : V → Prop} (e : plainS v k) : v.plain = true ∧ k v.deLp ∧ k v := by
  cases v <;> first | exact e.elim | exact ⟨rfl, e, e⟩

theorem shS_sound {m : Nat} {t : TypeId} {v : V} {k : V → Prop} {c : Prop} (hc : c) (e : shS P m t v k) : (shV P m t c v).need k := by
  unfold shS at e
  unfold shV
  split at e
  · rename_i h; rw [h]; split at e
    · exact ⟨⟨hc, rfl⟩, e⟩
    · exact e.elim
  · rename_i h; rw [h]; split at e
    · split at e
      · rename_i hk
        exact ⟨⟨hc, hk⟩, fK_iff.1 e⟩
      · exact e.elim
    · exact e.elim
  · rename_i h; rw [h]; split at e
    · exact ⟨⟨hc, rfl⟩, e⟩
    · exact e.elim
  · rename_i h; rw [h]; split at e
    · split at e
      · rename_i hb
        have := Nat.eq_of_beq_eq_true hb
        subst this
        exact ⟨⟨hc, by simp [V.isSl]⟩, e⟩
      · exact e.elim
    · split at e
      · rename_i hb
        have hb' := Nat.eq_of_beq_eq_true hb
        subst hb'
        exact ⟨⟨hc, by simpa [V.isRef] using hb⟩, e⟩
      · exact e.elim
    · split at e
      · rename_i hb
        exact ⟨⟨hc, by simpa [V.isSl] using Or.inl (Nat.eq_of_beq_eq_true hb)⟩, e⟩
      · exact e.elim
    · split at e
      · rename_i hb
        exact ⟨⟨hc, by simpa [V.isSl, V.isRef] using Nat.eq_of_beq_eq_true hb⟩, e⟩
      · exact e.elim
    · exact e.elim
  · exact e.elim
  · exact e.elim
  · exact e.elim
  · rename_i h1 h2 h3 h4 h5 h6 h7
    obtain ⟨a, b, _⟩ := plainS_sound e
    split
    · rename_i h; exact (h1 h).elim
    · rename_i h; exact (h2 _ h).elim
    · rename_i h; exact (h3 h).elim
    · rename_i h; exact (h4 _ h).elim
    · rename_i h; exact (h5 _ h).elim
    · rename_i h; exact (h6 _ _ h).elim
    · exact ⟨⟨hc, a⟩, b⟩

theorem rdS_sound {m : Nat} {t : TypeId} {cs : List V} {off : Nat} {k : V → Prop} (e : rdS P m t cs off k) : (rdQ P m t cs off).need k := by
  unfold rdS at e
  unfold rdQ
  split at e
  · rename_i h1 h2 h3
    rw [h1, h2, h3]
    split at e
    · rename_i hb
      exact ⟨Nat.le_of_ble_eq_true hb, (fVs_iff _ _).1 e⟩
    · exact e.elim
  · rename_i h1 h2 h3
    rw [h1, h2, h3]
    split at e
    · rename_i v hv
      obtain ⟨hl, he⟩ := List.getElem?_eq_some_iff.1 hv
      rw [show cs.getD off .undef = v from by simp [List.getD, hv]]
      exact shS_sound hl e
    · exact e.elim
  · exact e.elim

theorem rdO_sound {m : Nat} {t : TypeId} {cs : List V} {off : Nat} {k : V → Prop} (e : rdO P m t cs off k) : (rdQ P m t cs off).need k := by
  unfold rdO at e
  unfold rdQ
  split at e
  · rename_i h1 h2 h3
    rw [h1, h2, h3]
    exact ⟨e.1, (fVs_iff _ _).1 e.2.out⟩
  · rename_i h1 h2 h3
    rw [h1, h2, h3]
    obtain ⟨v, hv, ⟨e⟩⟩ := e
    rw [show cs.getD off .undef = v from by simp [List.getD, hv]]
    exact shS_sound (List.getElem?_eq_some_iff.1 hv).1 e
  · exact e.elim

theorem varS_iff {d : Nat} {tm : List V} : ∀ {lc : List (Nat × List V)} {k : List V → Prop}, varS d lc k ↔ k (Fr.var ⟨tm, lc⟩ d)
  | [], _ => Iff.rfl
  | (e, x) :: r, k => by
    simp only [varS, Fr.var, List.find?_cons]
    by_cases h : e = d
    · subst h; simp
    · have h1 : Nat.beq e d = false := by cases hb : Nat.beq e d with | false => rfl | true => exact (h (Nat.eq_of_beq_eq_true hb)).elim
      have h2 : (e == d) = false := by simpa using h
      simp only [h1, h2]
      exact varS_iff (tm := tm) (lc := r)

theorem cellsAt_of {h : Heap} {l : Nat} {cs : List V} (e : h l = some (.cells cs)) : cellsAt h l = cs := by unfold cellsAt; rw [e]

theorem loadS_sound {m : Nat} {fr : Fr} {h : Heap} {t : TypeId} {a : V} {k : V → Prop} (e : loadS P m fr h t a k) : (loadQ P m fr h t a).need k := by
  unfold loadS at e
  unfold loadQ
  split at e
  · split at e
    · rename_i h1 h2 h3
      obtain ⟨cs, hl, ⟨hle, ⟨e⟩⟩⟩ := e.out
      simp only [rdQ, h1, h2, h3]
      rw [cellsAt_of hl]
      exact ⟨hle, (fVs_iff _ _).1 e⟩
    · rename_i h1 h2 h3
      obtain ⟨cs, v, hl, hv, ⟨e⟩⟩ := e
      simp only [rdQ, h1, h2, h3]
      rw [cellsAt_of hl, show List.getD cs _ .undef = v from by simp [List.getD, hv]]
      exact shS_sound (List.getElem?_eq_some_iff.1 hv).1 e
    · exact e.elim
  · obtain ⟨tm, lc⟩ := fr
    exact rdO_sound ((varS_iff (tm := tm)).1 e)
  · exact rdO_sound e
  · exact e.elim

theorem needQ_sound {q : Q} {k : V → Prop} (e : needQ q k) : q.need k := by
  unfold needQ at e
  split at e
  · exact (fV_iff _ _).1 e
  · exact ⟨e.1, (fV_iff _ _).1 e.2.out⟩
  · exact e.elim

theorem fVss_iff : ∀ (l : List (List V)) (k : List (List V) → Prop), fVss l k ↔ k l
  | [], k => Iff.rfl
  | r :: l, k => by simp only [fVss]; rw [fVs_iff, fVss_iff l]
theorem bsQ_sound {q : Q} {k : V → Prop} (e : bsQ q k) : q.need k := by
  unfold bsQ at e
  split at e
  · exact ⟨e.1, fN_iff.1 ((fVss_iff _ _).1 e.2.out)⟩
  · exact needQ_sound e
theorem numQ_sound {q : Q} {k : V → Prop} (e : numQ q k) : q.need k := by
  unfold numQ at e
  split at e
  · obtain ⟨n, rfl, ⟨e⟩⟩ := fK_iff.1 e; exact e
  · obtain ⟨hc, ⟨e⟩⟩ := e
    obtain ⟨n, rfl, ⟨e⟩⟩ := fK_iff.1 e
    exact ⟨hc, e⟩
  · exact needQ_sound e

theorem idxAddrS_sound {t : TypeId} {x i : V} {k : V → Prop} (e : idxAddrS P t x i k) : (indexAddrQ P t x i).need k := by
  unfold idxAddrS at e
  unfold indexAddrQ
  split at e
  · split at e
    · rename_i len et ht
      split at e
      · rename_i ho
        obtain ⟨j, hj, hlt, ⟨e⟩⟩ := e
        have e := fN_iff.1 e
        subst hj
        split at e
        · simp only [ht, ho]; exact ⟨⟨by omega, by omega⟩, by simpa using e⟩
        · simp only [ht, ho]; exact ⟨⟨by omega, by omega⟩, by simpa using e⟩
        · simp only [ht, ho]; exact ⟨⟨by omega, by omega⟩, by simpa using e⟩
        · exact e.elim
      · exact e.elim
    · rename_i et ht
      split at e
      · rename_i ho
        split at e
        · split at e
          · rename_i hb
            obtain ⟨j, row, hj, hr, ⟨e⟩⟩ := e
            subst hj
            obtain ⟨hl, he⟩ := List.getElem?_eq_some_iff.1 hr
            simp only [ht, ho]
            simp only [hb]
            refine ⟨⟨by omega, by omega⟩, ?_⟩
            simpa [List.getD, hr] using e
          · exact e.elim
        · split at e
          · rename_i hb
            obtain ⟨j, hj, hlt, ⟨e⟩⟩ := e
            subst hj
            simp only [ht, ho]
            simp only [hb]
            exact ⟨⟨by omega, by omega⟩, by simpa using e⟩
          · exact e.elim
        · exact e.elim
      · exact e.elim
    · exact e.elim
  · exact e.elim

theorem need_also {q : Q} {c : Prop} {k : V → Prop} (hc : c) (e : q.need k) : (q.also c).need k := by
  cases q with
  | ok v => exact ⟨hc, e⟩
  | chk d v => exact ⟨⟨hc, e.1⟩, e.2⟩
  | bad => exact e

theorem idxS_sound {m : Nat} {t : TypeId} {x i : V} {k : V → Prop} (e : idxS P m t x i k) : (indexQ P m t x i).need k := by
  unfold idxS at e
  unfold indexQ
  split at e
  · split at e
    · rename_i len et ht
      split at e
      · rename_i h1 h2 h3
        obtain ⟨j, v, hj, hlt, hv, ⟨e⟩⟩ := e
        subst hj
        rw [ht]
        refine need_also ⟨by omega, by omega⟩ ?_
        simp only [rdQ, h1, h2, h3, Int.toNat_natCast]
        rw [show List.getD _ _ V.undef = v from by simp [List.getD, hv]]
        exact shS_sound (List.getElem?_eq_some_iff.1 hv).1 e
      · rename_i h1 h2 h3
        obtain ⟨j, hj, hlt, ⟨hle, ⟨e⟩⟩⟩ := e
        subst hj
        rw [ht]
        refine need_also ⟨by omega, by omega⟩ ?_
        simp only [rdQ, h1, h2, h3, Int.toNat_natCast]
        exact ⟨hle, (fVs_iff _ _).1 e⟩
      · exact e.elim
    · rename_i ht
      split at e
      · obtain ⟨j, hj, hlt, ⟨b, hb, ⟨e⟩⟩⟩ := e
        subst hj
        subst hb
        rw [ht]
        exact ⟨⟨by omega, by omega⟩, by simpa using e⟩
      · exact e.elim
    · exact e.elim
  · exact e.elim

theorem binS_sound {op : BinOp} {t : TypeId} {x y : Operand} {u v : V} {k : V → Prop} (e : binS P op t x y u v k) : (binQn P op t x y u v).need k := by
  unfold binS at e
  split at e
  · split at e
    · rename_i hk
      have e := fK_iff.1 e
      obtain ⟨n, hn, ⟨e⟩⟩ := e
      subst hn
      unfold binQn
      cases nilC x || nilC y <;> (simp only [binQ, hk]; exact e)
    · exact e.elim
  · split at e
    · rename_i hk
      have e := fK_iff.1 e
      obtain ⟨n, hn, ⟨e⟩⟩ := e
      subst hn
      unfold binQn
      cases nilC x || nilC y <;> (simp only [binQ, hk]; exact e)
    · exact e.elim
  · split at e
    · rename_i hk
      have e := fK_iff.1 e
      obtain ⟨n, hn, ⟨e⟩⟩ := e
      subst hn
      unfold binQn
      cases nilC x || nilC y <;> (simp only [binQ, hk]; exact e)
    · exact e.elim
  · split at e
    · exact numQ_sound e
    · exact needQ_sound e

theorem convS_sound {h : Heap} {s d : TypeId} {x : V} {k : V → Prop} (e : convS P h s d x k) : (convQ P h s d x).need k := by
  unfold convS at e
  split at e
  · rename_i h1 h2
    have e := fK_iff.1 e
    obtain ⟨n, hn, ⟨e⟩⟩ := e
    subst hn
    simp only [convQ, h1, h2]
    exact e
  · rename_i h1 h2
    split at e
    · rename_i hz
      obtain ⟨b, hb, hs, ⟨e⟩⟩ := e
      subst hs
      simp only [convQ, h1, h2, hz]
      exact ⟨hb, e⟩
    · exact e.elim
  · rename_i h1 h2
    split at e
    · rename_i hz
      obtain ⟨l, hl, ⟨e⟩⟩ := e
      subst hl
      simp only [convQ, h1, h2, hz]
      exact e
    · exact e.elim
  · exact needQ_sound e
  · exact e.elim

theorem lenS_sound {t : TypeId} {x : V} {k : V → Prop} (e : lenS P t x k) : (lenQ P t x).need k := by
  unfold lenS at e
  unfold lenQ
  split at e
  · rename_i ht
    rw [ht]
    split at e
    · obtain ⟨n, hn, ⟨e⟩⟩ := e; subst hn; exact e
    · exact e
    · exact e.elim
  · rename_i ht
    rw [ht]
    split at e
    · obtain ⟨n, hn, ⟨e⟩⟩ := e; subst hn; exact e
    · exact e.elim
  · rename_i ht
    rw [ht]
    exact e
  · exact e.elim

theorem sliceS_sound {t : TypeId} {x : V} {lo hi mx : Option V} {k : V → Prop} (e : sliceS P t x lo hi mx k) : (sliceQ P t x lo hi mx).need k := by
  unfold sliceS at e
  unfold sliceQ
  split at e
  · rename_i et ht
    rw [ht]
    split at e
    · rename_i es l g ho
      simp only [ho]
      split at e
      · rename_i hb
        simp only [hb]
        obtain ⟨_, rfl, ⟨e⟩⟩ := e
        split at e
        · rename_i a b ha hb'
          simp only [ha, hb']
          obtain ⟨i, j, y, rfl, rfl, l1, l2, rfl, ⟨e⟩⟩ := e
          exact ⟨⟨by omega, by omega, by omega⟩, by simpa using e⟩
        · exact e.elim
      · rename_i m hb
        simp only [hb]
        split at e
        · rename_i a b c ha hb' hc
          obtain ⟨hcb, ⟨_, rfl, ⟨i, j, y, rfl, rfl, l1, l2, rfl, ⟨e⟩⟩⟩⟩ := e
          cases hi with
          | none => cases hb'
          | some hv =>
          simp only [ha, hb', hc]
          exact ⟨⟨by omega, by omega, by omega, hcb⟩, by simpa using e⟩
        · exact e.elim
      · exact e.elim
    · rename_i es l off n cap ho
      simp only [ho]
      split at e
      · rename_i hb
        simp only [hb]
        split at e
        · rename_i a b ha hb'
          obtain ⟨i, j, y, rfl, rfl, l1, l2, _, ⟨e⟩⟩ := e
          have hm : bndI (none : Option V) (cap : Int) = some (cap : Int) := rfl
          simp only [sliceR, ha, hb', hm]
          refine ⟨⟨by omega, by omega, by omega, by omega⟩, ?_⟩
          have e1 : (((j : Int) - (i : Int)).toNat) = j - i := by omega
          have e2 : (((cap : Int) - (i : Int)).toNat) = cap - i := by omega
          rw [e1, e2]
          have e3 : ((cap : Int) == (i : Int)) = Nat.beq cap i := by
            by_cases hci : cap = i
            · subst hci; simp
            · have : Nat.beq cap i = false := by cases hb2 : Nat.beq cap i with | false => rfl | true => exact (hci (Nat.eq_of_beq_eq_true hb2)).elim
              rw [this, beq_eq_false_iff_ne]; omega
          rw [e3]
          generalize Nat.beq cap i = q at e ⊢
          cases q <;> simpa using e
        · exact needQ_sound e
      · exact e.elim
    · exact e.elim
  · rename_i ht
    rw [ht]
    split at e
    · rename_i s a ha
      simp only [ha]
      obtain ⟨_, rfl, ⟨e⟩⟩ := e
      split at e
      · rename_i b hb
        simp only [hb]
        obtain ⟨i, j, y, rfl, rfl, l1, l2, rfl, ⟨e⟩⟩ := e
        exact ⟨⟨by omega, by omega, by omega⟩, by simpa using e⟩
      · exact e.elim
    · exact e.elim
  · rename_i ht
    rw [ht]
    split at e
    · rename_i ho
      simp only [ho]
      exact needQ_sound e
    · exact e.elim
  · exact e.elim

theorem lookS_sound {h : Heap} {t : TypeId} {x i : V} {ok : Bool} {k : V → Prop} (e : lookS P h t x i ok k) : (lookupQ P h t x i ok).need k := by
  unfold lookS at e
  unfold lookupQ
  split at e
  · rename_i kt et ht
    rw [ht]
    split at e
    · rename_i hk
      obtain ⟨es, r, h1, h2, ⟨e⟩⟩ := e
      simp only [hk, h1, h2]
      split at e
      · obtain ⟨a, b, c⟩ := plainS_sound e
        rename_i v
        have : v.deLp = v := by cases v <;> first | rfl | cases a
        cases ok
        · exact ⟨a, b⟩
        · simp only [this]; exact ⟨a, c⟩
      · split at e
        · rename_i z hz
          simp only [hz]
          have e := (fV_iff _ _).1 e
          obtain ⟨a, b, c⟩ := plainS_sound e
          have : z.deLp = z := by cases z <;> first | rfl | cases a
          cases ok
          · exact ⟨a, b⟩
          · simp only [this]; exact ⟨a, c⟩
        · exact e.elim
    · exact e.elim
  · exact e.elim

theorem extS_sound {x : V} {i : Nat} {k : V → Prop} (e : extS x i k) : (extractQ x i).need k := by
  unfold extS at e
  unfold extractQ
  split at e
  · split at e
    · rename_i v hv
      simp only [hv]
      obtain ⟨a, b, c⟩ := plainS_sound e
      exact ⟨a, b⟩
    · exact e.elim
  · exact e.elim

theorem fldAddrS_sound {t : TypeId} {x : V} {f : Nat} {k : V → Prop} (e : fldAddrS P t x f k) : (fieldAddrQ P t x f).need k := by
  unfold fldAddrS at e
  unfold fieldAddrQ
  split at e
  · rename_i o ft hf
    rw [hf]
    split at e
    · rename_i h1 h2
      simp only [h1, h2]
      have e := fN_iff.1 e
      split at e
      · exact e
      · exact e
      · exact e
      · exact e.elim
    · exact e.elim
  · exact e.elim

theorem fieldS_sound {m : Nat} {t : TypeId} {x : V} {f : Nat} {k : V → Prop} (e : fieldS P m t x f k) : (fieldQ P m t x f).need k := by
  unfold fieldS at e
  unfold fieldQ
  split at e
  · rename_i o ft hf
    rw [hf]
    split at e
    · exact rdS_sound e
    · exact e.elim
  · exact e.elim

theorem qopS_sound {m : Nat} {fr : Fr} {h : Heap} {ρ : Operand → V} {o : Op} {k : V → Prop} (e : qopS P m fr h ρ o k) : (qop P m fr h ρ o).need k := by
  unfold qopS at e
  split at e
  · exact (fV_iff _ _).1 e
  · exact (fV_iff _ _).1 e
  · exact fldAddrS_sound e
  · exact loadS_sound e
  · exact binS_sound e
  · exact numQ_sound e
  · exact bsQ_sound e
  · exact convS_sound e
  · exact lookS_sound e
  · exact idxAddrS_sound e
  · exact fieldS_sound e
  · exact idxS_sound e
  · exact extS_sound e
  · exact sliceS_sound e
  · rename_i c
    split at e
    · rename_i hc
      split at e
      · rename_i h1 h2
        simp only [qop, hc, h1, h2]
        exact lenS_sound e
      · exact e.elim
    · exact needQ_sound e
  · exact needQ_sound e

theorem pickS_sound {c a b : V} {k : V → Prop} (ok : (pickOk a && pickOk b) = true) (e : pickS c a b k) : (pickQ c a b).need k := by
  have bo : ∀ v, pickOk v = true → ∃ g x, boolOf v = some (g, x) := by
    intro v hv
    cases v with
    | opt g v =>
      cases g with
      | false => cases v <;> exact ⟨_, _, rfl⟩
      | true => cases v <;> first | exact ⟨_, _, rfl⟩ | cases hv
    | bool x => exact ⟨_, _, rfl⟩
    | undef => exact ⟨_, _, rfl⟩
    | _ => cases hv
  rw [Bool.and_eq_true] at ok
  obtain ⟨ga, xa, ha⟩ := bo a ok.1
  obtain ⟨gb, xb, hb⟩ := bo b ok.2
  unfold pickS at e
  split at e
  · rename_i t
    simp only [pickQ, ha, hb]
    cases t with
    | true =>
      simp only at e
      cases a with
      | bool x => cases ha; exact ⟨by cases gb <;> simp [validIf], e⟩
      | opt g v =>
        cases g with
        | false => exact e.elim
        | true => cases v <;> first | (cases ha; exact ⟨by cases gb <;> simp [validIf], e⟩) | exact e.elim
      | _ => exact e.elim
    | false =>
      simp only at e
      cases b with
      | bool x => cases hb; exact ⟨by cases ga <;> simp [validIf], e⟩
      | opt g v =>
        cases g with
        | false => exact e.elim
        | true => cases v <;> first | (cases hb; exact ⟨by cases ga <;> simp [validIf], e⟩) | exact e.elim
      | _ => exact e.elim
  · exact e.elim

theorem quietS_sound {esc : List Nat} {fr : Fr} {h : Heap} {o : Oper} {k : V → Prop} (e : quietS P esc fr h o k) : (quietQ P esc fr h o).need k := by
  unfold quietS at e
  unfold quietQ
  split at e
  · rename_i hq
    rw [hq]
    split at e
    · rename_i ok; exact pickS_sound ok e
    · exact e.elim
  · rename_i hq
    rw [hq]
    exact needQ_sound e
  · rename_i h1 h2
    split
    · rename_i c a b hq; exact (h1 _ _ _ hq).elim
    · rename_i hq; exact (h2 hq).elim
    · exact qopS_sound e

theorem optNeed_of {g : Option Bool} {v : V} {R : Prop} (r : R) (hb : ∀ b w, v = .opt b w → g = some false ∨ b = true) : optNeed g v R := by
  cases v with
  | opt b w =>
    refine ⟨?_, r⟩
    rcases hb b w rfl with rfl | rfl
    · simp
    · cases g <;> simp
  | _ => exact r
theorem optNeed_mono {g : Option Bool} {v : V} {R R' : Prop} (f : R → R') (e : optNeed g v R) : optNeed g v R' := by
  cases v with
  | opt b w => exact ⟨e.1, f e.2⟩
  | _ => exact f e
theorem optNeeds_mono {g : Option Bool} {R R' : Prop} (f : R → R') : ∀ {vs : List V}, optNeeds g vs R → optNeeds g vs R'
  | [], e => f e
  | _ :: _, e => optNeed_mono (fun e => optNeeds_mono f e) e
theorem optNeeds_false {R : Prop} (r : R) : ∀ (vs : List V), optNeeds (some false) vs R
  | [] => r
  | _ :: vs => optNeed_of (optNeeds_false r vs) fun _ _ _ => .inl rfl

theorem needS_sound {g : Option Bool} : ∀ {vs : List V} {R : Prop}, needS g vs R → optNeeds g vs R
  | [], _, e => e
  | v :: r, R, e => by
    unfold needS at e
    split at e
    · split at e
      · exact optNeed_of (needS_sound e) fun _ _ _ => .inl rfl
      · exact optNeed_of (needS_sound e) fun b w h => by injection h with h _; exact .inr h.symm
      · exact e.elim
    · rename_i hv
      exact optNeed_of (needS_sound e) fun b w h => (hv b w h).elim

theorem quietW_of {esc : List Nat} {fr : Fr} {h : Heap} {o : Oper} {k0 k : V → Prop} (e : needS none (quietOps o fr) (quietS P esc fr h o k0)) (m : ∀ v, k0 v → k v) : quietW P esc none fr h o k := by
  refine optNeeds_mono (fun q => ?_) (needS_sound e)
  have q := need_mono (quietS_sound q) m
  cases hq : quietQ P esc fr h o with
  | ok v => rw [hq] at q; exact q
  | chk c v => rw [hq] at q; exact q
  | bad => rw [hq] at q; exact q
theorem quietW_of_true {esc : List Nat} {fr : Fr} {h : Heap} {o : Oper} {k0 k : V → Prop} (e : needS (some true) (quietOps o fr) (quietS P esc fr h o k0)) (m : ∀ v, k0 v → k (.opt true v)) : quietW P esc (some true) fr h o k := by
  refine optNeeds_mono (fun q => ?_) (needS_sound e)
  have q := need_mono (quietS_sound q) m
  cases hq : quietQ P esc fr h o with
  | ok v => rw [hq] at q; exact q
  | chk c v => rw [hq] at q; exact ⟨fun _ => q.1, q.2⟩
  | bad => rw [hq] at q; exact q.elim
theorem quietW_of_false {esc : List Nat} {fr : Fr} {h : Heap} {o : Oper} {k : V → Prop} (e : ∀ v, k (.opt false v)) : quietW P esc (some false) fr h o k := by
  refine optNeeds_false ?_ _
  cases hq : quietQ P esc fr h o with
  | ok v => exact e v
  | chk c v => exact ⟨by simp, e v⟩
  | bad => exact ⟨rfl, e _⟩

theorem putS_iff {fr : Fr} {d : Option Tmp} {v : V} {k : Fr → Prop} : putS fr d v k ↔ k (fr.put d v) := by
  obtain ⟨tm, lc⟩ := fr
  cases d with
  | none => exact Iff.rfl
  | some d => exact setS_iff

theorem splitS_sound {u : Bool} {v : V} {k : V → Prop} (e : splitS u v k) : k v := by
  unfold splitS at e
  split at e
  · split at e
    · rename_i b; cases b
      · exact (e.out.2 rfl).out
      · exact (e.out.1 rfl).out
    · exact e
  · exact e

theorem guardS_sound {ops : List Oper} {fr : Fr} {o : Oper} {g : Option Bool} (e : guardS ops fr o = some g) : guardOf ops fr o = some g := by
  unfold guardS at e
  unfold guardOf
  split at e
  · rename_i hg; rw [hg]; exact e
  · rename_i j want hg
    rw [hg]
    split at e
    · rename_i p hp
      simp only [hp]
      split at e
      · rename_i d hd
        simp only [hd]
        split at e
        · rename_i t ht
          simp only [ht]
          rw [← e]
          cases want <;> cases t <;> rfl
        · rename_i b v hv
          simp only [hv]
          split at e
          · rw [← e]
            cases v <;> rfl
          · split at e
            · rename_i t
              rw [← e]
              cases want <;> cases t <;> rfl
            · cases e
        · cases e
      · cases e
    · cases e
end Js
end

section
/- What the transformer of Sa asks for is enough (second part): effects, regions, statements. -/
namespace Js
open Go Jb
variable {P : Program}

theorem shape1S_sound {mt : Nat} {t : TypeId} {r : V} {k : V → Prop} (e : shape1S P mt t r k) : shape1 P mt t r k := by
  unfold shape1S at e
  split at e
  · rename_i ht
    unfold shape1
    simp only [ht]
    split at e
    · exact e
    · exact e
    · exact e.elim
  · rename_i ht
    split at e
    · split at e
      · rename_i hb
        unfold shape1
        simp only [ht]
        split
        · rename_i q; cases q
        · rename_i q; cases q
        · rename_i q; cases q
        · exact ⟨by simpa [V.plain] using hb, e⟩
        · simp only [shV, ht]
          exact ⟨⟨trivial, hb⟩, e⟩
      · exact e.elim
    · exact e.elim
  · rename_i ht
    split at e
    · split at e
      · rename_i hb
        unfold shape1
        simp only [ht]
        split
        · rename_i q; cases q
        · rename_i q; cases q
        · rename_i q; cases q
        · exact ⟨rfl, e⟩
        · simp only [shV, ht]
          exact ⟨⟨trivial, hb⟩, e⟩
      · exact e.elim
    · exact e.elim
  · rename_i d hp _ _ ht
    split at e
    · have e0 := shS_sound (c := True) trivial e
      unfold shape1
      rw [ht]
      cases d with
      | pointer x => exact (hp x rfl).elim
      | slice et => simp only [shV, ht] at e0; exact ⟨e0.1.2, e0.2⟩
      | bool =>
        unfold shS at e
        simp only [ht] at e
        split at e
        · exact ⟨rfl, e⟩
        · exact e.elim
      | string =>
        unfold shS at e
        simp only [ht] at e
        split at e
        · exact ⟨rfl, e⟩
        · exact e.elim
      | int kd =>
        unfold shS at e
        simp only [ht] at e
        split at e
        · split at e
          · rename_i hk
            have := kindEq_eq hk
            subst this
            exact ⟨rfl, fK_iff.1 e⟩
          · exact e.elim
        · exact e.elim
      | struct fs => unfold shS at e; simp only [ht] at e
      | array n x => unfold shS at e; simp only [ht] at e
      | _ =>
        unfold shS at e
        simp only [ht] at e
        have q := plainS_sound e
        exact ⟨q.1, q.2.1⟩
    · rename_i hm
      have e0 := shS_sound (c := True) trivial e
      unfold shape1
      rw [ht]
      have key : (∀ et, d ≠ .slice et) → (shV P mt t True r).need k → (shV P 0 t True r).need k := by
        intro hd e
        unfold shV at e ⊢
        rw [ht] at e ⊢
        cases d <;> first | exact e | exact (hd _ rfl).elim
      cases d with
      | pointer x => exact (hp x rfl).elim
      | slice et =>
        match mt, hm, e, e0 with
        | 0, _, _, e0 => exact e0
        | 1, _, _, e0 => simp only [shV, ht] at e0; exact ⟨e0.1.2, e0.2⟩
        | 2, hm, _, _ => exact (hm rfl).elim
        | n + 3, _, e, _ =>
          unfold shS at e
          simp only [ht] at e
      | _ =>
        match mt, hm, e0, key with
        | 0, _, e0, _ => exact e0
        | 1, _, e0, key => exact key (by intro _ h; cases h) e0
        | 2, hm, _, _ => exact (hm rfl).elim
        | n + 3, _, e0, key => exact key (by intro _ h; cases h) e0
  · exact e.elim

theorem shapesS_sound {mt : Nat} : ∀ {ts : List TypeId} {vs ws : List V} {i : Nat} {k : List V → Prop}, (ws = vs.drop i) → shapesS P mt ts ws k → shapes P mt ts i vs k
  | [], vs, [], i, k, _, e => e
  | [], vs, _ :: _, i, k, _, e => e.elim
  | _ :: _, vs, [], i, k, _, e => e.elim
  | t :: ts, vs, w :: ws, i, k, hw, e => by
    simp only [shapesS] at e
    have hg : vs.getD i .undef = w := by
      have : vs[i]? = some w := by
        have := congrArg (fun l => l[0]?) hw
        simp at this
        exact this.symm
      simp [List.getD, this]
    have hd : ws = vs.drop (i + 1) := by
      have := congrArg List.tail hw
      simpa using this
    simp only [shapes]
    rw [hg]
    exact shape1_mono (shape1S_sound e) fun v e => shapesS_sound hd e

theorem shapeS_sound {mt : Nat} {t : TypeId} {r : V} {k : V → Prop} (e : shapeS P mt t r k) : shapeW P mt t r k := by
  unfold shapeS at e
  unfold shapeW
  split at e
  · rename_i ts ht
    simp only [ht]
    split at e
    · split at e
      · rename_i hb
        exact ⟨hb, shapesS_sound (by simp [V.vs]) e⟩
      · exact e.elim
    · exact e.elim
  · rename_i ht
    split
    · rename_i ts q; exact (ht _ q).elim
    · exact shape1S_sound e

theorem cellsS_sound {n : Nat} {v : V} {k : List V → Prop} (e : cellsS n v k) : ∃ cs c, cellsQ n v = some (cs, c) ∧ c ∧ k cs := by
  unfold cellsS at e
  unfold cellsQ
  split at e
  · split at e
    · rename_i hb
      exact ⟨_, _, rfl, Nat.eq_of_beq_eq_true hb, e⟩
    · exact e.elim
  · split at e
    · rename_i h1 _ _ h2
      split
      · rename_i cs; exact (h1 cs rfl).elim
      · simp only [h2]; exact ⟨_, _, rfl, trivial, e⟩
    · exact e.elim

theorem lcS_iff {d : Nat} {cs : List V} : ∀ {l : List (Nat × List V)} {k : List (Nat × List V) → Prop}, lcS d cs l k ↔ k (lcSet d cs l)
  | [], k => Iff.rfl
  | (e, x) :: r, k => by
    simp only [lcS, lcSet]
    cases Nat.beq e d
    · cases Nat.ble e d
      · exact Iff.rfl
      · exact lcS_iff
    · exact Iff.rfl

theorem storeS_sound {t : TypeId} {a v : V} {fr : Fr} {h : Heap} {k : Fr → Heap → Prop} (e : storeS P t a v fr h k) : storeW P t a v fr h k := by
  unfold storeS at e
  unfold storeW
  split at e
  · rename_i s h1 h2
    simp only [h1, h2]
    obtain ⟨cs, c, hq, hc, e⟩ := cellsS_sound ((fV_iff _ _).1 e)
    have hlen : cs.length = s + 1 := by
      unfold cellsQ at hq
      split at hq
      · cases hq; exact hc
      · split at hq
        · rename_i q; cases hq; simpa using q.symm
        · cases hq
    simp only [hq]
    split at e
    · obtain ⟨cs', hl, ⟨e⟩⟩ := e
      obtain ⟨h3, h', rfl, ⟨e⟩⟩ := wrS_sound e
      simp only [cellsAt_of hl]
      exact ⟨hc, by rw [← hlen]; exact h3, e⟩
    · obtain ⟨tm, lc⟩ := fr
      obtain ⟨h3, e⟩ := wrS_sound ((varS_iff (tm := tm)).1 e)
      exact ⟨hc, by rw [← hlen]; exact h3, lcS_iff.1 e⟩
    · exact e.elim
  · exact e.elim

theorem appS_sound {t t2 : TypeId} {x y : V} {h : Heap} {k : V → Heap → Prop} (e : appS P t t2 x y h k) : appendW P t t2 x y h k := by
  unfold appS at e
  unfold appendW
  split at e
  · rename_i et ht
    simp only [ht]
    split at e
    · rename_i i hi
      simp only [hi]
      split at e
      · rename_i es l g m h1 h2 h3
        rw [Bool.and_eq_true] at h1
        obtain ⟨z, hz⟩ := Option.isSome_iff_exists.1 h2
        have a1 : decide (0 < i.size) = true := by have := Nat.le_of_ble_eq_true h1.1; exact decide_eq_true (by omega)
        have a2 : decide (i.bytes ≤ 4096) = true := by simpa using Nat.le_of_ble_eq_true h1.2
        simp only [a1, a2, hz, h3, Bool.and_self]
        split at e
        · rename_i hb
          simp only [hb]
          obtain ⟨n, rfl, ⟨n', rfl, ⟨l', rfl, ⟨h5, ⟨e⟩⟩⟩⟩⟩ := e
          exact ⟨h5, appG_mono e fun _ _ k => k.out⟩
        · exact e.elim
      · exact e.elim
    · exact e.elim
  · exact e.elim

theorem mapUpS_sound {t : TypeId} {x key v : V} {h : Heap} {k : Heap → Prop} (e : mapUpS P t x key v h k) : mapUpdateW P t x key v h k := by
  unfold mapUpS at e
  split at e
  · rename_i h1 
    split at e
    · rename_i h2 h3
      obtain ⟨es, es', h4, h5, e⟩ := e.out
      simp only [mapUpdateW, h1, h2, h3, h4, h5]
      exact e.out
    · exact e.elim
  · exact e.elim
theorem effS_sound {mt : Nat} {o : Op} {ty : TypeId} {ρ : Operand → V} {fr : Fr} {h : Heap} {k : V → Fr → Heap → Prop} (e : effS P mt o ty ρ fr h k) : effW P mt o ty ρ fr h k := by
  unfold effS at e
  split at e
  · split at e
    · rename_i cs hz
      simp only [effW, hz]
      have e := (fVs_iff _ _).1 e
      exact fun l hl => (e.out l hl).out
    · exact e.elim
  · rename_i t x
    split at e
    · rename_i ho
      obtain ⟨cs, c, hq, hc, e⟩ := cellsS_sound ((fV_iff _ _).1 e)
      simp only [effW, ho, hq]
      exact ⟨hc, fun l hl => (e.out l hl).out⟩
    · exact e.elim
  · simp only [effW]
    exact storeS_sound e
  · simp only [effW]
    exact mapUpS_sound e
  · rename_i c
    split at e
    · rename_i f hc
      split at e
      · rename_i j first caps hf
        split at e
        · rename_i ha
          simp only [effW, hc, hf, ha]
          have e := (fVs_iff _ _).1 e
          exact AnyW.mono e.out fun r h' k => shapeS_sound k.out
        · exact e.elim
      · rename_i l hf
        split at e
        · rename_i ha
          simp only [effW, hc, hf, ha]
          have e := (fVs_iff _ _).1 e
          exact YieldW.mono e.out fun r h' k => shapeS_sound k.out
        · exact e.elim
      · exact e.elim
    · rename_i hc
      split at e
      · rename_i t t2 _ x y h1 h2
        simp only [effW, hc, h1, h2]
        exact appS_sound e
      · exact effW_mono e.out fun _ _ _ _ k => k.out
    · exact effW_mono e.out fun _ _ _ _ k => k.out
  · exact effW_mono e fun _ _ _ _ k => k.out
end Js
end

section
/- What the transformer of Sa asks for is enough (third part): operations, regions, statements, functions. -/
namespace Js
open Go Jb
variable {P : Program} {esc : List Nat} {ops : List Oper}

theorem opS_sound {o : Oper} {fr : Fr} {h : Heap} {K : Fr → Heap → Prop} (e : opS P esc ops o fr h K) : opW P esc ops o fr h K := by
  unfold opS at e
  unfold opW
  split at e
  · exact e.elim
  · rename_i hg
    rw [guardS_sound hg]
    simp only
    split at e
    · rename_i hs
      simp only [hs]
      exact quietW_of e fun v q => putS_iff.1 (splitS_sound q)
    · rename_i hs
      simp only [hs]
      split at e
      · rename_i d cs c hd hv
        simp only [hd, hv]
        refine optNeeds_mono (fun q => ?_) (needS_sound e)
        refine ⟨q.1, ?_⟩
        have q := (fVs_iff _ _).1 q.2.out
        obtain ⟨tm, lc⟩ := fr
        exact lcS_iff.1 (setS_iff.1 q)
      · exact e.elim
    · rename_i h0 h1
      split
      · rename_i q; exact (h0 q).elim
      · rename_i q; exact (h1 q).elim
      · refine optNeeds_mono (fun q => ?_) (needS_sound e)
        exact effW_mono (effS_sound q) fun v f h' _ q => putS_iff.1 (splitS_sound q)
  · rename_i hg
    rw [guardS_sound hg]
    simp only
    split at e
    · rename_i hs
      simp only [hs]
      exact quietW_of_true e fun v q => putS_iff.1 (splitS_sound q)
    · exact e.elim
    · rename_i h0 h1
      split
      · rename_i q; exact (h0 q).elim
      · rename_i q; exact (h1 q).elim
      · refine optNeeds_mono (fun q => ?_) (needS_sound e)
        exact effW_mono (effS_sound q) fun v f h' _ q => putS_iff.1 (splitS_sound q)
  · rename_i hg
    rw [guardS_sound hg]
    simp only
    split at e
    · rename_i hs
      simp only [hs]
      exact quietW_of_false fun v => putS_iff.1 (e v).out
    · exact e.elim
    · rename_i h0 h1
      split
      · rename_i q; exact (h0 q).elim
      · rename_i q; exact (h1 q).elim
      · exact putS_iff.1 ((fV_iff _ _).1 e)

theorem opsS_sound {K : Fr → Heap → Prop} : ∀ {l : List Oper} {fr : Fr} {h : Heap}, opsS P esc ops l fr h K → opsW P esc ops l fr h K
  | [], _, _, e => e
  | _ :: _, _, _, e => opW_mono' (opS_sound e) fun _ _ e => opsS_sound e

theorem again1_sound {fr : Fr} {h : Heap} {j : Nat} (e : again1 P esc ops fr h j) : AgainOk P esc ops fr h j := by
  unfold again1 at e
  unfold AgainOk
  split at e
  · exact e.elim
  · rename_i o ho
    simp only [ho]
    split at e
    · rename_i d hg hd
      simp only [guardS_sound hg, hd]
      have q := quietS_sound e
      cases hq : quietQ P esc fr h o with
      | ok v => rw [hq] at q; exact ((fV_iff _ _).1 q).out
      | chk c v => rw [hq] at q; exact ⟨q.1, ((fV_iff _ _).1 q.2).out⟩
      | bad => rw [hq] at q; exact q.elim
    · rename_i d hg hd
      simp only [guardS_sound hg, hd]
      have q := quietS_sound e
      cases hq : quietQ P esc fr h o with
      | ok v => rw [hq] at q; exact ((fV_iff _ _).1 q).out
      | chk c v => rw [hq] at q; exact ⟨fun _ => q.1, ((fV_iff _ _).1 q.2).out⟩
      | bad => rw [hq] at q; exact q.elim
    · exact e.elim

theorem againS_sound {fr : Fr} {h : Heap} {R R' : Prop} (m : R → R') : ∀ {l : List Nat}, againS P esc ops fr h l R → agains P esc ops fr h l R'
  | [], e => m e
  | _ :: _, e => ⟨again1_sound e.1.out, againS_sound m e.2.out⟩

theorem againGS_sound {g : Option Bool} {fr : Fr} {h : Heap} {rc : List Nat} {R R' : Prop} (m : R → R') (e : againGS P esc ops (some g) fr h rc R) : againsG P esc ops (some g) fr h rc R' := by
  cases rc with
  | nil => exact m e
  | cons j r =>
    cases g with
    | none => exact againS_sound (fun q => m q.out) e
    | some b => cases b with
      | false => exact m e
      | true => exact againS_sound (fun q => m q.out) e

theorem runS_sound {K : Fr → Heap → Prop} : ∀ {l : List (Nat × List Nat)} {fr : Fr} {h : Heap}, runS P esc ops l fr h K → runD P esc ops l fr h K
  | [], _, _, e => e
  | (i, rc) :: r, fr, h, e => by
    unfold runS at e
    unfold runD
    split at e
    · exact e.elim
    · rename_i o ho
      simp only [ho]
      cases hg : guardS ops fr o with
      | none => unfold opS at e; rw [hg] at e; exact e.elim
      | some g =>
        rw [guardS_sound hg]
        refine opW_mono' (opS_sound e) fun f h' q => ?_
        rw [hg] at q
        exact againGS_sound (fun q => runS_sound q) q

theorem killAll_lc : ∀ (l : List Nat) (fr : Fr), (killAll l fr).lc = fr.lc
  | [], _ => rfl
  | _ :: r, fr => killAll_lc r _

theorem killS_sound {l : List Nat} {fr : Fr} {k : Fr → Prop} (e : killS l fr k) : k (killAll l fr) := by
  unfold killS at e
  split at e
  · exact e
  · obtain ⟨tm, lc⟩ := fr
    have e := (fVs_iff _ _).1 e
    have := killAll_lc l ⟨tm, lc⟩
    simp only at this
    generalize killAll l ⟨tm, lc⟩ = q at e this ⊢
    obtain ⟨a, b⟩ := q
    simp only at this e
    subst this
    exact e

theorem regS_sound {draw : Bool} {fr : Fr} {h : Heap} {K : Fr → Heap → Prop} (e : regS P esc ops draw fr h K) : regW P esc ops draw fr h K := by
  unfold regS at e
  unfold regW
  split at e
  · split at e
    · rename_i hn
      simp only [hn]
      exact opsS_sound (killS_sound e)
    · exact e.elim
  · obtain ⟨p, hz, hp, ⟨e⟩⟩ := e
    simp only [hz, hp]
    exact runS_sound (killS_sound e)

theorem dropL_nil : ∀ (lc : List (Nat × List V)), dropL [] lc = lc
  | [] => rfl
  | e :: r => by simp only [dropL, hasN, List.any_nil]; rw [dropL_nil r]
theorem wipe_nil (fr : Fr) : fr.wipe [] = fr := by unfold Fr.wipe; rw [dropL_nil]; rfl

def keepL : List Bool → List V → List V
  | [], l => l
  | _ :: _, [] => []
  | true :: m, v :: r => v :: keepL m r
  | false :: m, _ :: r => .undef :: keepL m r
theorem keepS_iff : ∀ {m : List Bool} {l : List V} {k : List V → Prop}, keepS m l k ↔ k (keepL m l)
  | [], _, _ => Iff.rfl
  | true :: _, [], _ => Iff.rfl
  | false :: _, [], _ => Iff.rfl
  | true :: m, v :: r, k => keepS_iff (m := m)
  | false :: m, v :: r, k => keepS_iff (m := m)
theorem wipeT_append (l m : List Nat) (tm : List V) : wipeT (l ++ m) tm = wipeT m (wipeT l tm) := by
  induction l generalizing tm with
  | nil => rfl
  | cons a l ih => exact ih _
theorem mutT_append (l m : List Nat) (tm : List V) : mutT (l ++ m) tm = mutT m (mutT l tm) := by
  induction l generalizing tm with
  | nil => rfl
  | cons a l ih =>
    simp only [List.cons_append, mutT]
    split
    · exact ih _
    · exact ih _
theorem wipeT_offs : ∀ (m : List Bool) (i : Nat) (tm : List V), wipeT (offs m i) tm = tm.take i ++ keepL m (tm.drop i)
  | [], i, tm => by simp [offs, wipeT, keepL]
  | true :: m, i, tm => by
    simp only [offs]
    rw [wipeT_offs m (i + 1) tm]
    by_cases h : i < tm.length
    · rw [List.drop_eq_getElem_cons h, keepL, show tm.take (i + 1) = tm.take i ++ [tm[i]] from by rw [List.take_add_one, List.getElem?_eq_getElem h]; rfl, List.append_assoc]; rfl
    · rw [List.drop_eq_nil_of_le (by omega), List.drop_eq_nil_of_le (by omega), List.take_of_length_le (by omega), List.take_of_length_le (by omega)]
      cases m <;> rfl
  | false :: m, i, tm => by
    simp only [offs, wipeT]
    rw [wipeT_offs m (i + 1)]
    by_cases h : i < tm.length
    · rw [List.drop_eq_getElem_cons h, keepL, List.take_add_one]
      have e1 : (tm.set i V.undef)[i]? = some V.undef := by simp [h]
      have e2 : (tm.set i V.undef).take i = tm.take i := by rw [List.take_set_of_le (Nat.le_refl _)]
      have e3 : (tm.set i V.undef).drop (i + 1) = tm.drop (i + 1) := by rw [List.drop_set_of_lt (by omega)]
      rw [e1, e2, e3]; simp
    · rw [List.set_eq_of_length_le (by omega), List.drop_eq_nil_of_le (by omega), List.drop_eq_nil_of_le (by omega), List.take_of_length_le (by omega), List.take_of_length_le (by omega)]
      cases m <;> rfl
theorem mem_offs : ∀ (m : List Bool) (i t : Nat), t ∈ offs m i ↔ ∃ j, t = i + j ∧ m[j]? = some false
  | [], i, t => by simp [offs]
  | true :: m, i, t => by
    simp only [offs]
    rw [mem_offs m (i + 1) t]
    constructor
    · rintro ⟨j, rfl, h⟩; exact ⟨j + 1, by omega, by simpa using h⟩
    · rintro ⟨j, rfl, h⟩
      cases j with
      | zero => simp at h
      | succ j => exact ⟨j, by omega, by simpa using h⟩
  | false :: m, i, t => by
    simp only [offs, List.mem_cons]
    rw [mem_offs m (i + 1) t]
    constructor
    · rintro (rfl | ⟨j, rfl, h⟩)
      · exact ⟨0, rfl, rfl⟩
      · exact ⟨j + 1, by omega, by simpa using h⟩
    · rintro ⟨j, rfl, h⟩
      cases j with
      | zero => exact .inl rfl
      | succ j => exact .inr ⟨j, by omega, by simpa using h⟩
theorem mutT_small {tm : List V} : ∀ {l : List Nat}, (∀ t ∈ l, t < 1000000) → mutT l tm = tm
  | [], _ => rfl
  | t :: r, h => by
    have : Nat.ble 1000000 t = false := by
      cases hb : Nat.ble 1000000 t with
      | false => rfl
      | true => have := Nat.le_of_ble_eq_true hb; have := h t (by simp); omega
    simp only [mutT, this]
    exact mutT_small fun t ht => h t (by simp [ht])
theorem wipeT_big {tm : List V} (hl : tm.length ≤ 1000000) : ∀ {l : List Nat}, wipeT (l.map (1000000 + ·)) tm = tm
  | [] => rfl
  | t :: r => by
    simp only [List.map_cons, wipeT]
    rw [List.set_eq_of_length_le (by omega)]
    exact wipeT_big hl
theorem mutS_iff : ∀ {l : List Nat} {tm : List V} {k : List V → Prop}, mutS l tm k ↔ k (mutT (l.map (1000000 + ·)) tm)
  | [], _, _ => Iff.rfl
  | t :: r, tm, k => by
    have : Nat.ble 1000000 (1000000 + t) = true := Nat.ble_eq_true_of_le (by omega)
    simp only [mutS, List.map_cons, mutT, this, Nat.add_sub_cancel_left]
    rw [fV_iff, setS_iff]
    exact mutS_iff
theorem dropS_iff {m : List Bool} {mu : List Nat} (hm : m.length ≤ 1000000) : ∀ {lc : List (Nat × List V)} {k : List (Nat × List V) → Prop}, (∀ e ∈ lc, e.1 < 1000000) → (dropS m lc k ↔ k (dropL (offs m 0 ++ mu.map (1000000 + ·)) lc))
  | [], _, _ => Iff.rfl
  | (e, x) :: r, k, hlc => by
    have ih := fun k => dropS_iff (mu := mu) hm (lc := r) (k := k) fun e he => hlc e (by simp [he])
    have he := hlc (e, x) (by simp)
    simp only at he
    have hh : hasN (offs m 0 ++ mu.map (1000000 + ·)) e = true ↔ m[e]? = some false := by
      simp only [hasN, List.any_eq_true, List.mem_append, List.mem_map]
      constructor
      · rintro ⟨t, ht, hb⟩
        have := Nat.eq_of_beq_eq_true hb
        subst this
        rcases ht with ht | ⟨u, _, rfl⟩
        · obtain ⟨j, rfl, h⟩ := (mem_offs m 0 _).1 ht; simpa using h
        · omega
      · intro h
        exact ⟨e, .inl ((mem_offs m 0 e).2 ⟨e, by omega, h⟩), by simp⟩
    simp only [dropS, dropL]
    split
    · rename_i q; rw [hh.2 q]; exact ih k
    · rename_i q
      have : hasN (offs m 0 ++ mu.map (1000000 + ·)) e = false := by
        cases hb : hasN (offs m 0 ++ mu.map (1000000 + ·)) e with
        | false => rfl
        | true => exact (q (hh.1 hb)).elim
      rw [this]
      exact ih _
theorem wipes3_at (id : Nat) : ∀ (w : List (Nat × List Nat × List Nat)), wipesAt id (w.map fun e => (e.1, offs (rl true e.2.1) 0 ++ e.2.2.map (1000000 + ·))) = match wipes3 id w with | some e => offs (rl true e.1) 0 ++ e.2.map (1000000 + ·) | none => []
  | [] => rfl
  | e :: r => by
    simp only [List.map_cons, wipesAt, wipes3]
    cases Nat.beq e.1 id
    · exact wipes3_at id r
    · rfl

theorem wipeS_sound {id : Nat} {w : List (Nat × List Nat × List Nat)} {fr : Fr} {k : Fr → Prop} (e : wipeS (wipes3 id w) fr k) : k (fr.wipe (wipesAt id (w.map fun e => (e.1, offs (rl true e.2.1) 0 ++ e.2.2.map (1000000 + ·))))) := by
  rw [wipes3_at]
  unfold wipeS at e
  split at e
  · rename_i hw
    rw [hw]
    simp only
    rw [wipe_nil]; exact e
  · rename_i m mu hw
    rw [hw]
    obtain ⟨tm, lc⟩ := fr
    simp only at e ⊢
    split at e
    · rename_i hc
      simp only [Bool.and_eq_true] at hc
      obtain ⟨⟨c1, c2⟩, c3⟩ := hc
      have c1 := Nat.le_of_ble_eq_true c1
      have c2 := Nat.le_of_ble_eq_true c2
      have e := mutS_iff.1 (keepS_iff.1 e)
      have e := (dropS_iff (mu := mu) c1 fun x hx => by
        have := List.all_eq_true.1 c3 x hx
        have := Nat.le_of_ble_eq_true this
        omega).1 e
      unfold Fr.wipe
      have h1 : mutT (offs (rl true m) 0 ++ mu.map (1000000 + ·)) (wipeT (offs (rl true m) 0 ++ mu.map (1000000 + ·)) tm) = mutT (mu.map (1000000 + ·)) (keepL (rl true m) tm) := by
        have hs : ∀ t ∈ offs (rl true m) 0, t < 1000000 := by
          intro t ht
          obtain ⟨j, rfl, hj⟩ := (mem_offs _ _ _).1 ht
          have := (List.getElem?_eq_some_iff.1 hj).1
          omega
        have hk : (keepL (rl true m) tm).length ≤ 1000000 := by
          have : ∀ (m : List Bool) (l : List V), (keepL m l).length = l.length := by
            intro m
            induction m with
            | nil => intro l; rfl
            | cons b m ih => intro l; cases l with
              | nil => cases b <;> rfl
              | cons v l => cases b <;> simp [keepL, ih]
          rw [this]; exact c2
        rw [mutT_append, wipeT_append, wipeT_offs]
        simp only [List.take_zero, List.nil_append, List.drop_zero]
        rw [mutT_small hs, wipeT_big hk]
      simp only [h1]
      exact e
    · exact e.elim

theorem LoopI.imp {B B' : Fr → Heap → (Ex → Fr → Heap → Prop) → Prop} {Q : Ex → Fr → Heap → Prop} (m : ∀ {fr h Q}, B fr h Q → B' fr h Q) {fr : Fr} {h : Heap} (e : LoopI B Q fr h) : LoopI B' Q fr h := by
  induction e with
  | mk fr h I hb _ ih => exact .mk fr h I (m hb) ih
theorem ScopeI.imp {c : Code} {B B' : Nat → Fr → Heap → (Ex → Fr → Heap → Prop) → Prop} {Q : Ex → Fr → Heap → Prop} (m : ∀ {l fr h Q}, B l fr h Q → B' l fr h Q) {l : Nat} {fr : Fr} {h : Heap} (e : ScopeI c B Q l fr h) : ScopeI c B' Q l fr h := by
  induction e with
  | mk l fr h I hb _ ih => exact .mk l fr h I (m hb) ih

theorem wpSL_sound {cg : Cg} (c : Code) : (∀ {fr : Fr} {h : Heap} {Q : Ex → Fr → Heap → Prop}, wpS P cg c fr h Q → wpA P cg.cfg c fr h Q) ∧
    (∀ {l : Nat} {fr : Fr} {h : Heap} {Q : Ex → Fr → Heap → Prop}, wpLS P cg c l fr h Q → wpL P cg.cfg c l fr h Q) := by
  induction c with
  | skip => exact ⟨fun k => by unfold wpS at k; unfold wpA; exact k, fun k => by unfold wpLS at k; exact k.elim⟩
  | label l => exact ⟨fun k => by unfold wpS at k; unfold wpA; exact k, fun k => by unfold wpLS at k; unfold wpL; exact k⟩
  | exit id => exact ⟨fun k => by unfold wpS at k; unfold wpA; exact k, fun k => by unfold wpLS at k; exact k.elim⟩
  | goto id => exact ⟨fun k => by unfold wpS at k; unfold wpA; exact k, fun k => by unfold wpLS at k; exact k.elim⟩
  | ret => exact ⟨fun k => by unfold wpS at k; unfold wpA; exact k, fun k => by unfold wpLS at k; exact k.elim⟩
  | region id ops draw => exact ⟨fun k => by unfold wpS at k; unfold wpA; exact regW_mono (fun f h' k => wipeS_sound k) (regS_sound k), fun k => by unfold wpLS at k; exact k.elim⟩
  | seq x y ihx ihy =>
    refine ⟨fun k => by unfold wpS at k; unfold wpA; exact wpA_mono x (seqK_mono (fun _ _ k => ihy.1 k) (fun _ _ _ k => k)) (ihx.1 k), fun k => ?_⟩
    unfold wpLS at k
    unfold wpL
    split
    · rename_i hl; simp only [hl] at k; exact (wpAL_mono x).2 (seqK_mono (fun _ _ k => ihy.1 k) (fun _ _ _ k => k)) (ihx.2 k)
    · rename_i hl; simp only [hl] at k; exact ihy.2 k
  | cond c x y ihx ihy =>
    refine ⟨?_, fun k => by unfold wpLS at k; exact k.elim⟩
    intro fr h Q k
    unfold wpS at k
    unfold wpA
    split at k
    · rename_i b hb
      rw [hb]
      cases b
      · exact ihy.1 (k.out.2 rfl).out
      · exact ihx.1 (k.out.1 rfl).out
    · exact k.elim
  | block id c ih => exact ⟨fun k => by unfold wpS at k; unfold wpA; exact ih.1 k, fun k => by unfold wpLS at k; exact k.elim⟩
  | loop c ih => exact ⟨fun k => by unfold wpS at k; unfold wpA; exact LoopI.imp ih.1 k, fun k => by unfold wpLS at k; exact k.elim⟩
  | scope c ih => exact ⟨fun k => by unfold wpS at k; unfold wpA; exact wpA_mono c (scopeK_mono (fun _ _ _ k => ScopeI.imp ih.2 k) (fun _ _ _ k => k)) (ih.1 k), fun k => by unfold wpLS at k; exact k.elim⟩
  | rangeFunc f ps zs b _ _ => exact ⟨fun k => by unfold wpS at k; unfold wpA; exact k.out, fun k => by unfold wpLS at k; exact k.elim⟩
  | refuse s => exact ⟨fun k => by unfold wpS at k; exact k.elim, fun k => by unfold wpLS at k; exact k.elim⟩
theorem wpS_sound {cg : Cg} {c : Code} {fr : Fr} {h : Heap} {Q : Ex → Fr → Heap → Prop} (e : wpS P cg c fr h Q) : wpA P cg.cfg c fr h Q := (wpSL_sound c).1 e

theorem resS_sound {m : Nat} {fr : Fr} {h : Heap} {r : ResultVar} {k : V → Prop} (e : resS P m fr h r k) : (resultV P m fr h r).need k := by
  cases r with
  | tmp t =>
    simp only [resS, fV_iff] at e
    simp only [resultV]
    generalize fr.tm.getD t V.undef = v at *
    cases v with
    | lp a b => exact e.elim
    | opt b v =>
      cases b with
      | false => exact e.elim
      | true => cases v <;> first | exact e.elim | exact ⟨rfl, e⟩
    | _ => exact e
  | cell a t =>
    simp only [resS] at e
    simp only [resultV]
    generalize fr.tm.getD a V.undef = v at *
    cases v with
    | lp a b => exact loadS_sound e
    | ptr a b => exact loadS_sound e
    | _ => exact e.elim

theorem ressS_sound {m : Nat} {fr : Fr} {h : Heap} : ∀ {rs : List ResultVar} {k : List V → Prop}, ressS P m fr h rs k → resultsW P m fr h rs k
  | [], _, e => e
  | _ :: _, _, e => need_mono (resS_sound e) fun _ e => ressS_sound e

theorem resultsW_mono {m : Nat} {fr : Fr} {h : Heap} : ∀ {rs : List ResultVar} {k k' : List V → Prop}, (∀ vs, k vs → k' vs) → resultsW P m fr h rs k → resultsW P m fr h rs k'
  | [], _, _, m, e => m _ e
  | _ :: _, _, _, m, e => need_mono e fun _ e => resultsW_mono (fun _ e => m _ e) e

theorem endS_sound {m : Nat} {fn : Func} {K : V → Heap → Prop} {e : Ex} {fr : Fr} {h : Heap} (q : endS P m fn K e fr h) : bodyK P m fn K e fr h := by
  have key : ressS P m fr h fn.results.toList (fun vs => (match vs with | [v] => Fin (K v h) | vs => Fin (K (.tup vs) h))) → answerW P m fn fr h (fun r => K r h) := by
    intro q
    refine resultsW_mono (fun vs q => ?_) (ressS_sound q)
    split at q
    · exact q.out
    · rename_i hv
      split
      · exact (hv _ rfl).elim
      · exact q.out
  cases e with
  | normal => exact key q
  | ret => exact key q
  | exit i => exact q.elim
  | goto l => exact q.elim

theorem bodyS_sound {cg : Cg} {fn : Func} {args : List V} {h : Heap} {K : V → Heap → Prop} (e : bodyS P cg fn args h K) : bodyW P cg.cfg fn args h K := by
  unfold bodyS at e
  unfold bodyW
  split at e
  · exact e.elim
  · rename_i c hc
    simp only [hc]
    have e := (fVs_iff _ _).1 e
    exact wpA_mono c (fun _ _ _ q => endS_sound q) (wpS_sound e)

theorem CallW.go {P : Program} (hmix : P.follows .mixedOrders = true) (cg : Cg) {f : FuncId} {fn : Func} (hf : P.funcs[f]? = some fn) {args : List V} (hn : args.length ≤ fn.ntmps) {h : Heap} {K : V → Heap → Prop}
    (hr0 : cg.rnd = false) (e : Nx (bodyS P cg fn args h K)) : CallW P f args h K :=
  CallW.body hmix cg.cfg hf hn (bodyS_sound e.out) hr0
theorem CallS.go {P : Program} (hmix : P.follows .mixedOrders = true) (cg : Cg) {f : FuncId} {fn : Func} (hf : P.funcs[f]? = some fn) (he : enters P f = true) {args : List V} (hn : args.length ≤ fn.ntmps) {h : Heap} {K : V → Heap → Prop}
    (hr0 : cg.rnd = false) (e : Nx (bodyS P cg fn args h K)) : CallS P f args h K :=
  ⟨AnyW.call he (CallW.go hmix cg hf hn hr0 e)⟩
theorem CallS.of {P : Program} {f : FuncId} (he : enters P f = true) {args : List V} {h : Heap} {K0 K : V → Heap → Prop} (c : CallW P f args h K0) (m : ∀ r h', K0 r h' → K r h') : CallS P f args h K := ⟨AnyW.of he c m⟩
end Js
end
