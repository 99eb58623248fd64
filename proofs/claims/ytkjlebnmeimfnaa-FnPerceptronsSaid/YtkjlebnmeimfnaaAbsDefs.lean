import Derived.Orders
import Derived.KernelRfl
namespace Go.Abs

inductive V where
  | int (k : IntKind) (n : Int)
  | bool (b : Bool)
  | str (s : ByteArray)
  | nil
  | arr (sz : Nat) (xs : List (List V))
  | ref (s v : Nat)
  | ptr (s v i off : Nat)
  | ipt (cs : List V) (off : Nat)
  | fn (f : Nat) (cap : List V)
  | void
  | undef
  deriving Inhabited

inductive T where
  | one (v : V)
  | agg (cs : List V)
  | tup (ts : List T)
  deriving Inhabited

/-- size of an element, are its cells trees alone, the elements -/
structure Con where
  ty : TypeId
  sz : Nat
  flat : Bool
  es : List (List V)

structure Ob where
  ver : Nat
  con : Option Con

structure St where
  sl : List T
  ob : List (Nat × Ob)

abbrev T.undef : T := .one .undef

def lk : List (Nat × Ob) → Nat → Ob
  | [], _ => ⟨0, none⟩
  | (t, o) :: r, s => match Nat.beq t s with | true => o | false => lk r s

def up : List (Nat × Ob) → Nat → Ob → List (Nat × Ob)
  | [], s, x => [(s, x)]
  | (t, o) :: r, s, x => match Nat.beq t s with | true => (t, x) :: r | false => (t, o) :: up r s x

def ups (l : List (Nat × Ob)) : List (Nat × Ob) → List (Nat × Ob)
  | [] => l
  | (s, x) :: r => ups (up l s x) r

def St.rd (st : St) (t : Nat) : T := st.sl.getD t .undef

def V.tree : V → Bool
  | .int .. | .bool _ | .str _ | .nil | .arr .. => true
  | _ => false

/-- may be stored into a cell -/
def V.def : V → Bool
  | .undef | .void => false
  | _ => true

def V.scal : V → Bool
  | .int .. | .bool _ | .str _ | .nil => true
  | _ => false

def V.ofVal : Value → Option V
  | .int k n => some (.int k n)
  | .bool b => some (.bool b)
  | .string s => some (.str s)
  | .slice none n m => match Nat.beq n 0 && Nat.beq m 0 with | true => some .nil | false => none
  | .func (.func f) x y => match x.toList, y.toList with | [], [] => some (.fn f []) | _, _ => none
  | _ => none

def ofVals : List Value → Option (List V)
  | [] => some []
  | v :: r => match V.ofVal v, ofVals r with
    | some x, some l => some (x :: l)
    | _, _ => none

def T.ofVal : Value → Option T
  | .agg cs => match ofVals cs.toList with | some l => some (.agg l) | none => none
  | v => match V.ofVal v with | some x => some (.one x) | none => none

def allDef : List V → Bool
  | [] => true
  | v :: r => match v.def with | true => allDef r | false => false

def T.cells : T → Option (List V)
  | .one v => match v.def with | true => some [v] | false => none
  | .agg cs => match allDef cs with | true => some cs | false => none
  | .tup _ => none

/-! types -/
def isAggT (P : Program) (t : TypeId) : Option Bool :=
  match P.underlying t with
  | some (.struct _) | some (.array _ _) => some true
  | some _ => some false
  | none => none

def sizeT (P : Program) (t : TypeId) : Option Nat := (P.info? t).map (·.size)

def zeroT (P : Program) (t : TypeId) : Option T :=
  match P.info? t with
  | some i => match i.zero with | some z => T.ofVal z | none => none
  | none => none

def elemT (P : Program) (t : TypeId) : Option TypeId :=
  match P.underlying t with
  | some (.slice e) => some e
  | _ => none

def fieldT (P : Program) (t : TypeId) (f : Nat) : Option Field :=
  match P.underlying t with
  | some (.struct fs) => fs[f]?
  | _ => none

/-- The value of a type out of cells -/
def mkT (P : Program) (t : TypeId) (cs : List V) : Option T :=
  match isAggT P t, cs with
  | some true, cs => some (.agg cs)
  | some false, [v] => some (.one v)
  | _, _ => none

inductive Ch where
  | std
  | br (b : Bool)
  | el (cs : List V)
  | tree
  | call (frz bor pass : List Nat) (r : T) (oout : List Ob) (adopt : List Nat)
  | frz (ch : Ch) (ss : List Nat)
  | own (l : List (Nat × Nat × TypeId × Nat))
  | re (ch : Ch) (es : List (List V))
  | wk (t : T)

structure Eff where
  dst : T
  wo : List (Nat × Ob)
  obs : List Prop

def rdO (rd : Nat → T) : Operand → Option T
  | .tmp t => some (rd t)
  | .const v => T.ofVal v
  | .func f => some (.one (.fn f []))
  | .global _ => none

def ret (t : T) : Option Eff := some ⟨t, [], []⟩

/-- the part of cells of a type, at an offset -/
def partT (P : Program) (t : TypeId) (cs : List V) (off : Nat) : Option T :=
  match sizeT P t with
  | some n => match Nat.ble (off + n) cs.length with
    | true => mkT P t ((cs.drop off).take n)
    | false => none
  | none => none

/-- an element: as it is told, or as it is found -/
def elemAt (ch : Ch) (es : List (List V)) (i : Nat) : Option (List V × List Prop) :=
  match ch with
  | .el cs => some (cs, [es[i]? = some cs])
  | _ => match es[i]? with | some cs => some (cs, []) | none => none

def binInt (op : BinOp) (k : IntKind) (a b : Int) : Option (V × List Prop) :=
  match op with
  | .add => some (.int k (k.wrap (a + b)), [])
  | .sub => some (.int k (k.wrap (a - b)), [])
  | .mul => some (.int k (k.wrap (a * b)), [])
  | .quo => some (.int k (k.wrap (a.tdiv b)), [b ≠ 0])
  | .rem => some (.int k (a.tmod b), [b ≠ 0])
  | .and => some (.int k (k.wrap ((BitVec.ofInt k.bits a &&& BitVec.ofInt k.bits b).toNat : Int)), [])
  | .or => some (.int k (k.wrap ((BitVec.ofInt k.bits a ||| BitVec.ofInt k.bits b).toNat : Int)), [])
  | .xor => some (.int k (k.wrap ((BitVec.ofInt k.bits a ^^^ BitVec.ofInt k.bits b).toNat : Int)), [])
  | .shl => some (.int k (k.wrap (a * 2 ^ (min b.toNat k.bits))), [0 ≤ b])
  | .shr => some (.int k (a.fdiv (2 ^ (min b.toNat k.bits))), [0 ≤ b])
  | .eql => some (.bool (a == b), [])
  | .neq => some (.bool (a != b), [])
  | .lss => some (.bool (decide (a < b)), [])
  | .leq => some (.bool (decide (a ≤ b)), [])
  | .gtr => some (.bool (decide (a > b)), [])
  | .geq => some (.bool (decide (a ≥ b)), [])
  | _ => none

def binStr (op : BinOp) (a b : ByteArray) : Option (V × List Prop) :=
  match op with
  | .add => some (.str (a ++ b), [a.size + b.size ≤ 9223372036854775807])
  | .eql => some (.bool (a.toList == b.toList), [])
  | .neq => some (.bool !(a.toList == b.toList), [])
  | .lss => some (.bool (Op.bytesLess a.toList b.toList), [])
  | _ => none

def IntKind.same (a b : IntKind) : Bool := decide (a = b)

def binV (u : Option TypeDesc) (op : BinOp) (x y : V) : Option (V × List Prop) :=
  match x, y with
  | .int k a, .int k' b => match op with
    | .shl | .shr => binInt op k a b
    | _ => match decide (k = k') with | true => binInt op k a b | false => none
  | .str a, .str b => binStr op a b
  | .bool a, .bool b => match u, op with
    | some .bool, .eql => some (.bool (a == b), [])
    | some .bool, .neq => some (.bool (a != b), [])
    | _, _ => none
  | _, _ => none

def unV (op : UnOp) (x : V) : Option V :=
  match op, x with
  | .neg, .int k n => some (.int k (k.wrap (0 - n)))
  | .not, .bool b => some (.bool !b)
  | _, _ => none

def setL {α} : List α → Nat → α → List α
  | [], _, _ => []
  | _ :: r, 0, x => x :: r
  | y :: r, n + 1, x => y :: setL r n x

def partsV (rd : Nat → T) : List (Nat × Operand) → Option (List (Nat × List V))
  | [] => some []
  | (i, x) :: r => match (rdO rd x).bind T.cells, partsV rd r with
    | some cs, some l => some ((i, cs) :: l)
    | _, _ => none

/-- 'Instr.fill', over cells of ours -/
def fillV (place : Nat → Option (Nat × Nat)) : List V → List (Nat × List V) → Option (List V)
  | cs, [] => some cs
  | cs, (i, ys) :: r => match place i with
    | none => none
    | some (off, n) => match Nat.beq ys.length n && Nat.ble (off + n) cs.length with
      | true => fillV place (cs.take off ++ ys ++ cs.drop (off + n)) r
      | false => none

def placesOf (P : Program) (t : TypeId) : Option (List (Nat × Nat)) :=
  match P.underlying t with
  | some (.struct fs) => fs.toList.mapM fun f => (P.info? f.type).map fun i => (f.offset, i.size)
  | _ => none

def chunk (n : Nat) : Nat → List V → List (List V)
  | 0, _ => []
  | k + 1, l => l.take n :: chunk n k (l.drop n)

def treeCells : List V → Bool
  | [] => true
  | v :: r => match v.tree with | true => treeCells r | false => false

def allTree : List (List V) → Bool
  | [] => true
  | cs :: r => match treeCells cs with | true => allTree r | false => false

def allLen (n : Nat) : List (List V) → Bool
  | [] => true
  | cs :: r => match Nat.beq cs.length n with | true => allLen n r | false => false

/-- a new object at a site -/
def newOb (ob : Nat → Option Ob) (s : Nat) (c : Con) : Option (Nat × List (Nat × Ob)) :=
  match ob s with
  | some o => some (o.ver + 1, [(s, ⟨o.ver + 1, some c⟩)])
  | none => none

/-- the live object behind a reference -/
def liveOb (ob : Nat → Option Ob) (s v : Nat) : Option Con :=
  match ob s with
  | some ⟨v', some c⟩ => match Nat.beq v' v with | true => some c | false => none
  | _ => none

/-- the elements (of a size) that a slice value holds, when it is read whole -/
def elems (ob : Nat → Option Ob) (n : Nat) : V → Option (List (List V))
  | .nil => some []
  | .arr sz xs => match Nat.beq sz n with | true => some xs | false => none
  | .ref s v => match liveOb ob s v with
    | some ⟨_, sz, true, es⟩ => match Nat.beq sz n with | true => some es | false => none
    | _ => none
  | _ => none

def isSliceD : Option TypeDesc → Bool
  | some (.slice _) => true
  | _ => false

def lenV (u : Option TypeDesc) (ob : Nat → Option Ob) : V → Option Int
  | .str s => match u with | some .string => some (s.size : Int) | _ => none
  | .nil => match isSliceD u with | true => some 0 | false => none
  | .arr _ xs => match isSliceD u with | true => some (xs.length : Int) | false => none
  | .ref s v => match liveOb ob s v, isSliceD u with
    | some c, true => some (c.es.length : Int)
    | _, _ => none
  | _ => none

def effAppend (P : Program) (ob : Nat → Option Ob) (d : Nat) (t t' : TypeId) (s x : V) : Option Eff :=
  match (match Nat.beq t t' with | true => elemT P t | false => none) with
  | none => none
  | some e => match P.info? e, (zeroT P e).bind T.cells with
    | some ei, some z => match (match Nat.beq z.length ei.size && Nat.ble 1 ei.size && Nat.ble 1 ei.bytes with | true => elems ob ei.size x | false => none) with
      | none => none
      | some ys =>
        match s with
        | .nil => match newOb ob d ⟨e, ei.size, true, ys⟩ with
          | some (v, wo) => some ⟨.one (.ref d v), wo, [0 < ys.length, ys.length * ei.bytes ≤ 140737488355328]⟩
          | none => none
        | .ref s v => match liveOb ob s v with
          | some ⟨ty, sz, true, es⟩ => match Nat.beq sz ei.size && Nat.beq ty e with
            | true => some ⟨.one (.ref s (v + 1)), [(s, ⟨v + 1, some ⟨ty, sz, true, es ++ ys⟩⟩)], [(es.length + ys.length) * ei.bytes ≤ 140737488355328]⟩
            | false => none
          | _ => none
        | _ => none
    | _, _ => none

def intsOf (k : IntKind) : List T → Option (List Int)
  | [] => some []
  | .one (.int k' n) :: r => match decide (k = k'), intsOf k r with
    | true, some l => some (n :: l)
    | _, _ => none
  | _ :: _ => none

def maxOf (a : Int) : List Int → Int
  | [] => a
  | b :: r => maxOf (max a b) r

def minOf (a : Int) : List Int → Int
  | [] => a
  | b :: r => minOf (min a b) r

def effBuiltin (P : Program) (ob : Nat → Option Ob) (d : Nat) (b : Builtin) (ts : List TypeId) (args : List T) : Option Eff :=
  match b, ts, args with
  | .len, [t], [.one x] => (lenV (P.underlying t) ob x).bind fun n => ret (.one (.int .i64 n))
  | .append, [t, t'], [.one s, .one x] => effAppend P ob d t t' s x
  | .max, _, .one (.int k a) :: r => (intsOf k r).bind fun l => ret (.one (.int k (maxOf a l)))
  | .min, _, .one (.int k a) :: r => (intsOf k r).bind fun l => ret (.one (.int k (minOf a l)))
  | _, _, _ => none

def rdAll (rd : Nat → T) : List Operand → Option (List T)
  | [] => some []
  | x :: r => match rdO rd x, rdAll rd r with
    | some t, some l => some (t :: l)
    | _, _ => none

def effLoad (P : Program) (ob : Nat → Option Ob) (ch : Ch) (t : TypeId) : T → Option Eff
  | .one (.ptr s v i off) => match liveOb ob s v with
    | some c => match elemAt ch c.es i with
      | some (cs, p) => (partT P t cs off).bind fun r => some ⟨r, [], p⟩
      | none => none
    | none => none
  | .one (.ipt cs off) => (partT P t cs off).bind ret
  | _ => none

def effStore (P : Program) (ob : Nat → Option Ob) (ch : Ch) (t : TypeId) (a x : T) : Option Eff :=
  match a, x.cells, sizeT P t with
  | .one (.ptr s v i off), some ys, some n => match liveOb ob s v with
    | some c => match elemAt ch c.es i with
      | some (cs, p) => match Nat.beq n ys.length && Nat.ble (off + n) cs.length && (match c.flat with | true => treeCells ys | false => true) with
        | true => some ⟨.undef, [(s, ⟨v, some ⟨c.ty, c.sz, c.flat, c.es.set i (cs.take off ++ ys ++ cs.drop (off + n))⟩⟩)], p⟩
        | false => none
      | none => none
    | none => none
  | _, _, _ => none

def effIndexAddr (P : Program) (ob : Nat → Option Ob) (ch : Ch) (t : TypeId) (x i : T) : Option Eff :=
  match x, i, (elemT P t).bind (sizeT P), ch with
  | .one (.arr sz xs), .one (.int _ i), some n, .el cs => match Nat.beq sz n with
    | true => some ⟨.one (.ipt cs 0), [], [0 ≤ i, xs[i.toNat]? = some cs]⟩
    | false => none
  | .one (.ref s v), .one (.int _ i), some n, _ => match liveOb ob s v with
    | some c => match Nat.beq c.sz n with
      | true => some ⟨.one (.ptr s v i.toNat 0), [], [0 ≤ i, i < (c.es.length : Int)]⟩
      | false => none
    | none => none
  | _, _, _, _ => none

def addOff (ob : Nat → Option Ob) (k : Nat) : T → Option Eff
  | .one (.ptr s v i off) => match liveOb ob s v with
    | some _ => ret (.one (.ptr s v i (off + k)))
    | none => none
  | .one (.ipt cs off) => ret (.one (.ipt cs (off + k)))
  | _ => none

/-- a slice expression's bound -/
def boundA (rd : Nat → T) (d : Int) : Option Operand → Option Int
  | none => some d
  | some o => match rdO rd o with | some (.one (.int _ n)) => some n | _ => none

def effSlice (u : Option TypeDesc) (n : Option Nat) (rd : Nat → T) (x : T) (lo hi mx : Option Operand) : Option Eff :=
  match mx with
  | some _ => none
  | none =>
    match x with
    | .one (.str s) => match boundA rd 0 lo, boundA rd (s.size : Int) hi, u with
      | some l, some h, some .string => some ⟨.one (.str (s.extract l.toNat h.toNat)), [], [0 ≤ l, l ≤ h, h ≤ (s.size : Int)]⟩
      | _, _, _ => none
    | .one (.arr sz xs) => match boundA rd 0 lo, boundA rd (xs.length : Int) hi, n with
      | some l, some h, some n => match Nat.beq sz n with
        | true => some ⟨.one (.arr sz ((xs.take h.toNat).drop l.toNat)), [], [0 ≤ l, l ≤ h, h ≤ (xs.length : Int)]⟩
        | false => none
      | _, _, _ => none
    | _ => none

def eff (P : Program) (o : Oper) (rd : Nat → T) (ob : Nat → Option Ob) (ch : Ch) : Option Eff :=
  let d := match o.dst with | some d => d | none => 0
  match o.op with
  | .move x | .assign x => match rdO rd x, ch with
    | some (.one (.bool b)), .br c => some ⟨.one (.bool c), [], [b = c]⟩
    | some t, _ => ret t
    | none, _ => none
  | .pick c a b => match rdO rd c with
    | some (.one (.bool true)) => (rdO rd a).bind ret
    | some (.one (.bool false)) => (rdO rd b).bind ret
    | _ => none
  | .nilCheck x => match rdO rd x with
    | some (.one (.ptr s v i off)) => match liveOb ob s v with
      | some _ => ret (.one (.ptr s v i off))
      | none => none
    | _ => none
  | .alloc t => match (zeroT P t).bind T.cells with
    | some cs => match newOb ob d ⟨t, cs.length, false, [cs]⟩ with
      | some (v, wo) => some ⟨.one (.ptr d v 0 0), wo, []⟩
      | none => none
    | none => none
  | .box t x => match (rdO rd x).bind T.cells with
    | some cs => match newOb ob d ⟨t, cs.length, false, [cs]⟩ with
      | some (v, wo) => some ⟨.one (.ptr d v 0 0), wo, []⟩
      | none => none
    | none => none
  | .build t parts => match (zeroT P t).bind T.cells, placesOf P t, partsV rd parts.toList with
    | some z, some places, some ps => (fillV (places[·]?) z ps).bind fun cs => ret (.agg cs)
    | _, _, _ => none
  | .buildSlice t len parts => match elemT P t with
    | some e => match (zeroT P e).bind T.cells, sizeT P e, partsV rd parts.toList with
      | some z, some n, some ps => match fillV (fun i => some (i * n, n)) (List.replicate len z).flatten ps with
        | some cs => match Nat.beq z.length n && Nat.ble (len * n) 16777216 && Nat.ble 1 n && treeCells cs && Nat.beq cs.length (len * n) with
          | true => match ch with
            | .tree => ret (.one (.arr n (chunk n len cs)))
            | _ => match newOb ob d ⟨e, n, true, chunk n len cs⟩ with
              | some (v, wo) => some ⟨.one (.ref d v), wo, []⟩
              | none => none
          | false => none
        | none => none
      | _, _, _ => none
    | none => none
  | .load t a => (rdO rd a).bind (effLoad P ob ch t)
  | .store t a x => match rdO rd a, rdO rd x with
    | some a, some x => effStore P ob ch t a x
    | _, _ => none
  | .binOp op t x y _ => match rdO rd x, rdO rd y with
    | some (.one x), some (.one y) => match binV (P.underlying t) op x y with
      | some (v, p) => some ⟨.one v, [], p⟩
      | none => none
    | _, _ => none
  | .unOp op _ x => match rdO rd x with
    | some (.one x) => (unV op x).bind fun v => ret (.one v)
    | _ => none
  | .convert src dst x => match rdO rd x, P.underlying src, P.underlying dst with
    | some (.one (.int _ n)), some _, some (.int k) => ret (.one (.int k (k.wrap n)))
    | _, _, _ => none
  | .makeSlice t l c => match elemT P t with
    | some e => match (zeroT P e).bind T.cells, P.info? e, rdO rd l, rdO rd c with
      | some z, some i, some (.one (.int .i64 n)), some (.one (.int .i64 m)) => match treeCells z && Nat.ble 1 z.length && Nat.beq z.length i.size && Nat.ble 1 i.bytes with
        | false => none
        | true => match newOb ob d ⟨e, z.length, true, List.replicate n.toNat z⟩ with
        | some (v, wo) => some ⟨.one (.ref d v), wo, [0 ≤ n, n * i.bytes ≤ 140737488355328, m = n]⟩
        | none => none
      | _, _, _, _ => none
    | none => none
  | .slice t x lo hi mx => (rdO rd x).bind fun x => effSlice (P.underlying t) ((elemT P t).bind (sizeT P)) rd x lo hi mx
  | .fieldAddr t x f => match fieldT P t f, rdO rd x with
    | some fd, some a => match sizeT P fd.type with
      | some (_ + 1) => addOff ob fd.offset a
      | _ => none
    | _, _ => none
  | .field t x f => match fieldT P t f, rdO rd x with
    | some fd, some (.agg cs) => (partT P fd.type cs fd.offset).bind ret
    | _, _ => none
  | .indexAddr t x i => match rdO rd x, rdO rd i with
    | some x, some i => effIndexAddr P ob ch t x i
    | _, _ => none
  | .index t x i => match rdO rd x, rdO rd i, P.underlying t with
    | some (.one (.str s)), some (.one (.int _ i)), some .string => some ⟨.one (.int .u8 ((s.data.toList.getD i.toNat 0).toNat : Int)), [], [0 ≤ i, i < (s.size : Int)]⟩
    | _, _, _ => none
  | .extract x n => match rdO rd x with
    | some (.tup ts) => match ts[n]? with | some t => ret t | none => none
    | _ => none
  | .call c => match c.callee with
    | .builtin b => (rdAll rd c.args.toList).bind fun l => effBuiltin P ob d b c.argTypes.toList l
    | _ => none
  | _ => none

/-! calls of Go functions: what is passed stands at 1000, 1001, .. -/
def base : Nat := 1000

def idxOf : List Nat → Nat → Nat → Option Nat
  | [], _, _ => none
  | t :: r, s, k => match Nat.beq t s with | true => some k | false => idxOf r s (k + 1)

def hasN : List Nat → Nat → Bool
  | [], _ => false
  | t :: r, s => match Nat.beq t s with | true => true | false => hasN r s

/-- an object of ours starts anew on the other side; one that was passed to us keeps its count -/
def nv (s v : Nat) : Nat := match Nat.ble 1000 s with | true => v | false => 1

def bv (s x o : Nat) : Nat := match Nat.ble 1000 s with | true => o | false => x + (o - 1)

def argV (ob : Nat → Option Ob) (snap pass : List Nat) : V → Option V
  | .ref s v => match liveOb ob s v with
    | some c => match hasN snap s, c.flat with
      | true, true => some (.arr c.sz c.es)
      | _, _ => match idxOf pass s 1000 with
        | some k => some (.ref k (nv s v))
        | none => none
    | none => none
  | .ptr s v i off => match liveOb ob s v, idxOf pass s 1000 with
    | some _, some k => some (.ptr k (nv s v) i off)
    | _, _ => none
  | .int k n => some (.int k n)
  | .bool b => some (.bool b)
  | .str s => some (.str s)
  | .nil => some .nil
  | .arr sz xs => some (.arr sz xs)
  | .undef => some .undef
  | _ => none

def mapV (f : V → Option V) : List V → Option (List V)
  | [] => some []
  | v :: r => match f v, mapV f r with
    | some x, some l => some (x :: l)
    | _, _ => none

def mapVs (f : V → Option V) : List (List V) → Option (List (List V))
  | [] => some []
  | v :: r => match mapV f v, mapVs f r with
    | some x, some l => some (x :: l)
    | _, _ => none

def mapT (f : V → Option V) : T → Option T
  | .one v => (f v).map .one
  | .agg cs => (mapV f cs).map .agg
  | .tup _ => none

def mapTs (f : V → Option V) : List T → Option (List T)
  | [] => some []
  | t :: r => match mapT f t, mapTs f r with
    | some x, some l => some (x :: l)
    | _, _ => none

def mapCon (f : V → Option V) (c : Con) : Option Con :=
  match c.flat with
  | true => some c
  | false => (mapVs f c.es).map fun es => ⟨c.ty, c.sz, false, es⟩

def mapOb (f : V → Option V) (s : Nat) (o : Ob) : Option Ob :=
  match o.con with
  | some c => (mapCon f c).map fun c => ⟨nv s o.ver, some c⟩
  | none => some ⟨nv s o.ver, none⟩

def passObs (ob : Nat → Option Ob) (f : V → Option V) : List Nat → Option (List Ob)
  | [] => some []
  | s :: r => match ob s, passObs ob f r with
    | some o, some l => (mapOb f s o).map fun o => o :: l
    | _, _ => none

/-- what stands behind the call at which site, with which version -/
def backMap (ob : Nat → Option Ob) : List Nat → List Nat → List Ob → Option (List (Nat × Nat × Nat))
  | [], [], [] => some []
  | s :: pass, adopt, o :: r => match ob s, backMap ob pass adopt r with
    | some x, some l => some ((s, o.ver, bv s x.ver o.ver) :: l)
    | _, _ => none
  | [], s :: adopt, o :: r => match ob s, backMap ob [] adopt r with
    | some x, some l => some ((s, o.ver, x.ver + 1) :: l)
    | _, _ => none
  | _, _, _ => none

def backV (m : List (Nat × Nat × Nat)) : V → Option V
  | .ref s v => match m[s - 1000]? with
    | some (t, v0, v1) => match Nat.beq v0 v && Nat.ble 1000 s with | true => some (.ref t v1) | false => some .undef
    | none => some .undef
  | .ptr s v i off => match m[s - 1000]? with
    | some (t, v0, v1) => match Nat.beq v0 v && Nat.ble 1000 s with | true => some (.ptr t v1 i off) | false => some .undef
    | none => some .undef
  | .int k n => some (.int k n)
  | .bool b => some (.bool b)
  | .str s => some (.str s)
  | .nil => some .nil
  | .arr sz xs => some (.arr sz xs)
  | _ => some .undef

def backT (m : List (Nat × Nat × Nat)) : T → Option T
  | .one v => (backV m v).map .one
  | .agg cs => (mapV (backV m) cs).map .agg
  | .tup ts => (mapTs (backV m) ts).map .tup

def backObs (m : List (Nat × Nat × Nat)) : List Ob → List (Nat × Nat × Nat) → Option (List (Nat × Ob))
  | [], [] => some []
  | o :: r, (t, _, v1) :: mr => match mapOb (backV m) t o, backObs m r mr with
    | some o, some l => some ((t, ⟨v1, o.con⟩) :: l)
    | _, _ => none
  | _, _ => none

def deadObs (ob : Nat → Option Ob) : List Nat → Option (List (Nat × Ob))
  | [] => some []
  | s :: r => match ob s, deadObs ob r with
    | some o, some l => some ((s, ⟨o.ver + 1, none⟩) :: l)
    | _, _ => none

def V.noArr : V → Bool
  | .arr .. => false
  | .ipt .. => false
  | _ => true

def noArrs : List V → Bool
  | [] => true
  | v :: r => match v.noArr with | true => noArrs r | false => false

def T1.noArr : T → Bool
  | .one v => v.noArr
  | .agg cs => noArrs cs
  | .tup _ => false

def noArrT : List T → Bool
  | [] => true
  | t :: r => match T1.noArr t with | true => noArrT r | false => false

def T.noArr : T → Bool
  | .one v => v.noArr
  | .agg cs => noArrs cs
  | .tup ts => noArrT ts

/-- what is lent is back behind the call: no tree that came back may lie there -/
def borObs : List Nat → T → List Ob → Option (List Prop)
  | [], _, _ => some []
  | _ :: _, r, oout => match r.noArr with
    | true => some (oout.map fun o => match o.con with | some c => ∀ e ∈ c.es, ∀ v ∈ e, v.noArr = true | none => True)
    | false => none

def geVers : List Ob → List Ob → Bool
  | [], _ => true
  | o :: r, o' :: r' => Nat.ble o.ver o'.ver && geVers r r'
  | _ :: _, [] => false

abbrev CallP := Nat → List T → List Ob → T → List Ob → Prop

def distinct : List Nat → Bool
  | [] => true
  | s :: r => !hasN r s && distinct r

def effCall (CO : CallP) (ob : Nat → Option Ob) (f : Nat) (args : List T) (frz bor pass : List Nat) (r : T) (oout : List Ob) (adopt : List Nat) : Option Eff :=
  match mapTs (argV ob (frz ++ bor) pass) args, passObs ob (argV ob [] pass) pass, backMap ob pass adopt oout, borObs bor r oout, distinct (frz ++ bor ++ pass ++ adopt) with
  | some args', some oin, some m, some p, true => match backT m r, backObs m oout m, deadObs ob frz, geVers oin oout with
    | some r', some wo, some dead, true => some ⟨r', dead ++ wo, CO f args' oin r oout :: p⟩
    | _, _, _, _ => none
  | _, _, _, _, _ => none

def fnd : List (Nat × Ob) → Nat → Option Ob
  | [], _ => none
  | (t, x) :: r, s => match fnd r s with
    | some y => some y
    | none => if t = s then some x else none

/-! what is done with a slice: from here on it is a tree that nobody writes -/
def frzV (ob : Nat → Option Ob) (ss : List Nat) : V → Option V
  | .ref s v => match hasN ss s with
    | true => match liveOb ob s v with
      | some c => match c.flat with | true => some (.arr c.sz c.es) | false => none
      | none => none
    | false => some (.ref s v)
  | x => some x

def obOf (ob : Nat → Option Ob) (wo : List (Nat × Ob)) (s : Nat) : Option Ob :=
  match fnd wo s with | some o => some o | none => ob s

def frzE (ob : Nat → Option Ob) (ss : List Nat) (e : Eff) : Option Eff :=
  match mapT (frzV (obOf ob e.wo) ss) e.dst, deadObs (obOf ob e.wo) ss with
  | some t, some dead => some ⟨t, e.wo ++ dead, e.obs⟩
  | _, _ => none

/-- an empty slice, as an object of its own that has no memory yet -/
def setNil : T → Nat → V → Option T
  | .one .nil, _, v => some (.one v)
  | .agg cs, i, v => match cs[i]? with
    | some .nil => some (.agg (setL cs i v))
    | _ => none
  | _, _, _ => none

def ownE1 (ob : Nat → Option Ob) (q : Nat × Nat × TypeId × Nat) (e : Eff) : Option Eff :=
  match obOf ob e.wo q.2.1 with
  | some o => match setNil e.dst q.1 (.ref q.2.1 (o.ver + 1)) with
    | some t => some ⟨t, e.wo ++ [(q.2.1, ⟨o.ver + 1, some ⟨q.2.2.1, q.2.2.2, true, []⟩⟩)], e.obs⟩
    | none => none
  | none => none

def ownEs (ob : Nat → Option Ob) : List (Nat × Nat × TypeId × Nat) → Eff → Option Eff
  | [], e => some e
  | q :: r, e => match ownE1 ob q e with
    | some e' => ownEs ob r e'
    | none => none

def ownSites : List (Nat × Nat × TypeId × Nat) → List Nat
  | [] => []
  | q :: r => q.2.1 :: ownSites r

/-- the same contents in other words -/
def retypeE (es' : List (List V)) (e : Eff) : Option Eff :=
  match e.wo, e.dst with
  | [(s, ⟨v, some ⟨ty, sz, fl, es⟩⟩)], d => some ⟨d, [(s, ⟨v, some ⟨ty, sz, fl, es'⟩⟩)], e.obs ++ [es = es']⟩
  | [], .one (.arr sz es) => some ⟨.one (.arr sz es'), [], e.obs ++ [es = es']⟩
  | _, _ => none

/-! weakening: nothing is an empty list -/
def wkV : V → V → V
  | .nil, .arr sz xs => match xs with | [] => .arr sz [] | _ => .nil
  | x, _ => x
def wkL : List V → List V → List V
  | x :: l, y :: m => wkV x y :: wkL l m
  | l, _ => l
def wkT1 : T → T → T
  | .one x, .one y => .one (wkV x y)
  | .agg l, .agg m => .agg (wkL l m)
  | t, _ => t
def wkTs : List T → List T → List T
  | x :: l, y :: m => wkT1 x y :: wkTs l m
  | l, _ => l
def wkT : T → T → T
  | .one x, .one y => .one (wkV x y)
  | .agg l, .agg m => .agg (wkL l m)
  | .tup l, .tup m => .tup (wkTs l m)
  | t, _ => t

def eff1 (P : Program) (o : Oper) (rd : Nat → T) (ob : Nat → Option Ob) (ch : Ch) : Option Eff :=
  match ch with
  | .re ch es => (eff P o rd ob ch).bind (retypeE es)
  | .wk t => (eff P o rd ob .std).bind fun e => some ⟨wkT e.dst t, e.wo, e.obs⟩
  | ch => eff P o rd ob ch

def effX (P : Program) (o : Oper) (rd : Nat → T) (ob : Nat → Option Ob) (ch : Ch) : Option Eff :=
  match ch with
  | .frz ch ss => (eff1 P o rd ob ch).bind (frzE ob ss)
  | .own l => (eff P o rd ob .std).bind (ownEs ob l)
  | ch => eff1 P o rd ob ch

/-! footprints -/
structure Fp where
  rs : List Nat
  d : Option Nat
  sites : List Nat
  wr : Bool

def opSlots : List Operand → List Nat
  | [] => []
  | .tmp t :: r => t :: opSlots r
  | _ :: r => opSlots r

def V.sites : V → List Nat
  | .ref s _ => [s]
  | .ptr s _ _ _ => [s]
  | _ => []

def cellSites : List V → List Nat
  | [] => []
  | v :: r => v.sites ++ cellSites r

def T.sites : T → List Nat
  | .one v => v.sites
  | .agg cs => cellSites cs
  | .tup _ => []

def slotSites (rd : Nat → T) : List Nat → List Nat
  | [] => []
  | t :: r => (rd t).sites ++ slotSites rd r

def isWriter : Op → Bool
  | .alloc _ | .box .. | .buildSlice .. | .store .. | .makeSlice .. => true
  | .call c => match c.callee with | .builtin .len => false | .builtin .min => false | .builtin .max => false | _ => true
  | _ => false

def isFrz : Ch → Bool
  | .frz _ _ => true
  | .own _ => true
  | _ => false

def guardSlot (ops : List Oper) (o : Oper) : List Nat :=
  match o.guard with
  | some (j, _) => match ops[j]? with | some oj => oj.dst.toList | none => []
  | none => []

def footOf (ops : List Oper) (rd : Nat → T) (o : Oper) (ch : Ch) : Fp :=
  let rs := opSlots o.op.operands.toList
  ⟨guardSlot ops o ++ rs, o.dst, (match ch with | .call frz bor pass _ _ adopt => frz ++ bor ++ pass ++ adopt | .frz _ ss => ss ++ o.dst.toList ++ slotSites rd rs | .own l => ownSites l ++ o.dst.toList ++ slotSites rd rs | _ => (match o.op with | .move _ => [] | .assign _ => [] | _ => o.dst.toList ++ slotSites rd rs)), (isWriter o.op || isFrz ch)⟩

def disj : List Nat → List Nat → Bool
  | [], _ => true
  | s :: r, l => !hasN l s && disj r l

def indep (a b : Fp) : Bool :=
  (match a.d with | some d => !hasN b.rs d && (match b.d with | some e => !Nat.beq d e | none => true) | none => true) &&
  (match b.d with | some d => !hasN a.rs d | none => true) &&
  ((!a.wr && !b.wr) || disj a.sites b.sites)

def edgeMask (acc : List Nat) : List Edge → Nat
  | [] => 0
  | e :: r => match Region.binds .any e with
    | true => (2 ^ e.on ||| acc.getD e.on 0) ||| edgeMask acc r
    | false => edgeMask acc r

def ancs : List Oper → List Nat → List Nat
  | [], acc => acc
  | o :: r, acc => ancs r (acc ++ [edgeMask acc o.after.toList])

/-- every binding edge leads back -/
def edgesBack (k : Nat) : List Edge → Bool
  | [] => true
  | e :: r => match Region.binds .any e with
    | true => match Nat.blt e.on k with | true => edgesBack k r | false => false
    | false => edgesBack k r

def allBack : List Oper → Nat → Bool
  | [], _ => true
  | o :: r, k => match edgesBack k o.after.toList with | true => allBack r (k + 1) | false => false

def noSelect : List Oper → Bool
  | [] => true
  | o :: r => (match o.op with | .select .. => false | _ => true) && noSelect r

def checkOne (f : Fp) (m : Nat) : List Fp → Nat → Bool
  | [], _ => true
  | g :: r, i => match Nat.testBit m i with
    | true => checkOne f m r (i + 1)
    | false => match indep g f with
      | true => checkOne f m r (i + 1)
      | false => false

def checkDraw : List Fp → List Fp → List Nat → Bool
  | _, [], _ => true
  | done, f :: r, m :: ms => match checkOne f m done 0 with
    | true => checkDraw (done ++ [f]) r ms
    | false => false
  | _, _ :: _, [] => false

/-! one operation, a region -/
def wantedA (ops : List Oper) (rd : Nat → T) (o : Oper) : Option Bool :=
  match o.guard with
  | none => some true
  | some (j, w) => match (ops[j]?).bind (·.dst) with
    | some t => match rd t with
      | .one (.bool true) => some w
      | .one (.bool false) => some !w
      | .one .void => some false
      | _ => none
    | none => none

def maskOb (st : St) (sites : List Nat) (s : Nat) : Option Ob :=
  match hasN sites s with | true => some (lk st.ob s) | false => none

def maskRd (st : St) (rs : List Nat) (t : Nat) : T :=
  match hasN rs t with | true => st.rd t | false => .undef

def goCallable (P : Program) (f : Nat) : Bool :=
  match P.funcs[f]? with
  | some fn => (match fn.body with | some _ => true | none => false) && !(fn.name == "runtime.NumGoroutine")
  | none => false

def effM (CO : CallP) (P : Program) (ops : List Oper) (rd : Nat → T) (ob : Nat → Option Ob) (o : Oper) (ch : Ch) : Option Eff :=
  match wantedA ops rd o with
  | none => none
  | some false => some ⟨.one .void, [], []⟩
  | some true =>
    match ch, o.op with
    | .call frz bor pass r oout adopt, .call c => match c.callee with
      | .value x => match rdO rd x, rdAll rd c.args.toList with
        | some (.one (.fn f [])), some l => match goCallable P f with
          | true => effCall CO ob f l frz bor pass r oout adopt
          | false => none
        | _, _ => none
      | _ => none
    | ch, _ => effX P o rd ob ch

def effOp (CO : CallP) (P : Program) (ops : List Oper) (st : St) (o : Oper) (ch : Ch) : Option (Eff × Fp) :=
  let fp := footOf ops st.rd o ch
  (effM CO P ops (maskRd st fp.rs) (maskOb st fp.sites) o ch).map (·, fp)

def putE (st : St) (o : Oper) (e : Eff) : St :=
  ⟨match o.dst with | some d => setL st.sl d e.dst | none => st.sl, ups st.ob e.wo⟩

def chAt : List (Nat × Ch) → Nat → Ch
  | [], _ => .std
  | (i, c) :: r, k => match Nat.beq i k with
    | true => (match c with | .frz _ ss => .frz (chAt r k) ss | c => c)
    | false => chAt r k

def runOps (CO : CallP) (P : Program) (ops : List Oper) (chs : List (Nat × Ch)) : List Oper → Nat → St → Option (List Prop × St × List Fp)
  | [], _, st => some ([], st, [])
  | o :: r, k, st => match effOp CO P ops st o (chAt chs k) with
    | none => none
    | some (e, fp) => match runOps CO P ops chs r (k + 1) (putE st o e) with
      | some (p, st', fps) => some (e.obs ++ p, st', fp :: fps)
      | none => none

def runRegion (CO : CallP) (P : Program) (ops : Array Oper) (draw : Bool) (chs : List (Nat × Ch)) (st : St) : Option (List Prop × St) :=
  match runOps CO P ops.toList chs ops.toList 0 st with
  | none => none
  | some (p, st', fps) => match draw with
    | false => some (p, st')
    | true => match checkDraw [] fps (ancs ops.toList []) && allBack ops.toList 0 with
      | true => some (p, st')
      | false => none

inductive AExit where
  | normal | ret
  | exit (id : Nat)

/-! projection: what a loop's head keeps -/
def okV (l : List (Nat × Nat)) : V → V
  | .ref s v => match l.lookup s with
    | some v' => match Nat.beq v v' with | true => .ref s (nv s v) | false => .undef
    | none => .undef
  | .ptr s v i off => match l.lookup s with
    | some v' => match Nat.beq v v' with | true => .ptr s (nv s v) i off | false => .undef
    | none => .undef
  | .fn _ _ => .undef
  | v => v

def okT (l : List (Nat × Nat)) : T → T
  | .one v => .one (okV l v)
  | .agg cs => .agg (cs.map (okV l))
  | .tup _ => .undef

def okOb (l : List (Nat × Nat)) (s : Nat) (o : Ob) : Ob :=
  ⟨nv s o.ver, match o.con with
    | some c => (match c.flat with | true => some c | false => some ⟨c.ty, c.sz, false, c.es.map fun e => e.map (okV l)⟩)
    | none => none⟩

def projSl (l : List (Nat × Nat)) (keep : List Nat) : List T → Nat → List T
  | [], _ => []
  | t :: r, k => (match hasN keep k with | true => okT l t | false => .undef) :: projSl l keep r (k + 1)

def proj (slots sites : List Nat) (st : St) : St :=
  let l := sites.map fun s => (s, (lk st.ob s).ver)
  ⟨projSl l slots st.sl 0, sites.map fun s => (s, okOb l s (lk st.ob s))⟩

/-- what was passed to us is not forgotten -/
def keepsI (sites : List Nat) : List (Nat × Ob) → Bool
  | [] => true
  | (t, _) :: r => match Nat.ble 1000 t with
    | true => match hasN sites t with | true => keepsI sites r | false => false
    | false => keepsI sites r

inductive Item where
  | ops (id : Nat) (chs : List (Nat × Ch))
  | br (b : Bool)
  | loop (slots sites : List Nat) (e : AExit) (st : St)

abbrev ExecP := Code → St → AExit → St → Prop

def runC (CO : CallP) (EO : ExecP) (P : Program) : Code → St → List Item → Option (List Prop × AExit × St × List Item)
  | .skip, st, sc => some ([], .normal, st, sc)
  | .region id ops draw, st, sc => match sc with
    | .ops id' chs :: r => match Nat.beq id id' with
      | true => (runRegion CO P ops draw chs st).map fun (p, st') => (p, .normal, st', r)
      | false => (runRegion CO P ops draw [] st).map fun (p, st') => (p, .normal, st', sc)
    | _ => (runRegion CO P ops draw [] st).map fun (p, st') => (p, .normal, st', sc)
  | .seq a b, st, sc => match runC CO EO P a st sc with
    | some (p, .normal, st', sc') => match runC CO EO P b st' sc' with
      | some (q, e, st'', sc'') => some (p ++ q, e, st'', sc'')
      | none => none
    | r => r
  | .cond c x y, st, sc => match sc with
    | .br b :: r => match rdO st.rd c with
      | some (.one (.bool v)) => match (match b with | true => runC CO EO P x st r | false => runC CO EO P y st r) with
        | some (p, e, st', sc') => some ((v = b) :: p, e, st', sc')
        | none => none
      | _ => none
    | _ => none
  | .block id body, st, sc => match runC CO EO P body st sc with
    | some (p, .exit i, st', sc') => match Nat.beq i id with
      | true => some (p, .normal, st', sc')
      | false => some (p, .exit i, st', sc')
    | r => r
  | .loop body, st, sc => match sc with
    | .loop slots sites e st' :: r => match keepsI sites st.ob with
      | true => some ([EO (.loop body) (proj slots sites st) e st'], e, st', r)
      | false => none
    | _ => none
  | .exit id, st, sc => some ([], .exit id, st, sc)
  | .ret, st, sc => some ([], .ret, st, sc)
  | _, _, _ => none

/-- the results, behind the body -/
def resT (P : Program) (st : St) : ResultVar → Option T
  | .tmp t => some (st.rd t)
  | .cell a t => match st.rd a with
    | .one (.ptr s v i off) => match liveOb (fun s => some (lk st.ob s)) s v with
      | some c => match c.es[i]? with
        | some cs => partT P t cs off
        | none => none
      | none => none
    | _ => none

def resTs (P : Program) (st : St) : List ResultVar → Option (List T)
  | [] => some []
  | r :: l => match resT P st r, resTs P st l with
    | some t, some ts => some (t :: ts)
    | _, _ => none

/-- behind the body: the sites 'frz' are frozen, the sites 'out' are handed on -/
def runEnd (P : Program) (fn : Func) (st : St) (frz out : List Nat) : Option (T × List Ob) :=
  let ob := fun s => some (lk st.ob s)
  match resTs P st fn.results.toList, passObs ob (argV ob [] out) out, distinct (frz ++ out) with
  | some ts, some oo, true => match mapTs (argV ob frz out) ts with
    | some [t] => some (t, oo)
    | some ts => some (.tup ts, oo)
    | none => none
  | _, _, _ => none

/-- what was passed comes out first and in its order -/
def ifOut : List Ob → Nat → List Nat → Bool
  | [], _, [] => true
  | [], k, s :: r => match Nat.blt s 1000 with | true => ifOut [] k r | false => false
  | _ :: o, k, s :: r => match Nat.beq s k with | true => ifOut o (k + 1) r | false => false
  | _ :: _, _, [] => false

def enumFrom : Nat → List Ob → List (Nat × Ob)
  | _, [] => []
  | k, o :: r => (k, o) :: enumFrom (k + 1) r

def startSt (fn : Func) (args : List T) (oin : List Ob) : St :=
  ⟨args ++ List.replicate (fn.ntmps - args.length) .undef, enumFrom 1000 oin⟩

def isEnd : AExit → Bool
  | .normal | .ret => true
  | _ => false

def runFn (CO : CallP) (EO : ExecP) (P : Program) (f : Nat) (args : List T) (oin : List Ob) (sc : List Item) (frz out : List Nat) : Option (List Prop × T × List Ob) :=
  match P.funcs[f]? with
  | none => none
  | some fn => match fn.body with
    | none => none
    | some c => match runC CO EO P c (startSt fn args oin) sc with
      | some (p, e, st, []) => match isEnd e && ifOut oin 1000 out, runEnd P fn st frz out with
        | true, some (t, oo) => some (p, t, oo)
        | _, _ => none
      | _ => none

end Go.Abs
