/- The abstract machine: values without addresses, memory as a short list of blocks. -/
import Derived.Calls
import Derived.Orders
import Derived.Below
import Derived.Laws.AppendOwn
import Derived.KernelRfl
set_option linter.unusedVariables false
set_option linter.unusedSimpArgs false
namespace Go.Abs
open Go Go.RowKit

inductive AV where
  | undef
  | bool (b : Bool)
  | int (k : IntKind) (n : Int)
  | str (s : ByteArray)
  | nilS
  | row (cs : List AV) (len : Nat)
  | ref (i g off len : Nat)
  | own (e sz : Nat) (cs : List AV) (len : Nat)
  | nilP
  | ptr (i g off : Nat)
  | rptr (cs : List AV)
  | agg (cs : List AV)
  | tup (vs : List AV)
  | func (f : FuncId) (first captured : List AV)
  | nilF
  | nilM
  | map (i : Nat)
  | nilI
  | iface (t : TypeId) (v : AV)
  | iter (i : Nat)

/-- the value of a skip -/
abbrev nothing : AV := .tup []
/-- what may lie in one cell -/
def AV.cell : AV → Bool
  | .undef | .agg _ | .tup _ | .own .. => false
  | _ => true

inductive AO where
  | cells (e sz : Nat) (fz : Bool) (cs : List AV)
  | map (es : List (AV × AV × Nat)) (clock : Nat)
  | sit (s : ByteArray) (pos : Nat)

structure Mem where
  next : Nat
  bs : List (Nat × AO)

def lkp (i : Nat) : List (Nat × AO) → Option AO
  | [] => none
  | (j, o) :: r => bif Nat.beq i j then some o else lkp i r
def upd (i : Nat) (o : AO) : List (Nat × AO) → List (Nat × AO)
  | [] => []
  | (j, p) :: r => bif Nat.beq i j then (j, o) :: r else (j, p) :: upd i o r
def Mem.get (M : Mem) (i : Nat) : Option AO := lkp i M.bs
def Mem.set (M : Mem) (i : Nat) (o : AO) : Mem := ⟨M.next, upd i o M.bs⟩
def Mem.add (M : Mem) (o : AO) : Mem := ⟨M.next + 1, (M.next, o) :: M.bs⟩
def Mem.none : Mem := ⟨0, []⟩
def Mem.len (M : Mem) (i : Nat) : Option Nat :=
  match M.get i with
  | some (.cells _ _ _ cs) => some cs.length
  | _ => Option.none

/-- types -/
inductive TK where
  | int (k : IntKind) | bool | str | slice (e : TypeId) | struct (fs : List (Nat × TypeId × Nat)) | ptr (e : TypeId) | map (k e : TypeId) | func | iface | other
structure TE where
  sz : Nat
  bytes : Nat
  k : TK
  z : List AV

def avOf : Value → AV
  | .bool b => .bool b
  | .int k n => .int k n
  | .string s => .str s
  | .pointer none => .nilP
  | .slice none 0 0 => .nilS
  | .map none => .nilM
  | .nilFunc => .nilF
  | .nilIface => .nilI
  | _ => .undef

def mkTK (P : Program) : TypeDesc → TK
  | .bool => .bool
  | .int k => .int k
  | .string => .str
  | .slice e => .slice e
  | .struct fs => bif fs.toList.all (fun f => (P.info? f.type).isSome) then .struct (fs.toList.map fun f => (f.offset, f.type, ((P.info? f.type).map (·.size)).getD 0)) else .other
  | .pointer e => .ptr e
  | .map k e => .map k e
  | .func .. => .func
  | .interface _ => .iface
  | _ => .other
/-- does a zero value have its kind's form? -/
def zfit : TK → Value → Bool
  | .struct _, .agg _ => true
  | .struct _, _ => false
  | _, .agg _ | _, .tuple _ => false
  | _, _ => true
def mkTE (P : Program) (t : TypeId) : Option TE :=
  match P.info? t, P.underlying t with
  | some i, some d => i.zero.bind fun z => bif zfit (mkTK P d) z then some { sz := i.size, bytes := i.bytes, k := mkTK P d, z := z.cells.toList.map avOf } else none
  | _, _ => none
abbrev Tab := TypeId → Option TE
def TabOk (P : Program) (T : Tab) : Prop := ∀ t te, T t = some te → mkTE P t = some te

/-- operands -/
def ev (s : List AV) : Operand → AV
  | .tmp t => s.getD t .undef
  | .const v => avOf v
  | .global _ => .undef
  | .func f => .func f [] []

def vcells : AV → List AV
  | .agg l => l
  | v => [v]

def TE.isAgg (te : TE) : Bool := match te.k with | .struct _ => true | _ => false
def TE.scalar (te : TE) : Bool := match te.k with | .struct _ | .other => false | _ => true

def alo (T : Tab) (t : TypeId) (cs : List AV) : Option AV :=
  match T t with
  | some te =>
    bif te.isAgg then (bif Nat.ble te.sz cs.length then some (.agg (cs.take te.sz)) else none)
    else bif te.scalar then cs.head? else none
  | none => none
def aload (T : Tab) (M : Mem) (t : TypeId) : AV → Option AV
  | .ptr i g off =>
    match M.get i with
    | some (.cells _ _ _ cs) => bif Nat.beq cs.length g then alo T t (cs.drop off) else none
    | _ => none
  | .rptr cs => alo T t cs
  | _ => none
def splice (cs : List AV) (off : Nat) (vs : List AV) : List AV := cs.take off ++ vs ++ cs.drop (off + vs.length)
def astore (T : Tab) (M : Mem) (t : TypeId) (addr v : AV) : Option Mem :=
  match addr, T t with
  | .ptr i g off, some te =>
    match M.get i with
    | some (.cells e sz false cs) =>
      bif Nat.beq cs.length g && Nat.beq (vcells v).length te.sz && (vcells v).all AV.cell && Nat.ble (off + te.sz) g then
        some (M.set i (.cells e sz false (splice cs off (vcells v))))
      else none
    | _ => none
  | _, _ => none
/-- what makes a block: a slice or a variable, its element's type and size, the cells, the slice's length -/
structure AL where
  sl : Bool
  e : TypeId
  sz : Nat
  cs : List AV
  len : Nat
def AL.val (l : AL) (i : Nat) : AV := bif l.sl then .ref i l.cs.length 0 l.len else .ptr i l.cs.length 0
def AL.obj (l : AL) : AO := .cells l.e l.sz false l.cs

def afill (place : Nat → Option (Nat × Nat)) (cells : List AV) : List (Nat × AV) → Option (List AV)
  | [] => some cells
  | (i, v) :: rest =>
    match place i with
    | none => none
    | some (off, size) =>
      bif Nat.beq (vcells v).length size && Nat.ble (off + size) cells.length && (vcells v).all AV.cell then afill place (splice cells off (vcells v)) rest else none
def abuild (T : Tab) (t : TypeId) (parts : List (Nat × AV)) : Option AV :=
  match T t with
  | some { k := .struct fs, z, .. } => (afill (fun i => (fs[i]?).map fun f => (f.1, f.2.2)) z parts).map .agg
  | _ => none
def reps (n : Nat) (z : List AV) : List AV := (List.replicate n z).flatten
def abuildS (T : Tab) (t : TypeId) (len : Nat) (parts : List (Nat × AV)) : Option AL :=
  match T t with
  | some { k := .slice e, .. } =>
    match T e with
    | some te =>
      bif Nat.ble (len * te.sz) 16777216 && Nat.blt 0 te.sz && Nat.beq te.z.length te.sz then
        (afill (fun i => some (i * te.sz, te.sz)) (reps len te.z) parts).map fun cs => ⟨true, e, te.sz, cs, len⟩
      else none
    | none => none
  | _ => none
def amakeS (T : Tab) (t : TypeId) (len cap : AV) : Option AL :=
  match T t, len, cap with
  | some { k := .slice e, .. }, .int .i64 l, .int .i64 c =>
    match T e with
    | some te =>
      bif decide (0 ≤ l) && decide (l ≤ c) && Nat.ble (te.bytes * c.toNat) (2 ^ 47) && Nat.ble c.toNat (2 ^ 62) && Nat.blt 0 te.sz && Nat.beq te.z.length te.sz then
        some ⟨true, e, te.sz, reps l.toNat te.z, l.toNat⟩
      else none
    | none => none
  | _, _, _ => none
/-- is a block of this length still there? -/
def Mem.live (M : Mem) (i g : Nat) : Bool :=
  match M.get i with
  | some (.cells _ _ _ cs) => Nat.beq cs.length g
  | _ => false
def Mem.liveZ (M : Mem) (i g z : Nat) : Bool :=
  match M.get i with
  | some (.cells _ sz _ cs) => Nat.beq cs.length g && Nat.beq sz z
  | _ => false
def afieldA (T : Tab) (M : Mem) (t : TypeId) (x : AV) (f : Nat) : Option AV :=
  match T t with
  | some { k := .struct fs, .. } =>
    match fs[f]? with
    | some (off, _, fsz) =>
      bif Nat.beq fsz 0 then none else
      match x with
      | .ptr i g o => bif M.live i g then some (.ptr i g (o + off)) else none
      | .rptr cs => some (.rptr (cs.drop off))
      | _ => none
    | none => none
  | _ => none
def afield (T : Tab) (t : TypeId) (x : AV) (f : Nat) : Option AV :=
  match T t, x with
  | some { k := .struct fs, .. }, .agg cs =>
    match fs[f]? with
    | some (off, ft, _) => alo T ft (cs.drop off)
    | none => none
  | _, _ => none
def aindexA (T : Tab) (M : Mem) (t : TypeId) (x ix : AV) : Option AV :=
  match T t, ix with
  | some { k := .slice e, .. }, .int _ n =>
    match T e with
    | some te =>
      match x with
      | .ref i g off len => bif M.live i g && decide (0 ≤ n) && decide (n < (len : Int)) then some (.ptr i g (off + n.toNat * te.sz)) else none
      | .row cs len => bif decide (0 ≤ n) && decide (n < (len : Int)) then some (.rptr (cs.drop (n.toNat * te.sz))) else none
      | _ => none
    | none => none
  | _, _ => none
def aindex (T : Tab) (t : TypeId) (x ix : AV) : Option AV :=
  match T t, x, ix with
  | some { k := .str, .. }, .str s, .int _ n => bif decide (0 ≤ n) then (s[n.toNat]?).map fun b => .int .u8 b.toNat else none
  | _, _, _ => none
def aextract : AV → Nat → Option AV
  | .tup vs, i => vs[i]?
  | _, _ => none
/-- a bound of a slice expression -/
def abnd (d : Nat) : Option AV → Option Nat
  | none => some d
  | some (.int _ n) => bif decide (0 ≤ n) then some n.toNat else none
  | _ => none
def aslice (T : Tab) (M : Mem) (t : TypeId) (x : AV) (lo hi mx : Option AV) : Option AV :=
  match T t, mx with
  | some { k := .slice e, .. }, none =>
    match T e with
    | some te =>
      match x with
      | .ref i g off len =>
        (abnd 0 lo).bind fun l => (abnd len hi).bind fun h =>
          bif M.liveZ i g te.sz && Nat.ble l h && Nat.ble h len then (bif Nat.beq l h && Nat.blt 0 l then some (.row [] 0) else some (.ref i g (off + l * te.sz) (h - l))) else none
      | .row cs len =>
        (abnd 0 lo).bind fun l => (abnd len hi).bind fun h =>
          bif Nat.ble l h && Nat.ble h len then some (.row ((cs.drop (l * te.sz)).take ((h - l) * te.sz)) (h - l)) else none
      | .nilS => (abnd 0 lo).bind fun l => (abnd 0 hi).bind fun h => bif Nat.beq l 0 && Nat.beq h 0 then some .nilS else none
      | _ => none
    | none => none
  | some { k := .str, .. }, none =>
    match x with
    | .str s => (abnd 0 lo).bind fun l => (abnd s.size hi).bind fun h => bif Nat.ble l h && Nat.ble h s.size then some (.str (s.extract l h)) else none
    | _ => none
  | _, _ => none

def abin : BinOp → AV → AV → Option AV
  | .shl, .int k a, .int _ b => bif decide (0 ≤ b) then some (.int k (k.wrap (a * 2 ^ (min b.toNat k.bits)))) else none
  | .shr, .int k a, .int _ b => bif decide (0 ≤ b) then some (.int k (a.fdiv (2 ^ (min b.toNat k.bits)))) else none
  | op, .int k a, .int k' b =>
    bif decide (k = k') then
      match op with
      | .add => some (.int k (k.wrap (a + b)))
      | .sub => some (.int k (k.wrap (a - b)))
      | .mul => some (.int k (k.wrap (a * b)))
      | .quo => bif b == 0 then none else some (.int k (k.wrap (a.tdiv b)))
      | .rem => bif b == 0 then none else some (.int k (a.tmod b))
      | .and => some (.int k (bits .and k a b))
      | .or => some (.int k (bits .or k a b))
      | .xor => some (.int k (bits .xor k a b))
      | .andNot => some (.int k (bits .andNot k a b))
      | .eql => some (.bool (a == b))
      | .neq => some (.bool (a != b))
      | .lss => some (.bool (decide (a < b)))
      | .leq => some (.bool (decide (a ≤ b)))
      | .gtr => some (.bool (decide (a > b)))
      | .geq => some (.bool (decide (a ≥ b)))
      | _ => none
    else none
  | op, .str a, .str b =>
    match op with
    | .add => bif Nat.ble (a.size + b.size) 9223372036854775807 then some (.str (a ++ b)) else none
    | .eql => some (.bool (a.toList == b.toList))
    | .neq => some (.bool !(a.toList == b.toList))
    | .lss => some (.bool (Op.bytesLess a.toList b.toList))
    | .leq => some (.bool (Op.bytesLess a.toList b.toList || a.toList == b.toList))
    | .gtr => some (.bool !(Op.bytesLess a.toList b.toList || a.toList == b.toList))
    | .geq => some (.bool !(Op.bytesLess a.toList b.toList))
    | _ => none
  | _, _, _ => none
/-- == at the other kinds -/
def aeq (T : Tab) (te : TE) (M : Mem) : AV → AV → Option Bool
  | .bool a, .bool b => match te.k with | .bool => some (a == b) | _ => none
  | .nilP, .nilP => match te.k with | .ptr _ => some true | _ => none
  | .nilP, .ptr i g _ => match te.k with | .ptr _ => bif M.live i g then some false else none | _ => none
  | .ptr i g _, .nilP => match te.k with | .ptr _ => bif M.live i g then some false else none | _ => none
  | .nilP, .rptr _ => match te.k with | .ptr _ => some false | _ => none
  | .rptr _, .nilP => match te.k with | .ptr _ => some false | _ => none
  | .ptr i g o, .ptr j h p => match te.k with | .ptr el => (match T el with | some tl => bif M.live i g && M.live j h && Nat.blt 0 tl.sz then some (Nat.beq i j && Nat.beq o p) else none | none => none) | _ => none
  | .nilS, .nilS => match te.k with | .slice _ => some true | _ => none
  | .nilS, .ref i g _ _ => match te.k with | .slice _ => bif M.live i g then some false else none | _ => none
  | .ref i g _ _, .nilS => match te.k with | .slice _ => bif M.live i g then some false else none | _ => none
  | .nilS, .row (_ :: _) _ => match te.k with | .slice _ => some false | _ => none
  | .row (_ :: _) _, .nilS => match te.k with | .slice _ => some false | _ => none
  | .nilM, .nilM => match te.k with | .map .. => some true | _ => none
  | .nilF, .nilF => match te.k with | .func => some true | _ => none
  | .nilF, .func .. => match te.k with | .func => some false | _ => none
  | .func .., .nilF => match te.k with | .func => some false | _ => none
  | .nilI, .iface .. => match te.k with | .iface => some false | _ => none
  | .iface .., .nilI => match te.k with | .iface => some false | _ => none
  | _, _ => none
def abinop (T : Tab) (M : Mem) (op : BinOp) (t : TypeId) (x y : AV) : Option AV :=
  match abin op x y with
  | some v => some v
  | none =>
    match T t with
    | some te =>
      match op with
      | .eql => (aeq T te M x y).map .bool
      | .neq => (aeq T te M x y).map fun b => .bool !b
      | _ => none
    | none => none
def aun : UnOp → AV → Option AV
  | .neg, .int k n => some (.int k (k.wrap (0 - n)))
  | .xor, .int k n => some (.int k (bits .xor k (if k.signed then -1 else k.max) n))
  | .not, .bool b => some (.bool !b)
  | _, _ => none
def aconv (T : Tab) (src dst : TypeId) (x : AV) : Option AV :=
  match T src, T dst, x with
  | some _, some { k := .int k, .. }, .int _ n => some (.int k (k.wrap n))
  | some { k := .str, .. }, some { k := .str, .. }, .str s => some (.str s)
  | _, _, _ => none
def apick : AV → AV → AV → Option AV
  | .bool c, a, b => some (bif c then a else b)
  | _, _, _ => none

def alen (T : Tab) (M : Mem) (t : TypeId) (x : AV) : Option AV :=
  match T t, x with
  | some { k := .str, .. }, .str s => some (.int .i64 s.size)
  | some { k := .slice _, .. }, .nilS => some (.int .i64 0)
  | some { k := .slice _, .. }, .row _ n => some (.int .i64 n)
  | some { k := .slice _, .. }, .ref i g _ n => bif M.live i g then some (.int .i64 n) else none
  | _, _ => none
def amax2 : AV → AV → Option AV
  | .int k x, .int _ y => some (.int k (bif decide (y > x) then y else x))
  | _, _ => none
def amin2 : AV → AV → Option AV
  | .int k x, .int _ y => some (.int k (bif decide (y < x) then y else x))
  | _, _ => none
/-- two keys: none where they are of no kind that is known here -/
def akey : AV → AV → Option Bool
  | .int k a, .int k' b => bif decide (k = k') then some (a == b) else none
  | .bool a, .bool b => some (a == b)
  | .str a, .str b => some (a == b)
  | _, _ => none
/-- the entry of a key: where it stands, what it holds, its number -/
def afind (k : AV) : List (AV × AV × Nat) → Nat → Option (Option (Nat × AV × Nat))
  | [], _ => some none
  | (k', v, b) :: r, i =>
    match akey k k' with
    | some true => some (some (i, v, b))
    | some false => afind k r (i + 1)
    | none => none
def kfits : TK → AV → Bool
  | .int _, .int .. | .bool, .bool _ | .str, .str _ => true
  | _, _ => false
def azero (te : TE) : Option AV := bif te.isAgg then some (.agg te.z) else bif te.scalar then te.z.head? else none
def alookup (T : Tab) (M : Mem) (t : TypeId) (m k : AV) (ok : Bool) : Option AV :=
  match T t with
  | some { k := .map kt e, .. } =>
    match T kt, T e with
    | some tk, some te =>
      bif kfits tk.k k then
        match azero te, m with
        | some z, .nilM => some (bif ok then .tup [z, .bool false] else z)
        | some z, .map i =>
          match M.get i with
          | some (.map es _) =>
            match afind k es 0 with
            | some (some (_, v, _)) => some (bif ok then .tup [v, .bool true] else v)
            | some none => some (bif ok then .tup [z, .bool false] else z)
            | none => none
          | _ => none
        | _, _ => none
      else none
    | _, _ => none
  | _ => none
/-- an operation that changes nothing -/
def aread (T : Tab) (ρ : Operand → AV) (M : Mem) : Op → Option AV
  | .move x | .assign x => some (ρ x)
  | .pick c a b => apick (ρ c) (ρ a) (ρ b)
  | .build t parts => abuild T t (parts.toList.map fun p => (p.1, ρ p.2))
  | .load t a => aload T M t (ρ a)
  | .nilCheck x => match ρ x with | .ptr i g o => bif M.live i g then some (.ptr i g o) else none | .rptr cs => some (.rptr cs) | .func f a b => some (.func f a b) | _ => none
  | .binOp op t x y _ => abinop T M op t (ρ x) (ρ y)
  | .unOp op _ x => aun op (ρ x)
  | .convert src dst x => aconv T src dst (ρ x)
  | .makeInterface t x => match T t with | some te => (match te.k with | .iface | .other => none | _ => some (.iface t (ρ x))) | none => none
  | .makeFunc (.func f) first captured => some (.func f (first.toList.map ρ) (captured.toList.map ρ))
  | .slice t x lo hi mx => aslice T M t (ρ x) (lo.map ρ) (hi.map ρ) (mx.map ρ)
  | .fieldAddr t x f => afieldA T M t (ρ x) f
  | .field t x f => afield T t (ρ x) f
  | .indexAddr t x i => aindexA T M t (ρ x) (ρ i)
  | .index t x i => aindex T t (ρ x) (ρ i)
  | .lookup t m k ok => alookup T M t (ρ m) (ρ k) ok
  | .extract x i => aextract (ρ x) i
  | .call { callee := .builtin .len, args, argTypes } => match args.toList, argTypes.toList with | [x], [t] => alen T M t (ρ x) | _, _ => none
  | .call { callee := .builtin .max, args, .. } => match args.toList with | [x, y] => amax2 (ρ x) (ρ y) | _ => none
  | .call { callee := .builtin .min, args, .. } => match args.toList with | [x, y] => amin2 (ρ x) (ρ y) | _ => none
  | _ => none
/-- an operation that makes a block and does nothing else -/
def aalloc (T : Tab) (ρ : Operand → AV) : Op → Option AL
  | .alloc e => match T e with | some te => some ⟨false, e, te.sz, te.z, 0⟩ | none => none
  | .box e x => match T e with | some te => some ⟨false, e, te.sz, vcells (ρ x), 0⟩ | none => none
  | .buildSlice t len parts => abuildS T t len (parts.toList.map fun p => (p.1, ρ p.2))
  | .makeSlice t l c => amakeS T t (ρ l) (ρ c)
  | _ => none
/-- the cells of a slice -/
def scells (M : Mem) (sz : Nat) : AV → Option (List AV × Nat)
  | .nilS => some ([], 0)
  | .row cs n => bif Nat.beq cs.length (n * sz) then some (cs, n) else none
  | .ref i g off n =>
    match M.get i with
    | some (.cells _ _ _ cs) => bif Nat.beq cs.length g && Nat.ble (off + n * sz) g then some ((cs.drop off).take (n * sz), n) else none
    | _ => none
  | _ => none
def aappend (T : Tab) (M : Mem) (ts : List TypeId) (s x : AV) : Option (AV × Mem) :=
  match ts with
  | [t, u] =>
    match T t, T u with
    | some { k := .slice e, .. }, some tu =>
      match T e with
      | some te =>
        bif Nat.blt 0 te.sz && Nat.beq te.z.length te.sz then
          (match tu.k, x with
            | .int _, .int .i64 n => (bif decide (0 ≤ n) && decide (n * te.bytes ≤ 2 ^ 47) && decide (n ≤ 2 ^ 62) then some (reps n.toNat te.z, n.toNat) else none : Option (List AV × Nat))
            | .int _, _ => none
            | _, _ => scells M te.sz x).bind fun p =>
          bif p.1.all AV.cell && Nat.beq p.1.length (p.2 * te.sz) then
            match s with
            | .nilS => bif Nat.beq p.2 0 then some (.nilS, M) else
                bif Nat.ble (p.2 * te.bytes) (2 ^ 47) && Nat.ble p.2 (2 ^ 62) then some (.ref M.next p.1.length 0 p.2, M.add (.cells e te.sz false p.1)) else none
            | .ref i g 0 len =>
              (match M.get i with
              | some (.cells e' sz' false cs) =>
                bif Nat.beq cs.length g && Nat.beq e e' && Nat.beq sz' te.sz && Nat.ble (len * te.sz) g && Nat.ble ((len + p.2) * te.bytes) (2 ^ 47) && Nat.ble (len + p.2) (2 ^ 62) then
                  bif Nat.ble ((len + p.2) * te.sz) g then some (.ref i g 0 (len + p.2), M.set i (.cells e te.sz false (splice cs (len * te.sz) p.1)))
                  else some (.ref i ((len + p.2) * te.sz) 0 (len + p.2), M.set i (.cells e te.sz false (cs.take (len * te.sz) ++ p.1)))
                else none
              | _ => none)
            | _ => none
          else none
        else none
      | none => none
    | _, _ => none
  | _ => none
def setVal (es : List (AV × AV × Nat)) (i : Nat) (k v : AV) : List (AV × AV × Nat) :=
  match es[i]? with
  | some (_, _, b) => es.set i (k, v, b)
  | none => es
def mapKey (T : Tab) (t : TypeId) (k : AV) : Bool :=
  match T t with
  | some { k := .map kt _, .. } => match T kt with | some tk => kfits tk.k k | none => false
  | _ => false
def amapUpd (T : Tab) (M : Mem) (t : TypeId) (m k v : AV) : Option Mem :=
  match m with
  | .map i =>
    match M.get i with
    | some (.map es c) =>
      bif mapKey T t k then
        match afind k es 0 with
        | some (some (j, _, _)) => some (M.set i (.map (setVal es j k v) c))
        | some none => some (M.set i (.map (es ++ [(k, v, c)]) (c + 1)))
        | none => none
      else none
    | _ => none
  | _ => none
def amapEntry (T : Tab) (M : Mem) (t : TypeId) (m k : AV) : Option (AV × Mem) :=
  match m, T t with
  | .map i, some { k := .map _ e, .. } =>
    match M.get i, T e with
    | some (.map es c), some te =>
      bif mapKey T t k then
        match afind k es 0, azero te with
        | some (some (_, v, b)), _ => some (.tup [v, .int .i64 b], M)
        | some none, some z => some (.tup [z, .int .i64 c], M.set i (.map (es ++ [(k, z, c)]) (c + 1)))
        | _, _ => none
      else none
    | _, _ => none
  | _, _ => none
def setBorn (b : Int) (v : AV) : List (AV × AV × Nat) → Option (List (AV × AV × Nat))
  | [] => none
  | (k, u, c) :: r => bif decide ((c : Int) = b) then some ((k, v, c) :: r) else (setBorn b v r).map ((k, u, c) :: ·)
def aentryStore (M : Mem) (m b v : AV) : Option Mem :=
  match m, b with
  | .map i, .int .i64 n =>
    match M.get i with
    | some (.map es c) => (setBorn n v es).map fun es' => M.set i (.map es' c)
    | _ => none
  | _, _ => none
def adelete (T : Tab) (M : Mem) (t : TypeId) (m k : AV) : Option Mem :=
  match m with
  | .map i =>
    match M.get i with
    | some (.map es c) =>
      bif mapKey T t k then
        match afind k es 0 with
        | some (some (j, _, _)) => some (M.set i (.map (es.eraseIdx j) c))
        | some none => some (M.set i (.map es c))
        | none => none
      else none
    | _ => none
  | _ => none
/-- an operation that changes memory and calls nothing -/
def aeff (T : Tab) (ρ : Operand → AV) (M : Mem) : Op → Option (AV × Mem)
  | .store t a v => (astore T M t (ρ a) (ρ v)).map (.undef, ·)
  | .call { callee := .builtin .append, args, argTypes } => match args.toList with | [s, x] => aappend T M argTypes.toList (ρ s) (ρ x) | _ => none
  | .call { callee := .builtin .delete, args, argTypes } => match args.toList, argTypes.toList with | [m, k], [t, _] => (adelete T M t (ρ m) (ρ k)).map (nothing, ·) | _, _ => none
  | .makeMap _ none => some (.map M.next, M.add (.map [] 0))
  | .mapUpdate t m k v | .insert t m k v => (amapUpd T M t (ρ m) (ρ k) (ρ v)).map (nothing, ·)
  | .mapEntry t m k => amapEntry T M t (ρ m) (ρ k)
  | .entryStore _ m b v => (aentryStore M (ρ m) (ρ b) (ρ v)).map (nothing, ·)
  | _ => none
end Go.Abs
