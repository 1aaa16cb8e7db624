/- Part of the proof that the statement named in the last file holds: lemmas of the prover's own. No conditions. -/
import Derived.Test.YtmidamdjpabpbaaV18
import Derived.KernelRfl
namespace Go.V
open Go

/-- A symbolic value. -/
inductive SV where
  | raw (v : Value)
  | kb (b : Bool)
  | ptr (k off : Nat)
  | ptx (k off : Nat)
  | sl (k off len cap : Nat)
  | mp (k : Nat)
  | agg (l : List SV)
  | tup (l : List SV)
  | fn (f : FuncId) (caps : List SV)
  | ifc (t : TypeId) (v : SV)
  deriving Inhabited

/-- A symbolic block. -/
inductive SO where
  | cells (l : List SV) (e : TypeId)
  | arr (xs : List Value) (e : TypeId)
  | ro (xs : List Value) (e : TypeId)
  | map (es : List MapEntry) (clock : Nat)
  | iter (m : Option Nat) (since : Nat) (seen : List Nat) (stepped : Nat)
  | siter (s : ByteArray) (pos : Nat)
  | ghost (h : Nat → Option Obj)
  | gone
  deriving Inhabited

inductive Opd where
  | t (i : Nat)
  | c (v : SV)
  deriving Inhabited

inductive Cv where
  | int (k : IntKind)
  | s2b (e : TypeId)
  | b2s
  | same
  deriving Inhabited

inductive LK where
  | str | sl | mp
  deriving Inhabited

/-- Classes of cells that '==' compares. -/
inductive FC where
  | i | s | b
  deriving Inhabited

/-- What kind of type '==' is at, where that matters. -/
inductive BK where
  | no | b | p | agg (cl : List FC) | ifn | sl | mp
  deriving Inhabited

inductive VOp where
  | mov (x : Opd)
  | pick (c a b : Opd)
  | new (e : TypeId) (zs : List Value)
  | box (e : TypeId) (x : Opd)
  | build (zs : List Value) (parts : List (Nat × Nat × Opd))
  | bslice (e : TypeId) (n : Nat) (zs : List Value) (parts : List (Nat × Nat × Opd))
  | load (n : Option Nat) (x : Opd)
  | store (n : Option Nat) (x v : Opd)
  | nilck (x : Opd)
  | bin (op : BinOp) (k : BK) (x y : Opd)
  | un (op : UnOp) (x : Opd)
  | conv (c : Cv) (x : Opd)
  | mkif (t : TypeId) (x : Opd)
  | mkfn (f : FuncId) (caps : List Opd)
  | mkmap
  | mkslice (e : TypeId) (zs : List Value) (bytes : Nat) (l c : Opd)
  | slice (sz : Option Nat) (x : Opd) (lo hi : Option Opd)
  | faddr (off : Nat) (x : Opd)
  | field (off : Nat) (n : Option Nat) (x : Opd)
  | iaddr (sz : Nat) (len : Option Nat) (x i : Opd)
  | sindex (x i : Opd)
  | aindex (len sz : Nat) (agg : Bool) (x i : Opd)
  | lookup (t : TypeId) (ok : Bool) (m k : Opd)
  | mapup (t : TypeId) (m k v : Opd)
  | delete (t : TypeId) (m k : Opd)
  | range (str : Bool) (m : Opd)
  | next (str : Bool) (it : Opd)
  | entry (it : Opd)
  | tassert (t : TypeId) (ok : Bool) (z : Value) (x : Opd)
  | extr (x : Opd) (i : Nat)
  | call (f : FuncId) (args : List Opd)
  | callv (f : Opd) (args : List Opd)
  | invoke (m : String) (r : Opd) (args : List Opd)
  | len (k : LK) (x : Opd)
  | cap (x : Opd)
  | append (e : TypeId) (sz bytes : Nat) (zs : List Value) (x y : Opd)
  | min (x y : Opd)
  | max (x y : Opd)
  | copy (sz : Nat) (x y : Opd)
  | other
  deriving Inhabited

structure VIns where
  dst : Option Nat
  guard : Option (Nat × Bool)
  op : VOp
  deriving Inhabited

/-- A plan for a region that draws: which operation is taken next; 'br': whichever of several that are ready. -/
inductive Pl where
  | done
  | fl (i : Nat) (p : Pl)
  | fr (i : Nat) (p : Pl)
  | st (i : Nat) (rs : List Nat) (p : Pl)
  | br (p q : Pl)
  deriving Inhabited

inductive VCode where
  | skip
  | reg (ops : List VIns)
  | draw (ops : List VIns) (plan : Pl)
  | seq (a b : VCode)
  | cond (c : Opd) (thn els : VCode)
  | block (id : Nat) (body : VCode)
  | loop (body : VCode)
  | exit (id : Nat)
  | ret
  | bad
  deriving Inhabited

/-- Operations that leave the world as it is. -/
def still : VOp → Bool
  | .mov _ | .pick .. | .build .. | .load .. | .nilck _ | .bin .. | .un .. | .mkif .. | .mkfn .. | .slice .. | .faddr .. | .field .. | .iaddr .. | .sindex .. | .aindex .. | .lookup .. | .extr .. | .len .. | .cap _ | .min .. | .max .. | .tassert .. | .entry _ => true
  | .conv (.s2b _) _ => false
  | .conv .. => true
  | _ => false
/-- Those of them that do not even read it. -/
def blind : VOp → Bool
  | .mov _ | .pick .. | .un .. | .mkif .. | .mkfn .. | .slice .. | .faddr .. | .field .. | .sindex .. | .extr .. | .cap _ | .min .. | .max .. | .tassert .. => true
  | .conv (.int _) _ | .conv .same _ => true
  | .len .mp _ => false
  | .len .. => true
  | .bin _ .sl _ _ | .bin _ .mp _ _ => false
  | .bin .. => true
  | _ => false

/-! ### Out of the model's code -/
section compile
variable (P : Program)

def isAggT (t : TypeId) : Option Bool := (P.underlying t).map fun | .struct _ => true | .array _ _ => true | _ => false
def sizeT (t : TypeId) : Option Nat := (P.info? t).map (·.size)
def bytesT (t : TypeId) : Option Nat := (P.info? t).map (·.bytes)
def zeroT (t : TypeId) : Option Value := (P.info? t).bind (·.zero)
def zeroCellsT (t : TypeId) : Option (List Value) := (zeroT P t).map (·.cells.toList)
/-- 'none': one cell; 'some n': an aggregate of n cells. -/
def shapeT (t : TypeId) : Option (Option Nat) :=
  match isAggT P t, sizeT P t with
  | some true, some (n + 1) => some (some (n + 1))
  | some false, some 1 => some none
  | _, _ => none
/-- A function that is entered at a call. -/
def enters (f : FuncId) : Bool := match P.funcs[f]? with
  | some fn => !(fn.name == "runtime.NumGoroutine") && fn.body.isSome
  | none => false
def lenKind (t : TypeId) : Option LK := match P.underlying t with
  | some .string => some .str
  | some (.slice _) => some .sl
  | some (.map _ _) => some .mp
  | _ => none

def svConst : Value → SV
  | .bool b => .kb b
  | .agg cs => .agg (cs.toList.map .raw)
  | .tuple cs => .tup (cs.toList.map .raw)
  | .func (.func f) fs cs => if fs.size = 0 ∧ cs.size = 0 then .fn f [] else .raw (.func (.func f) fs cs)
  | v => .raw v

def cOpd : Operand → Option Opd
  | .tmp t => some (.t t)
  | .const v => some (.c (svConst v))
  | .func f => some (.c (.fn f []))
  | .global _ => none

def cOpds (l : Array Operand) : Option (List Opd) := l.toList.mapM cOpd

def cParts (fields : List Nat × Nat) : List (Nat × Operand) → Option (List (Nat × Nat × Opd)) := fun l => l.mapM fun (i, x) => do
  let off ← fields.1[i]?
  pure (off, fields.2, ← cOpd x)

def partsStruct (fields : Array Field) (l : List (Nat × Operand)) : Option (List (Nat × Nat × Opd)) := l.mapM fun (i, x) => do
  let f ← fields[i]?
  pure (f.offset, ← sizeT P f.type, ← cOpd x)

def partsRow (size : Nat) (l : List (Nat × Operand)) : Option (List (Nat × Nat × Opd)) := l.mapM fun (i, x) => do
  pure (i * size, size, ← cOpd x)

def fieldsCls (c : TypeId → Option (List FC)) : Nat → List Field → Option (List FC)
  | _, [] => some []
  | off, f :: r =>
    match c f.type, sizeT P f.type with
    | some cf, some sz => if f.name ≠ "_" ∧ f.offset = off ∧ cf.length = sz then
        match fieldsCls c (off + sz) r with
        | some cr => some (cf ++ cr)
        | none => none
      else none
    | _, _ => none
def clsT : Nat → TypeId → Option (List FC)
  | 0, _ => none
  | d + 1, t =>
    match P.underlying t with
    | some (.int _) => some [.i]
    | some .string => some [.s]
    | some .bool => some [.b]
    | some (.array n e) => match clsT d e, sizeT P e with
      | some c, some sz => if c.length = sz then some (List.flatten (List.replicate n c)) else none
      | _, _ => none
    | some (.struct fs) => if P.stoodInHeld t then none else fieldsCls P (clsT d) 0 fs.toList
    | _ => none
def binKind (op : BinOp) (t : TypeId) (x y : Operand) : BK :=
  if op = .eql ∨ op = .neq then
    match P.underlying t with
    | some .bool => .b
    | some (.pointer e) => match sizeT P e with
      | some (_ + 1) => .p
      | _ => .no
    | some (.slice _) => .sl
    | some (.map _ _) => .mp
    | some (.interface _) => match x, y with
      | .const .nilIface, _ => .ifn
      | _, .const .nilIface => .ifn
      | _, _ => .no
    | some (.struct _) | some (.array _ _) => if P.eqGuardType P.depth t then .no else match clsT P 9999 t with
      | some cl => .agg cl
      | none => .no
    | _ => .no
  else .no

def cOp (o : Oper) : Option VOp :=
  match o.op with
  | .move x | .assign x => do pure (.mov (← cOpd x))
  | .pick c a b => do pure (.pick (← cOpd c) (← cOpd a) (← cOpd b))
  | .alloc e => do pure (.new e (← zeroCellsT P e))
  | .box e x => do pure (.box e (← cOpd x))
  | .build t parts =>
    match P.underlying t with
    | some (.struct fs) => if fs.toList.all (fun f => (sizeT P f.type).isSome) then do pure (.build (← zeroCellsT P t) (← partsStruct P fs parts.toList)) else none
    | some (.array _ e) => do pure (.build (← zeroCellsT P t) (← partsRow (← sizeT P e) parts.toList))
    | _ => none
  | .buildSlice t n parts =>
    match P.underlying t with
    | some (.slice e) => do
      let sz ← sizeT P e
      if n * sz > 1000 ∨ (zeroT P e).isNone then none else
      let z ← zeroCellsT P e
      pure (.bslice e n ((List.range (n * sz)).map fun i => z[i % z.length]!) (← partsRow sz parts.toList))
    | _ => none
  | .load t x => do pure (.load (← shapeT P t) (← cOpd x))
  | .store t x v => do pure (.store (← shapeT P t) (← cOpd x) (← cOpd v))
  | .nilCheck x => do pure (.nilck (← cOpd x))
  | .binOp op t x y _ => do pure (.bin op (binKind P op t x y) (← cOpd x) (← cOpd y))
  | .unOp op _ x => do pure (.un op (← cOpd x))
  | .convert src dst x =>
    match P.underlying src, P.underlying dst with
    | some (.int _), some (.int k) => do pure (.conv (.int k) (← cOpd x))
    | some .string, some .string => do pure (.conv .same (← cOpd x))
    | some .string, some (.slice e) => match P.underlying e with
      | some (.int .u8) => do pure (.conv (.s2b e) (← cOpd x))
      | _ => none
    | some (.slice e), some .string => match P.underlying e with
      | some (.int .u8) => do pure (.conv .b2s (← cOpd x))
      | _ => none
    | _, _ => none
  | .makeInterface t x =>
    match P.underlying t with
    | some (.interface _) => none
    | some _ => do pure (.mkif t (← cOpd x))
    | none => none
  | .makeFunc (.func f) first caps => if first.size = 0 then do pure (.mkfn f (← cOpds caps)) else none
  | .makeMap _ none => some .mkmap
  | .makeSlice t l c =>
    match P.underlying t with
    | some (.slice e) => do pure (.mkslice e (← zeroCellsT P e) (← bytesT P e) (← cOpd l) (← cOpd c))
    | _ => none
  | .slice t x lo hi none =>
    match P.underlying t with
    | some .string => do pure (.slice none (← cOpd x) (← lo.mapM cOpd) (← hi.mapM cOpd))
    | some (.slice e) => do pure (.slice (some (← sizeT P e)) (← cOpd x) (← lo.mapM cOpd) (← hi.mapM cOpd))
    | _ => none
  | .fieldAddr t x f =>
    match P.underlying t with
    | some (.struct fs) => do
      let fd ← fs[f]?
      if (← sizeT P fd.type) = 0 then none else pure (.faddr fd.offset (← cOpd x))
    | _ => none
  | .field t x f =>
    match P.underlying t with
    | some (.struct fs) => do
      let fd ← fs[f]?
      pure (.field fd.offset (← shapeT P fd.type) (← cOpd x))
    | _ => none
  | .indexAddr t x i =>
    match P.underlying t with
    | some (.array n e) => do if n ≤ 1 ∨ sizeT P e = some 0 then none else pure (.iaddr (← sizeT P e) (some n) (← cOpd x) (← cOpd i))
    | some (.slice e) => do if sizeT P e = some 0 then none else pure (.iaddr (← sizeT P e) none (← cOpd x) (← cOpd i))
    | _ => none
  | .index t x i =>
    match P.underlying t with
    | some .string => do pure (.sindex (← cOpd x) (← cOpd i))
    | some (.array n e) => match shapeT P e with
      | some none => do pure (.aindex n 1 false (← cOpd x) (← cOpd i))
      | some (some m) => do pure (.aindex n m true (← cOpd x) (← cOpd i))
      | none => none
    | _ => none
  | .lookup t m k ok =>
    match P.underlying t with
    | some (.map _ _) => do pure (.lookup t ok (← cOpd m) (← cOpd k))
    | _ => none
  | .mapUpdate t m k v | .insert t m k v => do pure (.mapup t (← cOpd m) (← cOpd k) (← cOpd v))
  | .range t m =>
    match P.underlying t with
    | some .string => do pure (.range true (← cOpd m))
    | some (.map _ _) => do pure (.range false (← cOpd m))
    | _ => none
  | .next it s => do pure (.next s (← cOpd it))
  | .entry it => do pure (.entry (← cOpd it))
  | .typeAssert x _ t ok =>
    match P.underlying t with
    | some (.interface _) => none
    | some _ => do pure (.tassert t ok (← zeroT P t) (← cOpd x))
    | _ => none
  | .extract x i => do pure (.extr (← cOpd x) i)
  | .call { callee := .value (.func f), args, .. } => if enters P f then do pure (.call f (← cOpds args)) else none
  | .call { callee := .value x, args, .. } => do pure (.callv (← cOpd x) (← cOpds args))
  | .call { callee := .invoke r m, args, .. } => do pure (.invoke m (← cOpd r) (← cOpds args))
  | .call { callee := .builtin b, args, argTypes } =>
    match b, args.toList, argTypes.toList with
    | .len, [x], [t] => do pure (.len (← lenKind P t) (← cOpd x))
    | .cap, [x], [t] => match lenKind P t with
      | some .sl => do pure (.cap (← cOpd x))
      | _ => none
    | .append, [x, y], t :: u :: _ => match P.underlying t, lenKind P u with
      | some (.slice e), some .sl | some (.slice e), some .str => do
        let sz ← sizeT P e
        let zs ← zeroCellsT P e
        let by' ← bytesT P e
        if sz = 0 ∨ zs.length ≠ sz ∨ by' = 0 then none else pure (.append e sz by' zs (← cOpd x) (← cOpd y))
      | _, _ => none
    | .min, [x, y], _ => do pure (.min (← cOpd x) (← cOpd y))
    | .max, [x, y], _ => do pure (.max (← cOpd x) (← cOpd y))
    | .delete, [m, k], t :: _ => do pure (.delete t (← cOpd m) (← cOpd k))
    | .copy, [x, y], t :: _ => match P.underlying t with
      | some (.slice e) => do pure (.copy (← sizeT P e) (← cOpd x) (← cOpd y))
      | _ => none
    | _, _, _ => none
  | _ => none

def cIns (ops : Array Oper) (o : Oper) : Option VIns := do
  let op ← cOp P o
  match o.guard with
  | none => pure ⟨o.dst, none, op⟩
  | some (j, w) => do pure ⟨o.dst, some (← (ops[j]?).bind (·.dst), w), op⟩

/-- Is the plan one? -/
def covers : Pl → Nat → Bool
  | .br p q, i => covers p i || covers q i
  | .st i _ _, j => i == j
  | _, _ => false
def Pl.depth : Pl → Nat
  | .done => 0
  | .fl _ p | .fr _ p | .st _ _ p => p.depth + 1
  | .br p q => Nat.max p.depth q.depth
def planOK (ops : Array Oper) (l : List VIns) : Bool → Pl → Array Bool → List Nat → Bool
  | b, .done, L, _ => !b && (Region.ready .any ops L).isEmpty
  | b, .fl i p, L, pd => !b && (Region.ready .any ops L).contains i && Region.free .any ops L i &&
    (match l[i]? with | some x => blind x.op | none => false) && planOK ops l false p (L.setIfInBounds i true) pd
  | b, .fr i p, L, pd => !b && (Region.ready .any ops L).contains i && Region.free .any ops L i &&
    (match l[i]? with | some x => still x.op | none => false) &&
    (match ops[i]? with | some o => (match o.dst with | some d => !(o.looksAt ops).contains d | none => false) | none => false) && planOK ops l false p (L.setIfInBounds i true) (i :: pd)
  | b, .st i rs p, L, pd => (b || Region.ready .any ops L == [i]) && pd.all (fun k => rs.contains k || (ancs .any ops i).contains k) &&
    planOK ops l false p (L.setIfInBounds i true) (pd.filter fun k => !(ancs .any ops i).contains k)
  | b, .br p q, L, pd => (b || ((Region.ready .any ops L).all (covers (.br p q)) && !(Region.ready .any ops L).isEmpty)) && planOK ops l true p L pd && planOK ops l true q L pd
def planFits (ops : Array Oper) (l : List VIns) (p : Pl) : Bool :=
  Region.noSelect ops && planOK ops l false p (Array.replicate ops.size false) [] && Nat.ble p.depth ops.size

def cCode (plans : List (Nat × Pl)) : Code → Option VCode
  | .skip => some .skip
  | .region id ops draw => do
    let l ← ops.toList.mapM (cIns P ops)
    if draw then do
      let p ← (plans.find? (·.1 == id)).map (·.2)
      bif planFits ops l p then pure (.draw l p) else none
    else pure (.reg l)
  | .seq a b => do pure (.seq (← cCode plans a) (← cCode plans b))
  | .cond c a b => do pure (.cond (← cOpd c) (← cCode plans a) (← cCode plans b))
  | .block id b => do pure (.block id (← cCode plans b))
  | .loop b => do pure (.loop (← cCode plans b))
  | .exit id => some (.exit id)
  | .ret => some .ret
  | _ => none

end compile
end Go.V
