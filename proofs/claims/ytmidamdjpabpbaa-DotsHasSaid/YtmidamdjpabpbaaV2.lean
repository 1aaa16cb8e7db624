/- Part of the proof that the statement named in the last file holds: lemmas of the prover's own. No conditions. -/
import Derived.Test.YtmidamdjpabpbaaV1
namespace Go.V
open Go

/-! ### What symbolic values stand for -/
abbrev Rho := Nat → Option Nat

mutual
def val (ρ : Rho) : SV → Value
  | .raw v => v
  | .kb b => .bool b
  | .ptr k o => .pointer (some ⟨(ρ k).getD 0, o, none⟩)
  | .ptx k o => .pointer (some ⟨(ρ k).getD 0, o, none⟩)
  | .sl k o n c => .slice ((ρ k).map fun b => ⟨b, o, none⟩) n c
  | .mp k => .map (ρ k)
  | .agg l => .agg (valL ρ l).toArray
  | .tup l => .tuple (valL ρ l).toArray
  | .fn f caps => .func (.func f) #[] (valL ρ caps).toArray
  | .ifc t v => .iface t (val ρ v)
def valL (ρ : Rho) : List SV → List Value
  | [] => []
  | v :: l => val ρ v :: valL ρ l
end

mutual
/-- Every block that is named stands ahead of n. -/
def below (n : Nat) : SV → Bool
  | .raw _ | .kb _ => true
  | .ptr k _ | .ptx k _ | .sl k _ _ _ | .mp k => k < n
  | .agg l | .tup l | .fn _ l => belowL n l
  | .ifc _ v => below n v
def belowL (n : Nat) : List SV → Bool
  | [] => true
  | v :: l => below n v && belowL n l
end

mutual
def ren (σ : Nat → Nat) : SV → SV
  | .raw v => .raw v
  | .kb b => .kb b
  | .ptr k o => .ptr (σ k) o
  | .ptx k o => .ptx (σ k) o
  | .sl k o n c => .sl (σ k) o n c
  | .mp k => .mp (σ k)
  | .agg l => .agg (renL σ l)
  | .tup l => .tup (renL σ l)
  | .fn f caps => .fn f (renL σ caps)
  | .ifc t v => .ifc t (ren σ v)
def renL (σ : Nat → Nat) : List SV → List SV
  | [] => []
  | v :: l => ren σ v :: renL σ l
end

def SO.ren (σ : Nat → Nat) : SO → SO
  | .cells l e => .cells (renL σ l) e
  | .iter (some m) s seen st => .iter (some (σ m)) s seen st
  | o => o

def SO.owned : SO → Bool
  | .cells .. | .arr .. | .map .. | .iter .. | .siter .. => true
  | _ => false
def SO.isRo : SO → Bool
  | .ro .. => true
  | _ => false

def entryOK (ρ : Rho) (w : World) (k : Nat) : SO → Prop
  | .cells l e => ∃ b, ρ k = some b ∧ w.heap[b]? = some (.cells (valL ρ l).toArray e (0, 0))
  | .arr xs e => (ρ k = none ∧ xs = []) ∨ ∃ b fr, ρ k = some b ∧ w.heap[b]? = some (.cells xs.toArray e fr) ∧ (fr.1 = fr.2 ∨ xs.length ≤ fr.1)
  | .ro xs e => (ρ k = none ∧ xs = []) ∨ ∃ b fr, ρ k = some b ∧ w.heap[b]? = some (.cells xs.toArray e fr)
  | .map es c => ∃ b, ρ k = some b ∧ w.heap[b]? = some (.map es.toArray c)
  | .iter m s seen st => ∃ b, ρ k = some b ∧ w.heap[b]? = some (.mapIter (m.bind ρ) s seen.toArray st)
  | .siter s p => ∃ b, ρ k = some b ∧ w.heap[b]? = some (.stringIter s p)
  | .ghost h => ∀ b o, h b = some o → w.heap[b]? = some o
  | .gone => True

/-! ### Operations on symbolic states; those that end in K hand on what is written out -/
abbrev un : SV := .raw (.tuple #[])

def ev (t : List SV) : Opd → SV
  | .t i => t.getD i un
  | .c v => v
def evL (t : List SV) : List Opd → List SV
  | [] => []
  | x :: l => ev t x :: evL t l
def put (t : List SV) : Option Nat → SV → List SV
  | none, _ => t
  | some d, v => t.set d v
def obj (H : List SO) (k : Nat) : SO := H.getD k .gone

def getK : List SV → Nat → (SV → Prop) → Prop
  | [], _, K => K un
  | x :: _, 0, K => K x
  | _ :: l, i + 1, K => getK l i K
def evK (t : List SV) : Opd → (SV → Prop) → Prop
  | .t i, K => getK t i K
  | .c v, K => K v
def evLK (t : List SV) : List Opd → (List SV → Prop) → Prop
  | [], K => K []
  | x :: l, K => evK t x fun v => evLK t l fun vs => K (v :: vs)
def setK : List SV → Nat → SV → (List SV → Prop) → Prop
  | [], _, _, K => K []
  | _ :: l, 0, v, K => K (v :: l)
  | x :: l, i + 1, v, K => setK l i v fun l' => K (x :: l')
def putK (t : List SV) : Option Nat → SV → (List SV → Prop) → Prop
  | none, _, K => K t
  | some d, v, K => setK t d v K
def objK : List SO → Nat → (SO → Prop) → Prop
  | [], _, K => K .gone
  | x :: _, 0, K => K x
  | _ :: l, i + 1, K => objK l i K
def setHK : List SO → Nat → SO → (List SO → Prop) → Prop
  | [], _, _, K => K []
  | _ :: l, 0, v, K => K (v :: l)
  | x :: l, i + 1, v, K => setHK l i v fun l' => K (x :: l')
def natK (n : Nat) (K : Nat → Prop) : Prop :=
  match n with
  | 0 => K 0 | 1 => K 1 | 2 => K 2 | 3 => K 3 | 4 => K 4 | 5 => K 5 | 6 => K 6 | 7 => K 7 | 8 => K 8 | 9 => K 9
  | 10 => K 10 | 11 => K 11 | 12 => K 12 | 13 => K 13 | 14 => K 14 | 15 => K 15 | 16 => K 16 | 17 => K 17 | 18 => K 18 | 19 => K 19
  | n => K n
/-- A new block: its number, and the list with it. -/
def newHK (H : List SO) (o : SO) (K : Nat → List SO → Prop) : Prop :=
  natK H.length fun n => (go H fun H' => K n H')
where go : List SO → (List SO → Prop) → Prop
  | [], K => K [o]
  | x :: l, K => go l fun l' => K (x :: l')
mutual
def fK : SV → (SV → Prop) → Prop
  | .raw v, K => K (.raw v)
  | .kb b, K => K (.kb b)
  | .ptr k o, K => natK k fun k => K (.ptr k o)
  | .ptx k o, K => natK k fun k => K (.ptx k o)
  | .sl k o n c, K => natK k fun k => K (.sl k o n c)
  | .mp k, K => natK k fun k => K (.mp k)
  | .agg l, K => fLK l fun l => K (.agg l)
  | .tup l, K => fLK l fun l => K (.tup l)
  | .fn f l, K => fLK l fun l => K (.fn f l)
  | .ifc t v, K => fK v fun v => K (.ifc t v)
def fLK : List SV → (List SV → Prop) → Prop
  | [], K => K []
  | v :: l, K => fK v fun v => fLK l fun l => K (v :: l)
end
def fOK : SO → (SO → Prop) → Prop
  | .cells l e, K => fLK l fun l => K (.cells l e)
  | .iter (some m) s seen st, K => natK m fun m => K (.iter (some m) s seen st)
  | o, K => K o
def fHK : List SO → (List SO → Prop) → Prop
  | [], K => K []
  | o :: l, K => fOK o fun o => fHK l fun l => K (o :: l)

/-- Cells [o, o + n) of a written list. -/
def cut {α : Type} : List α → Nat → Nat → Option (List α)
  | _, _, 0 => some []
  | [], _, _ + 1 => none
  | _ :: l, o + 1, n + 1 => cut l o (n + 1)
  | x :: l, 0, n + 1 => match cut l 0 n with
    | some l' => some (x :: l')
    | none => none
/-- The written list with ys at o. -/
def paste {α : Type} : List α → Nat → List α → Option (List α)
  | l, 0, [] => some l
  | [], 0, _ :: _ => none
  | _ :: l, 0, y :: ys => match paste l 0 ys with
    | some l' => some (y :: l')
    | none => none
  | [], _ + 1, _ => none
  | x :: l, o + 1, ys => match paste l o ys with
    | some l' => some (x :: l')
    | none => none

/-- May it lie in one cell? -/
def one : SV → Bool
  | .raw v => match v with | .agg _ | .tuple _ => false | _ => true
  | .agg _ | .tup _ => false
  | _ => true
def oneL : List SV → Bool
  | [] => true
  | v :: l => one v && oneL l

mutual
/-- Without blocks: the value itself. -/
def plain : SV → Option Value
  | .raw v => some v
  | .kb b => some (.bool b)
  | .agg l => match plainL l with | some vs => some (.agg vs.toArray) | none => none
  | .tup l => match plainL l with | some vs => some (.tuple vs.toArray) | none => none
  | .ifc t v => match plain v with | some x => some (.iface t x) | none => none
  | _ => none
def plainL : List SV → Option (List Value)
  | [] => some []
  | v :: l => match plain v, plainL l with
    | some x, some xs => some (x :: xs)
    | _, _ => none
end

/-- A part's cells. -/
def partCells : SV → Option (List SV)
  | .agg l => some l
  | v => bif one v then some [v] else none
def pasteK (t : List SV) : List SV → List (Nat × Nat × Opd) → (List SV → Prop) → Prop
  | l, [], K => K l
  | l, (off, n, x) :: r, K => evK t x fun v => match partCells v with
      | some ys => bif ys.length == n then match paste l off ys with
        | some l' => pasteK t l' r K
        | none => False
        else False
      | none => False

def asB : SV → Option Bool
  | .kb b => some b
  | .raw (.bool b) => some b
  | _ => none

/-- '==' cell by cell. -/
def eqOne : FC → SV → SV → Option Bool
  | .i, .raw (.int k a), .raw (.int k' b) => bif (match k, k' with | .i8, .i8 | .i16, .i16 | .i32, .i32 | .i64, .i64 | .u8, .u8 | .u16, .u16 | .u32, .u32 | .u64, .u64 => true | _, _ => false) then some (decide (a = b)) else none
  | .s, .raw (.string a), .raw (.string b) => some (a == b)
  | .b, .raw (.bool a), .raw (.bool b) => some (a == b)
  | .b, .kb a, .kb b => some (a == b)
  | .b, .kb a, .raw (.bool b) => some (a == b)
  | .b, .raw (.bool a), .kb b => some (a == b)
  | _, _, _ => none
def eqCells : List FC → List SV → List SV → Option Bool
  | [], [], [] => some true
  | [c], [x], [y] => eqOne c x y
  | c :: cl, x :: l, y :: m => match eqOne c x y, eqCells cl l m with
    | some a, some b => some (a && b)
    | _, _ => none
  | _, _, _ => none

/-- What the model's operations on maps come to, on the entries alone. -/
def LookupIs (P : Program) (t : TypeId) (es : List MapEntry) (k v : Value) (there : Bool) : Prop :=
  ∀ (w : World) (b c : Nat) (ok : Bool), w.heap[b]? = some (.map es.toArray c) →
    (Instr.lookup t (.map (some b)) k ok).run P w = .ok (if ok then .tuple #[v, .bool there] else v) w
def UpdateIs (P : Program) (t : TypeId) (es : List MapEntry) (c : Nat) (k v : Value) (es' : List MapEntry) (c' : Nat) : Prop :=
  ∀ (w : World) (b : Nat), w.heap[b]? = some (.map es.toArray c) →
    (Instr.mapUpdate t (.map (some b)) k v).run P w = .ok () { w with heap := w.heap.setIfInBounds b (.map es'.toArray c') }
def DeleteIs (P : Program) (t : TypeId) (es : List MapEntry) (k : Value) (es' : List MapEntry) : Prop :=
  ∀ (w : World) (b c : Nat), w.heap[b]? = some (.map es.toArray c) →
    (Builtin.delete_ #[t, 0] 0 #[.map (some b), k]).run P w = .ok (.tuple #[]) { w with heap := w.heap.setIfInBounds b (.map es'.toArray c) }

/-- What blocks name stands ahead of n. -/
def okH (n : Nat) : List SO → Bool
  | [] => true
  | .cells l _ :: r => belowL n l && okH n r
  | .iter (some m) _ _ _ :: r => decide (m < n) && okH n r
  | _ :: r => okH n r

/-! ### Contracts -/
/-- The frame: blocks that stay as they are, and what lies outside the heap. -/
structure Fr where
  f : Nat → Option Obj
  os : Os
  tape : Nat → Question → Nat
  out : Array (Nat × ByteArray)
  dr : Nat
/-- A world's heap is X now; the rest as in w. -/
def HeapIs (w w' : World) (X : Array Obj) : Prop := w'.heap = X ∧ w'.os = w.os ∧ w'.tape = w.tape ∧ w'.output = w.output ∧ w.drawn ≤ w'.drawn

structure St (ρ : Rho) (H : List SO) (g : Fr) (w : World) : Prop where
  ent : ∀ (k : Nat) so, H[k]? = some so → entryOK ρ w k so
  dis : ∀ (i j : Nat) si sj b, i ≠ j → H[i]? = some si → H[j]? = some sj → si.owned = true → (sj.owned = true ∨ sj.isRo = true) → ρ i = some b → ρ j ≠ some b
  gho : ∀ (i j : Nat) si h b, H[i]? = some si → si.owned = true → H[j]? = some (SO.ghost h) → ρ i = some b → h b = none
  env : w.os = g.os ∧ w.tape = g.tape ∧ w.output = g.out ∧ g.dr ≤ w.drawn
  frm : ∀ b o, g.f b = some o → w.heap[b]? = some o
  frd : ∀ (i : Nat) si b, H[i]? = some si → si.owned = true → ρ i = some b → g.f b = none
  scp : ∀ (k : Nat) l e, H[k]? = some (SO.cells l e) → belowL H.length l = true
  sci : ∀ (k : Nat) m s seen st, H[k]? = some (SO.iter (some m) s seen st) → m < H.length

def Ctr (P : Program) (f : FuncId) (args : List SV) (H : List SO) (Post : SV → List SO → Prop) : Prop :=
  ∀ ρ g w, St ρ H g w → belowL H.length args = true →
    Calls P f (valL ρ args).toArray w fun e w' => ∃ ρ' v H', e = .returned (val ρ' v) ∧ St ρ' H' g w' ∧ (∀ k, k < H.length → ρ' k = ρ k) ∧ H.length ≤ H'.length ∧
      below H'.length v = true ∧ Post v H'

/-- The caller's blocks that the callee is told of. -/
def sub (σ : List Nat) (n m : Nat) (k : Nat) : Nat := match σ[k]? with | some x => x | none => m + (k - n)
/-- How a callee that only reads sees a block. -/
def asked : SO → SO → SO
  | .ro .., .arr xs e => .ro xs e
  | _, o => o
def pickH (H : List SO) : List SO → List Nat → List SO
  | o :: r, k :: σ => asked o (obj H k) :: pickH H r σ
  | _, _ => []
def renH (σ : Nat → Nat) : List SO → List SO
  | [] => []
  | o :: r => o.ren σ :: renH σ r
/-- What a callee's claims on blocks that it did not own are worth to the caller: nothing. -/
def strip : SO → SO
  | .ro .. | .ghost .. => .gone
  | o => o
def SO.keeps : SO → Bool
  | .ro .. | .ghost .. => true
  | _ => false
def renS (σ : Nat → Nat) : List SO → List SO
  | [] => []
  | o :: r => strip (o.ren σ) :: renS σ r
def putH (σ : Nat → Nat) : List SO → List SO → List SO → List Nat → List SO
  | H, f :: fs, o :: r, k :: ks => putH σ (match f with | .ro .. | .ghost .. => H | _ => H.set k (strip (o.ren σ))) fs r ks
  | H, _, r, [] => H ++ renS σ r
  | H, _, _, _ => H
def nodup : List Nat → Bool
  | [] => true
  | k :: l => !l.contains k && nodup l

def okσ (n m : Nat) (σ : List Nat) : Bool := σ.length == n && nodup σ && σ.all (· < m)
def preσ : Nat → List Nat → Bool
  | k, σ => go 0 k σ
where go : Nat → Nat → List Nat → Bool
  | _, 0, _ => true
  | i, k + 1, j :: σ => i == j && go (i + 1) k σ
  | _, _ + 1, [] => false

/-- A call, by the callee's contract; σ: the caller's blocks that it is about. -/
inductive VCall (P : Program) (f : FuncId) (args : List SV) (H : List SO) (K : SV → List SO → Prop) : Prop where
  | mk {af : List SV} {Hf : List SO} {Post : SV → List SO → Prop} (σ : List Nat) (spec : Ctr P f af Hf Post)
    (fit : args = renL (sub σ Hf.length H.length) af ∧ pickH H Hf σ = renH (sub σ Hf.length H.length) Hf ∧ okσ Hf.length H.length σ = true)
    (k : ∀ v Hf', Post v Hf' → fK (ren (sub σ Hf.length H.length) v) fun v => fHK (putH (sub σ Hf.length H.length) H Hf Hf' σ) fun H' => K v H') : VCall P f args H K

def slElems (H : List SO) (sz : Nat) : SV → Option (List Value × Nat)
  | .sl k o n _ => match obj H k with
    | .arr xs _ | .ro xs _ => some ((xs.drop o).take (n * sz), n)
    | _ => none
  | .raw (.slice none 0 _) => some ([], 0)
  | .raw (.string s) => some (s.data.toList.map fun b => .int .u8 b.toNat, s.size)
  | _ => none

def intBits (op : BinOp) (k : IntKind) (x y : Int) : Int :=
  match op with
  | .and => k.wrap (BitVec.ofInt k.bits x &&& BitVec.ofInt k.bits y).toNat
  | .or => k.wrap (BitVec.ofInt k.bits x ||| BitVec.ofInt k.bits y).toNat
  | .xor => k.wrap (BitVec.ofInt k.bits x ^^^ BitVec.ofInt k.bits y).toNat
  | _ => k.wrap (BitVec.ofInt k.bits x &&& ~~~(BitVec.ofInt k.bits y)).toNat

section vc
variable (P : Program)

def vcInt (op : BinOp) (k : IntKind) (a b : Int) (K : SV → Prop) : Prop :=
  match op with
  | .add => ∃ c, k.wrap (a + b) = c ∧ K (.raw (.int k c))
  | .sub => ∃ c, k.wrap (a - b) = c ∧ K (.raw (.int k c))
  | .mul => ∃ c, k.wrap (a * b) = c ∧ K (.raw (.int k c))
  | .quo => b ≠ 0 ∧ ∃ c, k.wrap (a.tdiv b) = c ∧ K (.raw (.int k c))
  | .rem => b ≠ 0 ∧ ∃ c, a.tmod b = c ∧ K (.raw (.int k c))
  | .and | .or | .xor | .andNot => ∃ c, intBits op k a b = c ∧ K (.raw (.int k c))
  | .eql => K (.raw (.bool (decide (a = b))))
  | .neq => K (.raw (.bool (!decide (a = b))))
  | .lss => K (.raw (.bool (decide (a < b))))
  | .leq => K (.raw (.bool (decide (a ≤ b))))
  | .gtr => K (.raw (.bool (decide (b < a))))
  | .geq => K (.raw (.bool (decide (b ≤ a))))
  | _ => False

/-- The answer b of '==', as 'op' tells it. -/
def vcEq (op : BinOp) (b : Bool) (K : SV → Prop) : Prop :=
  match op, b with
  | .eql, true | .neq, false => K (.kb true)
  | .eql, false | .neq, true => K (.kb false)
  | _, _ => False
def vcEqB (op : BinOp) (b : Bool) (K : SV → Prop) : Prop :=
  match op with
  | .eql => K (.raw (.bool b))
  | .neq => K (.raw (.bool (!b)))
  | _ => False

def vcBin (op : BinOp) (k : BK) (x y : SV) (H : List SO) (K : SV → Prop) : Prop :=
  match k with
  | .no =>
    match x, y with
    | .raw (.int k a), .raw (.int k' b) =>
      match op with
      | .shl => 0 ≤ b ∧ ∃ c, k.wrap (a * 2 ^ (min b.toNat k.bits)) = c ∧ K (.raw (.int k c))
      | .shr => 0 ≤ b ∧ ∃ c, a.fdiv (2 ^ (min b.toNat k.bits)) = c ∧ K (.raw (.int k c))
      | _ => if k = k' then vcInt op k a b K else False
    | .raw (.string a), .raw (.string b) =>
      match op with
      | .add => a.size + b.size ≤ 9223372036854775807 ∧ K (.raw (.string (a ++ b)))
      | .eql => K (.raw (.bool (a.toList == b.toList)))
      | .neq => K (.raw (.bool !(a.toList == b.toList)))
      | .lss => K (.raw (.bool (Op.bytesLess a.toList b.toList)))
      | .gtr => K (.raw (.bool !(Op.bytesLess a.toList b.toList || a.toList == b.toList)))
      | .leq => K (.raw (.bool (Op.bytesLess a.toList b.toList || a.toList == b.toList)))
      | .geq => K (.raw (.bool !(Op.bytesLess a.toList b.toList)))
      | _ => False
    | _, _ => False
  | .b => match asB x, asB y with
    | some a, some b => vcEqB op (a == b) K
    | _, _ => False
  | .p => match x, y with
    | .ptr _ _, .raw (.pointer none) | .raw (.pointer none), .ptr _ _ => vcEq op false K
    | .raw (.pointer none), .raw (.pointer none) => vcEq op true K
    | .ptr k o, .ptr k' o' => bif k == k' then vcEq op (o == o') K else False
    | _, _ => False
  | .agg cl => match x, y with
    | .agg l, .agg m => match eqCells cl l m with
      | some b => vcEqB op b K
      | none => False
    | _, _ => False
  | .ifn => match x, y with
    | .ifc _ _, .raw .nilIface | .raw .nilIface, .ifc _ _ => vcEq op false K
    | .raw .nilIface, .raw .nilIface => vcEq op true K
    | _, _ => False
  | .sl => match x, y with
    | .raw (.slice none _ _), .raw (.slice none _ _) => vcEq op true K
    | .sl k _ _ _, .raw (.slice none _ _) => objK H k fun
      | .arr xs _ | .ro xs _ => ∀ b : Bool, (xs ≠ [] → b = false) → vcEqB op b K
      | _ => False
    | _, _ => False
  | .mp => match x, y with
    | .raw (.map none), .raw (.map none) => vcEq op true K
    | .mp k, .raw (.map none) => objK H k fun
      | .map .. => vcEq op false K
      | _ => False
    | _, _ => False

def rawsK : List Value → (List SV → Prop) → Prop
  | [], K => K []
  | v :: l, K => rawsK l fun l' => K (.raw v :: l')

def vcLoad (n : Option Nat) (a : SV) (H : List SO) (K : SV → Prop) : Prop :=
  match a with
  | .ptr k o => objK H k fun
    | .cells l _ => match n with
      | none => match l[o]? with
        | some v => K v
        | none => False
      | some m => match cut l o m with
        | some l' => K (.agg l')
        | none => False
    | .arr xs _ | .ro xs _ => match n with
      | none => ∃ v, xs[o]? = some v ∧ K (.raw v)
      | some m => ∃ l', cut xs o m = some l' ∧ rawsK l' fun l' => K (.agg l')
    | _ => False
  | .ptx k o => objK H k fun
    | .cells l _ => match n with
      | none => ∃ v, l[o]? = some v ∧ K v
      | some m => ∃ l', cut l o m = some l' ∧ K (.agg l')
    | .arr xs _ | .ro xs _ => match n with
      | none => ∃ v, xs[o]? = some v ∧ K (.raw v)
      | some m => ∃ l', cut xs o m = some l' ∧ rawsK l' fun l' => K (.agg l')
    | _ => False
  | _ => False

/-- What is stored: its cells. -/
def stored (n : Option Nat) (v : SV) : Option (List SV) :=
  match n, v with
  | none, v => bif one v then some [v] else none
  | some m, .agg l => bif oneL l && (l.length == m) then some l else none
  | some _, _ => none

def vcStore (n : Option Nat) (a v : SV) (H : List SO) (K : List SO → Prop) : Prop :=
  match stored n v with
  | none => False
  | some ys =>
    match a with
    | .ptr k o => objK H k fun
      | .cells l e => match paste l o ys with
        | some l' => setHK H k (.cells l' e) K
        | none => False
      | .arr xs e => match plainL ys with
        | some zs => ∃ l', paste xs o zs = some l' ∧ setHK H k (.arr l' e) K
        | none => False
      | _ => False
    | .ptx k o => objK H k fun
      | .cells l e => ∃ l', paste l o ys = some l' ∧ setHK H k (.cells l' e) K
      | .arr xs e => match plainL ys with
        | some zs => ∃ l', paste xs o zs = some l' ∧ setHK H k (.arr l' e) K
        | none => False
      | _ => False
    | _ => False

def vcSlice (sz : Option Nat) (v : SV) (lo hi : Option SV) (K : SV → Prop) : Prop :=
  match sz, v with
  | none, .raw (.string s) =>
    match lo, hi with
    | none, none => K v
    | some (.raw (.int _ l)), none => (0 ≤ l ∧ l ≤ s.size) ∧ K (.raw (.string (s.extract l.toNat s.size)))
    | none, some (.raw (.int _ h)) => (0 ≤ h ∧ h ≤ s.size) ∧ K (.raw (.string (s.extract 0 h.toNat)))
    | some (.raw (.int _ l)), some (.raw (.int _ h)) => (0 ≤ l ∧ l ≤ h ∧ h ≤ s.size) ∧ K (.raw (.string (s.extract l.toNat h.toNat)))
    | _, _ => False
  | some z, .sl k o n c =>
    match lo, hi with
    | none, none => K v
    | some (.raw (.int _ l)), none => (0 ≤ l ∧ l ≤ n) ∧ ∃ o', o' = (if c = l.toNat then o else o + l.toNat * z) ∧ K (.sl k o' (n - l.toNat) (c - l.toNat))
    | none, some (.raw (.int _ h)) => (0 ≤ h ∧ h ≤ c) ∧ K (.sl k o h.toNat c)
    | some (.raw (.int _ l)), some (.raw (.int _ h)) => (0 ≤ l ∧ l ≤ h ∧ h ≤ c) ∧ ∃ o', o' = (if c = l.toNat then o else o + l.toNat * z) ∧ K (.sl k o' (h.toNat - l.toNat) (c - l.toNat))
    | _, _ => False
  | _, _ => False

def optK (t : List SV) : Option Opd → (Option SV → Prop) → Prop
  | none, K => K none
  | some x, K => evK t x fun v => K (some v)

def vcIaddr (sz : Nat) (len : Option Nat) (v : SV) (i : Opd) (iv : SV) (H : List SO) (K : SV → Prop) : Prop :=
  match v, len with
  | .ptr k o, some n => match i, iv with
    | .c _, .raw (.int _ j) => bif decide (0 ≤ j) && decide (j < n) then K (.ptr k (o + j.toNat * sz)) else False
    | _, .raw (.int _ j) => (0 ≤ j ∧ j < n) ∧ K (.ptx k (o + j.toNat * sz))
    | _, _ => False
  | .ptx k o, some n => match iv with
    | .raw (.int _ j) => (0 ≤ j ∧ j < n) ∧ K (.ptx k (o + j.toNat * sz))
    | _ => False
  | .sl k o n _, none => match iv with
    | .raw (.int _ j) => objK H k fun
      | .arr xs _ | .ro xs _ => (0 ≤ j ∧ j < n ∧ o + n * sz ≤ xs.length) ∧ K (.ptx k (o + j.toNat * sz))
      | _ => False
    | _ => False
  | _, _ => False

def vcPick (c a b : SV) (K : SV → Prop) : Prop :=
  match c with
  | .kb true => K a
  | .kb false => K b
  | .raw (.bool p) =>
    match asB a, asB b with
    | some x, some y => K (.raw (.bool (bif p then x else y)))
    | _, _ => (p = true → K a) ∧ (p = false → K b)
  | _ => False

def vcUn (op : UnOp) (v : SV) (K : SV → Prop) : Prop :=
  match op, v with
  | .not, .kb true => K (.kb false)
  | .not, .kb false => K (.kb true)
  | .not, .raw (.bool b) => K (.raw (.bool (!b)))
  | .neg, .raw (.int k n) => ∃ c, k.wrap (0 - n) = c ∧ K (.raw (.int k c))
  | .xor, .raw (.int k n) => ∃ c, intBits .xor k (if k.signed then -1 else k.max) n = c ∧ K (.raw (.int k c))
  | _, _ => False

def vcConv (c : Cv) (v : SV) (H : List SO) (K : SV → List SO → Prop) : Prop :=
  match c, v with
  | .int k, .raw (.int _ n) => ∃ m, k.wrap n = m ∧ K (.raw (.int k m)) H
  | .same, .raw (.string s) => K (.raw (.string s)) H
  | .s2b e, .raw (.string s) => ∀ c, s.size ≤ c → newHK H (.arr (s.data.toList.map (fun b => Value.int .u8 b.toNat) ++ List.replicate (c - s.size) (.int .u8 0)) e) fun n H' => K (.sl n 0 s.size c) H'
  | .b2s, .sl k o n c => ∃ (s : ByteArray), slElems H 1 (.sl k o n c) = some (s.data.toList.map (fun b => .int .u8 b.toNat), s.size) ∧ K (.raw (.string s)) H
  | .b2s, .raw (.slice none 0 _) => K (.raw (.string ByteArray.empty)) H
  | _, _ => False

def vcField (off : Nat) (n : Option Nat) (v : SV) (K : SV → Prop) : Prop :=
  match v with
  | .agg l => match n with
    | none => match l[off]? with
      | some v => K v
      | none => False
    | some m => match cut l off m with
      | some l' => K (.agg l')
      | none => False
  | _ => False

def vcLookup (ty : TypeId) (ok : Bool) (m k : SV) (H : List SO) (K : SV → Prop) : Prop :=
  match m, plain k with
  | .mp j, some key => objK H j fun
    | .map es _ => ∃ (v : SV) (there : Bool) (x : Value), LookupIs P ty es key x there ∧ plain v = some x ∧ K (match ok with | true => .tup [v, .raw (.bool there)] | false => v)
    | _ => False
  | _, _ => False

def vcMapup (ty : TypeId) (m k v : SV) (H : List SO) (K : List SO → Prop) : Prop :=
  match m, plain k, plain v with
  | .mp j, some key, some x => objK H j fun
    | .map es c => ∃ es' c', UpdateIs P ty es c key x es' c' ∧ setHK H j (.map es' c') K
    | _ => False
  | _, _, _ => False

def vcDelete (ty : TypeId) (m k : SV) (H : List SO) (K : List SO → Prop) : Prop :=
  match m, plain k with
  | .mp j, some key => objK H j fun
    | .map es c => ∃ es', DeleteIs P ty es key es' ∧ setHK H j (.map es' c) K
    | _ => False
  | _, _ => False

def vcNext (it : SV) (H : List SO) (K : SV → List SO → Prop) : Prop :=
  match it with
  | .ptr n 0 => objK H n fun
    | .iter none _ _ _ => K (.tup [.kb false]) H
    | .iter (some j) since seen last => objK H j fun
      | .map es c => ((∀ e ∈ es, e.born < since) ∧ since ≤ last) ∧
        ((∀ e ∈ es, e.born ∈ seen) → K (.tup [.kb false]) H) ∧
        ∀ e, e ∈ es → e.born ∉ seen → setHK H n (.iter (some j) since (seen ++ [e.born]) c) fun H' => K (.tup [.kb true, svConst e.key, svConst e.val]) H'
      | _ => False
    | _ => False
  | _ => False

def vcEntry (it : SV) (H : List SO) (K : SV → Prop) : Prop :=
  match it with
  | .ptr n 0 => objK H n fun
    | .iter (some j) _ seen stepped => objK H j fun
      | .map es c => ∃ s e, seen.getLast? = some s ∧ es.find? (·.born == s) = some e ∧ stepped = c ∧ K (.tup [svConst e.key, svConst e.val])
      | _ => False
    | _ => False
  | _ => False

/-- Values that may lie in one cell each. -/
def cellsOK : List Value → Bool
  | [] => true
  | .agg _ :: _ | .tuple _ :: _ => false
  | _ :: l => cellsOK l

def vcAppend (e : TypeId) (sz bytes : Nat) (x y : SV) (H : List SO) (K : SV → List SO → Prop) : Prop :=
  match slElems H sz y with
  | some (ys, m) => match x with
    | .sl k o n c => objK H k fun
      | .arr xs e' => ((n ≤ c ∧ o + c * sz ≤ xs.length ∧ e' = e) ∧ (ys.length = m * sz ∧ cellsOK ys = true) ∧ (n + m) * bytes ≤ 1099511627776) ∧
        ∀ zs' o' c', (n + m ≤ c' ∧ o' + c' * sz ≤ zs'.length ∧ (zs'.drop o').take ((n + m) * sz) = (xs.drop o).take (n * sz) ++ ys) →
          setHK H k .gone fun H1 => newHK H1 (.arr zs' e) fun j H' => K (.sl j o' (n + m) c') H'
      | _ => False
    | .raw (.slice none 0 0) => (ys.length = m * sz ∧ m * bytes ≤ 1099511627776) ∧
        ∀ zs' c', (m ≤ c' ∧ c' * sz ≤ zs'.length ∧ zs'.take (m * sz) = ys) → newHK H (.arr zs' e) fun j H' => K (.sl j 0 m c') H'
    | _ => False
  | none => False

def vcTassert (ty : TypeId) (ok : Bool) (z : Value) (v : SV) (K : SV → Prop) : Prop :=
  match v with
  | .ifc u v => bif u == ty then K (match ok with | true => .tup [v, .kb true] | false => v) else bif ok then K (.tup [svConst z, .kb false]) else False
  | .raw .nilIface => bif ok then K (.tup [svConst z, .kb false]) else False
  | _ => False

def vcLen (k : LK) (v : SV) (H : List SO) (K : SV → Prop) : Prop :=
  match k, v with
  | .sl, .sl _ _ n _ => K (.raw (.int .i64 n))
  | .str, .raw (.string s) => K (.raw (.int .i64 s.size))
  | .sl, .raw (.slice none n _) => K (.raw (.int .i64 n))
  | .mp, .raw (.map none) => K (.raw (.int .i64 (0 : Nat)))
  | .mp, .mp j => objK H j fun
    | .map es _ => K (.raw (.int .i64 es.length))
    | _ => False
  | _, _ => False

/-- What is owed where an operation is carried out: 'K' of the value and the blocks behind it. -/
def vcOp (op : VOp) (t : List SV) (H : List SO) (K : SV → List SO → Prop) : Prop :=
  match op with
  | .mov x => evK t x fun v => K v H
  | .pick c a b => evK t c fun c => evK t a fun a => evK t b fun b => vcPick c a b fun v => K v H
  | .new e zs => rawsK zs fun l => newHK H (.cells l e) fun n H' => K (.ptr n 0) H'
  | .box e x => evK t x fun
    | .agg l => newHK H (.cells l e) fun n H' => K (.ptr n 0) H'
    | .tup _ => False
    | v => bif one v then newHK H (.cells [v] e) fun n H' => K (.ptr n 0) H' else False
  | .build zs ps => rawsK zs fun l => pasteK t l ps fun l => K (.agg l) H
  | .bslice e n zs ps => rawsK zs fun l => pasteK t l ps fun l => match plainL l with
    | some xs => newHK H (.arr xs e) fun j H' => K (.sl j 0 n n) H'
    | none => False
  | .load n x => evK t x fun a => vcLoad n a H fun v => K v H
  | .store n x v => evK t x fun a => evK t v fun v => vcStore n a v H fun H' => K un H'
  | .nilck x => evK t x fun
    | .ptr k o => objK H k fun
      | .cells .. => K (.ptr k o) H
      | _ => False
    | _ => False
  | .bin op k x y => evK t x fun x => evK t y fun y => vcBin op k x y H fun v => K v H
  | .un op x => evK t x fun v => vcUn op v fun v => K v H
  | .conv c x => evK t x fun v => vcConv c v H K
  | .mkif ty x => evK t x fun v => K (.ifc ty v) H
  | .mkfn f caps => evLK t caps fun l => K (.fn f l) H
  | .mkmap => newHK H (.map [] 0) fun n H' => K (.mp n) H'
  | .slice sz x lo hi => evK t x fun v => optK t lo fun lo => optK t hi fun hi => vcSlice sz v lo hi fun v => K v H
  | .faddr off x => evK t x fun
    | .ptr k o => K (.ptr k (o + off)) H
    | .ptx k o => K (.ptx k (o + off)) H
    | _ => False
  | .field off n x => evK t x fun v => vcField off n v fun v => K v H
  | .iaddr sz len x i => evK t x fun v => evK t i fun iv => vcIaddr sz len v i iv H fun v => K v H
  | .sindex x i => evK t x fun v => evK t i fun iv => match v, iv with
    | .raw (.string s), .raw (.int _ j) => ∃ b, (0 ≤ j ∧ s.data.toList[j.toNat]? = some b) ∧ K (.raw (.int .u8 b.toNat)) H
    | _, _ => False
  | .aindex n sz agg x i => evK t x fun v => evK t i fun iv => match v, iv with
    | .agg l, .raw (.int _ j) => (0 ≤ j ∧ j < n) ∧
      (bif agg then ∃ l', cut l (j.toNat * sz) sz = some l' ∧ K (.agg l') H else ∃ v, l[j.toNat * sz]? = some v ∧ K v H)
    | _, _ => False
  | .lookup ty ok m k => evK t m fun m => evK t k fun k => vcLookup P ty ok m k H fun v => K v H
  | .mapup ty m k v => evK t m fun m => evK t k fun k => evK t v fun v => vcMapup P ty m k v H fun H' => K un H'
  | .delete ty m k => evK t m fun m => evK t k fun k => vcDelete P ty m k H fun H' => K un H'
  | .range false m => evK t m fun
    | .mp j => objK H j fun
      | .map _ c => newHK H (.iter (some j) c [] c) fun n H' => K (.ptr n 0) H'
      | _ => False
    | .raw (.map none) => newHK H (.iter none 0 [] 0) fun n H' => K (.ptr n 0) H'
    | _ => False
  | .next false it => evK t it fun it => vcNext it H K
  | .entry it => evK t it fun it => vcEntry it H fun v => K v H
  | .extr x i => evK t x fun
    | .tup l => match l[i]? with
      | some v => K v H
      | none => False
    | _ => False
  | .call f args => evLK t args fun vs => VCall P f vs H K
  | .callv f args => evK t f fun
    | .fn g caps => enters P g = true ∧ evLK t args fun vs => VCall P g (vs ++ caps) H K
    | _ => False
  | .len k x => evK t x fun v => vcLen k v H fun v => K v H
  | .cap x => evK t x fun
    | .sl _ _ _ c => K (.raw (.int .i64 c)) H
    | .raw (.slice none _ c) => K (.raw (.int .i64 c)) H
    | _ => False
  | .append e sz bytes _ x y => evK t x fun x => evK t y fun y => vcAppend e sz bytes x y H K
  | .min x y => evK t x fun x => evK t y fun y => match x, y with
    | .raw (.int k a), .raw (.int _ b) => K (.raw (.int k (if b < a then b else a))) H
    | _, _ => False
  | .max x y => evK t x fun x => evK t y fun y => match x, y with
    | .raw (.int k a), .raw (.int _ b) => K (.raw (.int k (if b > a then b else a))) H
    | _, _ => False
  | .tassert ty ok z x => evK t x fun v => vcTassert ty ok z v fun v => K v H
  | _ => False

/-- An instruction: with its guard. -/
def vcIns (i : VIns) (t : List SV) (H : List SO) (K : List SV → List SO → Prop) : Prop :=
  match i.guard with
  | none => vcOp P i.op t H fun v H' => putK t i.dst v fun t' => K t' H'
  | some (g, want) => getK t g fun
    | .kb b => bif b == want then vcOp P i.op t H fun v H' => putK t i.dst v fun t' => K t' H' else putK t i.dst un fun t' => K t' H
    | .raw (.bool b) =>
      (b = want → setK t g (.kb want) fun t => vcOp P i.op t H fun v H' => putK t i.dst v fun t' => K t' H') ∧
      (b = !want → setK t g (match want with | true => .kb false | false => .kb true) fun t => putK t i.dst un fun t' => K t' H)
    | .raw (.tuple _) => putK t i.dst un fun t' => K t' H
    | _ => False

def vcReg : List VIns → List SV → List SO → (List SV → List SO → Prop) → Prop
  | [], t, H, K => K t H
  | i :: r, t, H, K => vcIns P i t H fun t' H' => vcReg r t' H' K

/-- Those that were taken early and may come late yield behind u what they yielded. -/
def again (pend : List (Nat × (List SO → Prop))) (H : List SO) (K : Prop) : List Nat → Prop
  | [] => K
  | r :: rs => match pend.find? (·.1 == r) with
    | some p => p.2 H ∧ again pend H K rs
    | none => False

def inK : List SV → Nat → Prop → Prop
  | [], _, _ => False
  | _ :: _, 0, K => K
  | _ :: l, i + 1, K => inK l i K

def vcDraw (ops : List VIns) : Pl → List (Nat × (List SO → Prop)) → List SV → List SO → (List SV → List SO → Prop) → Prop
  | .done, _, t, H, K => K t H
  | .fl i p, pend, t, H, K =>
    match ops[i]? with
    | none => False
    | some x => vcIns P x t H fun t' _ => vcDraw ops p pend t' H K
  | .fr i p, pend, t, H, K =>
    match ops[i]? with
    | none => False
    | some x => match x.dst with
      | none => False
      | some d => vcIns P x t H fun t' _ => inK t' d (vcDraw ops p ((i, fun H' => vcIns P x t' H' fun t'' _ => ev t'' (.t d) = ev t' (.t d)) :: pend) t' H K)
  | .st i rs p, pend, t, H, K =>
    match ops[i]? with
    | none => False
    | some x => vcIns P x t H fun t' H' => again pend H' (vcDraw ops p pend t' H' K) rs
  | .br p q, pend, t, H, K => vcDraw ops p pend t H K ∧ vcDraw ops q pend t H K

inductive Ex where
  | normal | ret | exit (id : Nat)

/-- The table at a loop's head: what is told of, anything elsewhere. -/
def liveK (g : Nat → Value) : Nat → List SV → List (Nat × SV) → (List SV → Prop) → Prop
  | _, [], _, K => K []
  | i, _ :: t, [], K => liveK g (i + 1) t [] fun t' => K (.raw (g i) :: t')
  | i, _ :: t, (j, v) :: l, K => match Nat.beq i j with
    | true => fK v fun v => liveK g (i + 1) t l fun t' => K (v :: t')
    | false => liveK g (i + 1) t ((j, v) :: l) fun t' => K (.raw (g i) :: t')
/-- A known bool is a bool. -/
def nkb : SV → SV
  | .kb b => .raw (.bool b)
  | v => v
def pickT (t : List SV) : List (Nat × SV) → List SV
  | [] => []
  | (i, _) :: l => nkb (t.getD i un) :: pickT t l
def renT (s : Nat → Nat) : List (Nat × SV) → List SV
  | [] => []
  | (_, v) :: l => nkb (ren s v) :: renT s l

/-- State (t, H) is of the written form, its blocks named by σ. -/
def sameLen : List SV → List SV → Bool
  | [], [] => true
  | _ :: a, _ :: b => sameLen a b
  | _, _ => false
def Fits (n0 : Nat) (t0 : List SV) (σ : List Nat) (t : List SV) (H : List SO) (live : List (Nat × SV)) (H0 : List SO) : Prop :=
  pickT t live = renT (sub σ H0.length H.length) live ∧ pickH H H0 σ = renH (sub σ H0.length H.length) H0 ∧ (okσ H0.length H.length σ && preσ n0 σ && sameLen t t0) = true

/-- A loop: 'live x', 'HH x': what is known at its head at x. -/
inductive VLoop (n0 : Nat) (body : List SV → List SO → (Ex → List SV → List SO → Prop) → Prop) (t : List SV) (H : List SO) (Q : Ex → List SV → List SO → Prop) : Prop where
  | mk (X : Type) (live : X → List (Nat × SV)) (HH : X → List SO) (inv : X → Prop) (μ : X → Nat) (x0 : X) (σ0 : List Nat)
    (start : inv x0 ∧ Fits n0 t σ0 t H (live x0) (HH x0))
    (round : ∀ x, inv x → ∀ g : Nat → Value, liveK g 0 t (live x) fun t1 => fHK (HH x) fun H1 => body t1 H1 fun e t' H' => match e with
      | .normal => ∃ x' σ, (inv x' ∧ μ x' < μ x) ∧ Fits n0 t σ t' H' (live x') (HH x')
      | e => Q e t' H') : VLoop n0 body t H Q

def vcCode (n0 : Nat) : VCode → List SV → List SO → (Ex → List SV → List SO → Prop) → Prop
  | .skip, t, H, Q => Q .normal t H
  | .reg ops, t, H, Q => vcReg P ops t H (Q .normal)
  | .draw ops p, t, H, Q => vcDraw P ops p [] t H (Q .normal)
  | .seq a b, t, H, Q => vcCode n0 a t H fun e t' H' => match e with
    | .normal => vcCode n0 b t' H' Q
    | e => Q e t' H'
  | .cond c a b, t, H, Q =>
    evK t c fun
    | .kb true => vcCode n0 a t H Q
    | .kb false => vcCode n0 b t H Q
    | .raw (.bool p) => (p = true → vcCode n0 a t H Q) ∧ (p = false → vcCode n0 b t H Q)
    | _ => False
  | .block id a, t, H, Q => vcCode n0 a t H fun e t' H' => match e with
    | .exit i => bif i == id then Q .normal t' H' else Q (.exit i) t' H'
    | e => Q e t' H'
  | .loop a, t, H, Q => VLoop n0 (vcCode n0 a) t H Q
  | .exit id, t, H, Q => Q (.exit id) t H
  | .ret, t, H, Q => Q .ret t H
  | .bad, _, _, _ => False

inductive VRes where
  | t (i : Nat)
  | cell (i : Nat) (n : Option Nat)

/-- A known bool as any bool. -/
def normB : SV → SV
  | .kb b => .raw (.bool b)
  | v => v
def resOne (t : List SV) (H : List SO) : VRes → Option SV
  | .t i => some (normB (t.getD i (.raw (.tuple #[]))))
  | .cell i n => match t.getD i (.raw (.tuple #[])) with
    | .ptr k o => match obj H k with
      | .cells l _ => match n with
        | none => l[o]?
        | some m => (cut l o m).map .agg
      | _ => none
    | _ => none
def resAll (t : List SV) (H : List SO) : List VRes → Option (List SV)
  | [] => some []
  | r :: l => match resOne t H r, resAll t H l with
    | some x, some xs => some (x :: xs)
    | _, _ => none
def resSV (t : List SV) (H : List SO) (rs : List VRes) : Option SV :=
  match resAll t H rs with
  | some [x] => some x
  | some l => some (.tup l)
  | none => none

/-- The frame at a call: the arguments, and room. -/
def padK : Nat → List SV → (List SV → Prop) → Prop
  | 0, l, K => K l
  | n + 1, v :: l, K => padK n l fun l' => K (v :: l')
  | n + 1, [], K => padK n [] fun l' => K (un :: l')

/-- The end of a function: what it hands on is told under names of its own; the rest is forgotten. -/
inductive VRet (n0 : Nat) (v : SV) (H : List SO) (Post : SV → List SO → Prop) : Prop where
  | mk (σ : List Nat) (v' : SV) (H' : List SO) (fit : v = ren (sub σ H'.length H.length) v' ∧ pickH H H' σ = renH (sub σ H'.length H.length) H' ∧ (okσ H'.length H.length σ && preσ n0 σ) = true) (post : Post v' H') : VRet n0 v H Post

def vcFun (nt : Nat) (rs : List VRes) (c : VCode) (args : List SV) (H : List SO) (Post : SV → List SO → Prop) : Prop :=
  padK nt args fun t => natK H.length fun n0 => vcCode P n0 c t H fun e t H' => match e with
    | .exit _ => False
    | _ => match resSV t H' rs with
      | some v => fK v fun v => VRet n0 v H' Post
      | none => False
end vc
end Go.V
