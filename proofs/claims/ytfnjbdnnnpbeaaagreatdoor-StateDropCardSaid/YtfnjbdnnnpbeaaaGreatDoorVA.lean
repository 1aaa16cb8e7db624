/- Part of the proof that the statement named in the last file holds: lemmas of the prover's own. No conditions. -/
import Derived.OrdersHeld
import Derived.KernelRfl
import Derived.Laws.Cover4
import Derived.Laws.IdiomStrings
import Derived.Laws.Sem
import Derived.Laws.World
import Derived.Laws.Cells
import Derived.Laws.StructEq
import Derived.ChangeKeysEq
namespace Go.V
open Go

/-! ### Orders: several operations taken early, each on a condition of its own -/
section
variable {P : Program} {ops : Array Oper} {Q : Exit → Act → World → Prop} {md : Region.Mode}

/-- What j waits for. -/
def aftersOf (md : Region.Mode) (ops : Array Oper) (j : Nat) : List Nat :=
  match ops[j]? with
  | none => []
  | some o => o.after.toList.filterMap fun e => bif Region.binds md e then some e.on else none
def addAll (acc : List Nat) : List Nat → List Nat
  | [] => acc
  | e :: l => addAll (bif acc.contains e then acc else e :: acc) l
def reachStep (md : Region.Mode) (ops : Array Oper) (acc : List Nat) : List Nat → List Nat
  | [] => acc
  | k :: l => reachStep md ops (addAll acc (aftersOf md ops k)) l
def reach (md : Region.Mode) (ops : Array Oper) : Nat → List Nat → List Nat
  | 0, S => S
  | n + 1, S => bif (reachStep md ops S S).length == S.length then S else reach md ops n (reachStep md ops S S)
/-- What j waits for, maybe through others. -/
def ancs (md : Region.Mode) (ops : Array Oper) (j : Nat) : List Nat := reach md ops ops.size (aftersOf md ops j)

def Closed (md : Region.Mode) (ops : Array Oper) (L : Array Bool) : Prop :=
  ∀ (j : Nat) o, ops[j]? = some o → L.getD j false = true → ∀ e ∈ o.after, Region.binds md e = true → L.getD e.on false = true

theorem addAll_mem : ∀ (l acc : List Nat) (x : Nat), x ∈ addAll acc l → x ∈ acc ∨ x ∈ l
  | [], _, _, h => .inl h
  | e :: l, acc, x, h => by
    rcases addAll_mem l _ x h with h1 | h1
    · cases hc : acc.contains e with
      | true => rw [hc] at h1; exact .inl h1
      | false =>
        rw [hc] at h1
        rcases List.mem_cons.1 h1 with rfl | h2
        · exact .inr (by simp)
        · exact .inl h2
    · exact .inr (by simp [h1])
theorem aftersOf_listed {L : Array Bool} {j : Nat} (hj : ∀ o, ops[j]? = some o → ∀ e ∈ o.after, Region.binds md e = true → L.getD e.on false = true) : ∀ i ∈ aftersOf md ops j, L.getD i false = true := by
  intro i hi
  unfold aftersOf at hi
  split at hi
  · cases hi
  · rename_i o ho
    obtain ⟨e, he, h1⟩ := List.mem_filterMap.1 hi
    cases hb : Region.binds md e with
    | false => rw [hb] at h1; cases h1
    | true => rw [hb] at h1; cases h1; exact hj o ho e (by simpa using he) hb
theorem reachStep_listed {L : Array Bool} (hc : Closed md ops L) : ∀ (l acc : List Nat), (∀ i ∈ l, L.getD i false = true) → (∀ i ∈ acc, L.getD i false = true) → ∀ i ∈ reachStep md ops acc l, L.getD i false = true
  | [], _, _, h => h
  | k :: l, acc, hl, ha => by
    refine reachStep_listed hc l _ (fun i hi => hl i (by simp [hi])) ?_
    intro i hi
    rcases addAll_mem _ _ i hi with h1 | h1
    · exact ha i h1
    · exact aftersOf_listed (fun o ho => hc k o ho (hl k (by simp))) i h1
theorem reach_listed {L : Array Bool} (hc : Closed md ops L) : ∀ (n : Nat) (S : List Nat), (∀ i ∈ S, L.getD i false = true) → ∀ i ∈ reach md ops n S, L.getD i false = true
  | 0, _, h => h
  | n + 1, S, h => by
    simp only [reach]
    cases (reachStep md ops S S).length == S.length
    · exact reach_listed hc n _ (reachStep_listed hc S S h h)
    · exact h
theorem anc_listed {L : Array Bool} (hc : Closed md ops L) {i j : Nat} (hj : ∀ o, ops[j]? = some o → ∀ e ∈ o.after, Region.binds md e = true → L.getD e.on false = true) (h : (ancs md ops j).contains i = true) : L.getD i false = true :=
  reach_listed hc _ _ (aftersOf_listed hj) i (by simpa [ancs] using h)

theorem listed_lt {L : Array Bool} {i : Nat} (h : L.getD i true = false) : i < L.size ∧ L.getD i false = false := by
  rcases Nat.lt_or_ge i L.size with h' | h'
  · refine ⟨h', ?_⟩
    simp [h'] at h ⊢; exact h
  · simp [Array.getElem?_eq_none h'] at h

theorem Closed.set {L : Array Bool} (hc : Closed md ops L) {i : Nat} (hi : i ∈ Region.ready md ops L) : Closed md ops (L.setIfInBounds i true) := by
  intro j o ho hj e he hb
  obtain ⟨h0, oi, hoi, hall⟩ := mem_ready.1 hi
  by_cases hij : i = j
  · subst hij
    rw [hoi] at ho; cases ho
    exact getD_set_true (hall e he hb)
  · rw [getD_set_ne false hij] at hj
    exact getD_set_true (hc j o ho hj e he hb)

/-- Those taken early, and the conditions under which they still yield what they yielded. -/
abbrev Pend := Nat → (World → Prop) → Prop
def Pend.after (md : Region.Mode) (ops : Array Oper) (p : Pend) (j : Nat) : Pend := fun i S => p i S ∧ (ancs md ops j).contains i = false
def Pend.with (p : Pend) (i : Nat) (S : World → Prop) : Pend := fun k S' => p k S' ∨ (k = i ∧ S' = S)
def Pend.ok (p : Pend) (w : World) : Prop := ∀ i S, p i S → S w

def wpAnyR (P : Program) (md : Region.Mode) (ops : Array Oper) (Q : Exit → Act → World → Prop) : Nat → Pend → Array Bool → Act → World → Prop
  | 0, _, listed, a, w => Region.ready md ops listed = [] ∧ Q .normal a w
  | fuel + 1, p, listed, a, w =>
    (Region.ready md ops listed = [] → Q .normal a w) ∧
    ∀ j ∈ Region.ready md ops listed, wpOp P ops Q j (fun a' w' => (p.after md ops j).ok w' ∧ wpAnyR P md ops Q fuel (p.after md ops j) (listed.setIfInBounds j true) a' w') a w

theorem wpAnyR_weaken : ∀ (fuel : Nat) (p p' : Pend) (L : Array Bool) (a : Act) (w : World), (∀ i S, p' i S → p i S ∨ ∀ w, S w) → wpAnyR P md ops Q fuel p L a w → wpAnyR P md ops Q fuel p' L a w
  | 0, _, _, _, _, _, _, h => h
  | fuel + 1, p, p', L, a, w, hp, h => by
    refine ⟨h.1, fun j hj => wpOp_mono ?_ (h.2 j hj)⟩
    intro a' w' h'
    have hp' : ∀ i S, (p'.after md ops j) i S → (p.after md ops j) i S ∨ ∀ w, S w := fun i S hs => (hp i S hs.1).imp (fun h => ⟨h, hs.2⟩) id
    exact ⟨fun i S hs => (hp' i S hs).elim (h'.1 i S) (fun h => h w'), wpAnyR_weaken fuel _ _ _ _ _ hp' h'.2⟩

theorem wpAny_of_R : ∀ (fuel : Nat) (p : Pend) (L : Array Bool) (a : Act) (w : World), wpAnyR P md ops Q fuel p L a w → wpAny P md ops Q fuel L a w
  | 0, _, _, _, _, h => h
  | fuel + 1, _, _, _, _, h => ⟨h.1, fun i hi => wpOp_mono (fun a' w' h' => wpAny_of_R fuel _ _ a' w' h'.2) (h.2 i hi)⟩

theorem wpAnyR_first {i : Nat} {oi : Oper} {v : Value} {S : World → Prop} (hi : ops[i]? = some oi) (hsel : ∀ (j : Nat) (o : Oper) cs b, ops[j]? = some o → o.op ≠ .select cs b)
    (hQ : ∀ c a w, ¬ Q (.panic c) a w) :
    ∀ (fuel : Nat) (p : Pend) (listed : Array Bool) (a : Act) (w : World), Closed md ops listed →
      (∀ (j : Nat) oj, ops[j]? = some oj → j ≠ i → listed.getD j true = false → (∀ e ∈ oj.after, Region.binds md e = true → e.on ≠ i) → oi.apart ops oj = true) →
      i ∈ Region.ready md ops listed → YieldsIf P ops S oi v a → S w → p.ok w →
      wpAnyR P md ops Q fuel (p.with i S) (listed.setIfInBounds i true) (a.put oi.dst v) w → wpAnyR P md ops Q (fuel + 1) p listed a w := by
  intro fuel
  have here : ∀ (fuel : Nat) (p : Pend) (listed : Array Bool) (a : Act) (w : World), YieldsIf P ops S oi v a → S w → p.ok w →
      wpAnyR P md ops Q fuel (p.with i S) (listed.setIfInBounds i true) (a.put oi.dst v) w →
      wpOp P ops Q i (fun a' w' => (p.after md ops i).ok w' ∧ wpAnyR P md ops Q fuel (p.after md ops i) (listed.setIfInBounds i true) a' w') a w := by
    intro fuel p listed a w hy hS hp H
    refine hy.wpOp hi hS ⟨fun k T hk => hp k T hk.1, wpAnyR_weaken fuel _ _ _ _ _ (fun k T hk => .inl (.inl hk.1)) H⟩
  induction fuel with
  | zero =>
    intro p listed a w hcl _ hr hy hS hp H
    refine ⟨fun h => (by rw [h] at hr; cases hr), fun j hj => ?_⟩
    by_cases hji : j = i
    · subst hji; exact here 0 p listed a w hy hS hp H
    · have := ready_mono hj hji
      rw [H.1] at this
      cases this
  | succ fuel ih =>
    intro p listed a w hcl hfree hr hy hS hp H
    refine ⟨fun h => (by rw [h] at hr; cases hr), fun j hj => ?_⟩
    by_cases hji : j = i
    · subst hji; exact here _ p listed a w hy hS hp H
    · have h1 := H.2 j (ready_mono hj hji)
      obtain ⟨hjun, oj, hoj, hall⟩ := mem_ready.1 hj
      have hiun : listed.getD i false = false := (listed_lt (mem_ready.1 hr).1).2
      have hnot : ∀ e ∈ oj.after, Region.binds md e = true → e.on ≠ i := fun e he hb heq => by
        have h1 := hall e he hb
        rw [heq, hiun] at h1; cases h1
      have hanc : (ancs md ops j).contains i = false := by
        cases hc : (ancs md ops j).contains i with
        | false => rfl
        | true =>
          have := anc_listed hcl (fun o ho => by rw [hoj] at ho; cases ho; exact hall) hc
          rw [hiun] at this; cases this
      have h2 := wpOp_putIf hoj (hfree j oj hoj hji hjun hnot) (fun cs b => hsel i oi cs b hi) (fun cs b => hsel j oj cs b hoj) (fun c a w h => absurd h (hQ c _ w)) hy h1
      have hfree' : ∀ (k : Nat) ok, ops[k]? = some ok → k ≠ i → (listed.setIfInBounds j true).getD k true = false →
          (∀ e ∈ ok.after, Region.binds md e = true → e.on ≠ i) → oi.apart ops ok = true := fun k ok hk hki hun hno => by
        refine hfree k ok hk hki ?_ hno
        by_cases hjk : j = k
        · subst hjk; exact hjun
        · rw [getD_set_ne true hjk] at hun; exact hun
      refine wpOp_mono (fun a' w' h3 => ?_) h2
      obtain ⟨h4, h5, h6⟩ := h3
      have hS' : S w' := h5 i S ⟨.inr ⟨rfl, rfl⟩, hanc⟩
      have hp' : (p.after md ops j).ok w' := fun k T hk => h5 k T ⟨.inl hk.1, hk.2⟩
      refine ⟨hp', ih (p.after md ops j) (listed.setIfInBounds j true) a' w' (hcl.set hj) hfree' (ready_mono hr (Ne.symm hji)) h4 hS' hp' ?_⟩
      rw [Array.setIfInBounds_comm _ _ hji]
      refine wpAnyR_weaken fuel _ _ _ _ _ ?_ h6
      rintro k T (hk | ⟨rfl, rfl⟩)
      · exact .inl ⟨.inl hk.1, hk.2⟩
      · exact .inl ⟨.inr ⟨rfl, rfl⟩, hanc⟩

theorem wpAnyR_done {p : Pend} {listed : Array Bool} {a : Act} {w : World} (hr : Region.ready md ops listed = []) (h : Q .normal a w) : ∀ fuel, wpAnyR P md ops Q fuel p listed a w
  | 0 => ⟨hr, h⟩
  | _ + 1 => ⟨fun _ => h, by rw [hr]; simp⟩

theorem closed_start (n : Nat) : Closed md ops (Array.replicate n false) := by
  intro j o _ hj
  by_cases h : j < n
  · simp [h] at hj
  · simp [h] at hj
end
end Go.V

namespace Go.V
open Go

/-- A symbolic value. -/
inductive SV where
  | raw (v : Value)
  | kb (b : Bool)
  | ptr (k off : Nat)
  | ptx (k off : Nat)
  | sl (k off len cap : Nat)
  | mp (k : Nat)
  | agg (l : List SV)
  | tup (l : List SV)
  | fn (f : FuncId) (caps : List SV)
  | ifc (t : TypeId) (v : SV)
  deriving Inhabited

/-- A symbolic block. -/
inductive SO where
  | cells (l : List SV) (e : TypeId)
  | arr (xs : List Value) (e : TypeId)
  | ro (xs : List Value) (e : TypeId)
  | map (es : List MapEntry) (clock : Nat)
  | iter (m : Option Nat) (since : Nat) (seen : List Nat) (stepped : Nat)
  | siter (s : ByteArray) (pos : Nat)
  | ghost (h : Nat → Option Obj)
  | heap (h : Nat → Option Obj)
  | gone
  deriving Inhabited

inductive Opd where
  | t (i : Nat)
  | c (v : SV)
  deriving Inhabited

inductive Cv where
  | int (k : IntKind)
  | s2b (e : TypeId)
  | b2s
  | same
  | s2s
  | r2s
  | s2r (e : TypeId)
  deriving Inhabited

inductive LK where
  | str | sl | mp
  deriving Inhabited

/-- Classes of cells that '==' compares. -/
inductive FC where
  | i | s | b
  deriving Inhabited

/-- What kind of type '==' is at, where that matters. -/
inductive BK where
  | no | b | p | agg (cl : List FC) | ifn | sl | mp
  deriving Inhabited

inductive VOp where
  | mov (x : Opd)
  | pick (c a b : Opd)
  | new (e : TypeId) (zs : List Value)
  | box (e : TypeId) (x : Opd)
  | build (zs : List Value) (parts : List (Nat × Nat × Opd))
  | bslice (e : TypeId) (n : Nat) (zs : List Value) (parts : List (Nat × Nat × Opd))
  | load (n : Option Nat) (x : Opd)
  | store (n : Option Nat) (x v : Opd)
  | nilck (x : Opd)
  | bin (op : BinOp) (k : BK) (x y : Opd)
  | un (op : UnOp) (x : Opd)
  | conv (c : Cv) (x : Opd)
  | mkif (t : TypeId) (x : Opd)
  | mkfn (f : FuncId) (caps : List Opd)
  | mkmap
  | mkslice (e : TypeId) (zs : List Value) (bytes : Nat) (l c : Opd)
  | slice (sz : Option Nat) (x : Opd) (lo hi : Option Opd)
  | faddr (off : Nat) (x : Opd)
  | field (off : Nat) (n : Option Nat) (x : Opd)
  | iaddr (sz : Nat) (len : Option Nat) (x i : Opd)
  | sindex (x i : Opd)
  | aindex (len sz : Nat) (agg : Bool) (x i : Opd)
  | lookup (t : TypeId) (ok : Bool) (m k : Opd)
  | mapup (t : TypeId) (m k v : Opd)
  | delete (t : TypeId) (m k : Opd)
  | range (str : Bool) (m : Opd)
  | next (str : Bool) (it : Opd)
  | entry (it : Opd)
  | tassert (t : TypeId) (ok : Bool) (z : Value) (x : Opd)
  | extr (x : Opd) (i : Nat)
  | call (f : FuncId) (args : List Opd)
  | callv (f : Opd) (args : List Opd)
  | invoke (m : String) (r : Opd) (args : List Opd)
  | len (k : LK) (x : Opd)
  | cap (x : Opd)
  | append (e : TypeId) (sz bytes : Nat) (zs : List Value) (x y : Opd)
  | min (x y : Opd)
  | max (x y : Opd)
  | copy (sz : Nat) (x y : Opd)
  | clear (sz : Nat) (zs : List Value) (x : Opd)
  | other
  deriving Inhabited

structure VIns where
  dst : Option Nat
  guard : Option (Nat × Bool)
  op : VOp
  deriving Inhabited

/-- A plan for a region that draws: which operation is taken next; 'br': whichever of several that are ready. -/
inductive Pl where
  | done
  | fl (i : Nat) (p : Pl)
  | fr (i : Nat) (p : Pl)
  | st (i : Nat) (rs : List Nat) (p : Pl)
  | br (p q : Pl)
  deriving Inhabited

inductive VCode where
  | skip
  | reg (ops : List VIns)
  | draw (ops : List VIns) (plan : Pl)
  | seq (a b : VCode)
  | cond (c : Opd) (thn els : VCode)
  | block (id : Nat) (body : VCode)
  | loop (body : VCode)
  | exit (id : Nat)
  | ret
  | bad
  deriving Inhabited

/-- Operations that leave the world as it is. -/
def still : VOp → Bool
  | .mov _ | .pick .. | .build .. | .load .. | .nilck _ | .bin .. | .un .. | .mkif .. | .mkfn .. | .slice .. | .faddr .. | .field .. | .iaddr .. | .sindex .. | .aindex .. | .lookup .. | .extr .. | .len .. | .cap _ | .min .. | .max .. | .tassert .. | .entry _ => true
  | .conv (.s2b _) _ => false
  | .conv (.s2r _) _ => false
  | .conv .s2s _ => false
  | .conv .. => true
  | _ => false
/-- Those of them that do not even read it. -/
def blind : VOp → Bool
  | .mov _ | .pick .. | .un .. | .mkif .. | .mkfn .. | .slice .. | .faddr .. | .field .. | .sindex .. | .extr .. | .cap _ | .min .. | .max .. | .tassert .. => true
  | .conv (.int _) _ | .conv .same _ => true
  | .len .mp _ => false
  | .len .. => true
  | .bin _ .sl _ _ | .bin _ .mp _ _ => false
  | .bin .. => true
  | _ => false

/-! ### Out of the model's code -/
section compile
variable (P : Program)

def isAggT (t : TypeId) : Option Bool := (P.underlying t).map fun | .struct _ => true | .array _ _ => true | _ => false
def sizeT (t : TypeId) : Option Nat := (P.info? t).map (·.size)
def bytesT (t : TypeId) : Option Nat := (P.info? t).map (·.bytes)
def zeroT (t : TypeId) : Option Value := (P.info? t).bind (·.zero)
def zeroCellsT (t : TypeId) : Option (List Value) := (zeroT P t).map (·.cells.toList)
/-- 'none': one cell; 'some n': an aggregate of n cells. -/
def shapeT (t : TypeId) : Option (Option Nat) :=
  match isAggT P t, sizeT P t with
  | some true, some (n + 1) => some (some (n + 1))
  | some false, some 1 => some none
  | _, _ => none
/-- A function that is entered at a call. -/
def enters (f : FuncId) : Bool := match P.funcs[f]? with
  | some fn => !(fn.name == "runtime.NumGoroutine") && fn.body.isSome
  | none => false
def lenKind (t : TypeId) : Option LK := match P.underlying t with
  | some .string => some .str
  | some (.slice _) => some .sl
  | some (.map _ _) => some .mp
  | _ => none

def svConst : Value → SV
  | .bool b => .kb b
  | .agg cs => .agg (cs.toList.map .raw)
  | .tuple cs => .tup (cs.toList.map .raw)
  | .func (.func f) fs cs => if fs.size = 0 ∧ cs.size = 0 then .fn f [] else .raw (.func (.func f) fs cs)
  | v => .raw v

def cOpd : Operand → Option Opd
  | .tmp t => some (.t t)
  | .const v => some (.c (svConst v))
  | .func f => some (.c (.fn f []))
  | .global _ => none

def cOpds (l : Array Operand) : Option (List Opd) := l.toList.mapM cOpd

def partsStruct (fields : Array Field) (l : List (Nat × Operand)) : Option (List (Nat × Nat × Opd)) := l.mapM fun (i, x) => do
  let f ← fields[i]?
  pure (f.offset, ← sizeT P f.type, ← cOpd x)

def partsRow (size : Nat) (l : List (Nat × Operand)) : Option (List (Nat × Nat × Opd)) := l.mapM fun (i, x) => do
  pure (i * size, size, ← cOpd x)

def fieldsCls (c : TypeId → Option (List FC)) : Nat → List Field → Option (List FC)
  | _, [] => some []
  | off, f :: r =>
    match c f.type, sizeT P f.type with
    | some cf, some sz => if f.name ≠ "_" ∧ f.offset = off ∧ cf.length = sz then
        match fieldsCls c (off + sz) r with
        | some cr => some (cf ++ cr)
        | none => none
      else none
    | _, _ => none
def clsT : Nat → TypeId → Option (List FC)
  | 0, _ => none
  | d + 1, t =>
    match P.underlying t with
    | some (.int _) => some [.i]
    | some .string => some [.s]
    | some .bool => some [.b]
    | some (.array n e) => match clsT d e, sizeT P e with
      | some c, some sz => if c.length = sz then some (List.flatten (List.replicate n c)) else none
      | _, _ => none
    | some (.struct fs) => if P.stoodInHeld t then none else fieldsCls P (clsT d) 0 fs.toList
    | _ => none
def binKind (op : BinOp) (t : TypeId) (x y : Operand) : BK :=
  if op = .eql ∨ op = .neq then
    match P.underlying t with
    | some .bool => .b
    | some (.pointer e) => match sizeT P e with
      | some (_ + 1) => .p
      | _ => .no
    | some (.slice _) => .sl
    | some (.map _ _) => .mp
    | some (.interface _) => match x, y with
      | .const .nilIface, _ => .ifn
      | _, .const .nilIface => .ifn
      | _, _ => .no
    | some (.struct _) | some (.array _ _) => if P.eqGuardType P.depth t then .no else match clsT P 9999 t with
      | some cl => .agg cl
      | none => .no
    | _ => .no
  else .no

def cOp (o : Oper) : Option VOp :=
  match o.op with
  | .move x | .assign x => do pure (.mov (← cOpd x))
  | .pick c a b => do pure (.pick (← cOpd c) (← cOpd a) (← cOpd b))
  | .alloc e => do pure (.new e (← zeroCellsT P e))
  | .box e x => do pure (.box e (← cOpd x))
  | .build t parts =>
    match P.underlying t with
    | some (.struct fs) => if fs.toList.all (fun f => (sizeT P f.type).isSome) then do pure (.build (← zeroCellsT P t) (← partsStruct P fs parts.toList)) else none
    | some (.array _ e) => do pure (.build (← zeroCellsT P t) (← partsRow (← sizeT P e) parts.toList))
    | _ => none
  | .buildSlice t n parts =>
    match P.underlying t with
    | some (.slice e) => do
      let sz ← sizeT P e
      if n * sz > 1000 ∨ (zeroT P e).isNone then none else
      let z ← zeroCellsT P e
      pure (.bslice e n ((List.range (n * sz)).map fun i => z[i % z.length]!) (← partsRow sz parts.toList))
    | _ => none
  | .load t x => do pure (.load (← shapeT P t) (← cOpd x))
  | .store t x v => do pure (.store (← shapeT P t) (← cOpd x) (← cOpd v))
  | .nilCheck x => do pure (.nilck (← cOpd x))
  | .binOp op t x y _ => do pure (.bin op (binKind P op t x y) (← cOpd x) (← cOpd y))
  | .unOp op _ x => do pure (.un op (← cOpd x))
  | .convert src dst x =>
    match P.underlying src, P.underlying dst with
    | some (.int _), some (.int k) => do pure (.conv (.int k) (← cOpd x))
    | some .string, some .string => do pure (.conv .same (← cOpd x))
    | some .string, some (.slice e) => match P.underlying e with
      | some (.int .u8) => do pure (.conv (.s2b e) (← cOpd x))
      | some (.int .i32) => do pure (.conv (.s2r e) (← cOpd x))
      | _ => none
    | some (.slice e), some .string => match P.underlying e with
      | some (.int .u8) => do pure (.conv .b2s (← cOpd x))
      | some (.int .i32) => do pure (.conv .r2s (← cOpd x))
      | _ => none
    | some (.slice _), some (.slice e) => match src == dst, P.underlying e with
      | true, some (.int .u8) => do pure (.conv .s2s (← cOpd x))
      | _, _ => none
    | _, _ => none
  | .makeInterface t x =>
    match P.underlying t with
    | some (.interface _) => none
    | some _ => do pure (.mkif t (← cOpd x))
    | none => none
  | .makeFunc (.func f) first caps => if first.size = 0 then do pure (.mkfn f (← cOpds caps)) else none
  | .makeMap _ none => some .mkmap
  | .makeSlice t l c =>
    match P.underlying t with
    | some (.slice e) => do
      let zs ← zeroCellsT P e
      if sizeT P e = some zs.length then pure (.mkslice e zs (← bytesT P e) (← cOpd l) (← cOpd c)) else none
    | _ => none
  | .slice t x lo hi none =>
    match P.underlying t with
    | some .string => do pure (.slice none (← cOpd x) (← lo.mapM cOpd) (← hi.mapM cOpd))
    | some (.slice e) => do pure (.slice (some (← sizeT P e)) (← cOpd x) (← lo.mapM cOpd) (← hi.mapM cOpd))
    | _ => none
  | .fieldAddr t x f =>
    match P.underlying t with
    | some (.struct fs) => do
      let fd ← fs[f]?
      if (← sizeT P fd.type) = 0 then none else pure (.faddr fd.offset (← cOpd x))
    | _ => none
  | .field t x f =>
    match P.underlying t with
    | some (.struct fs) => do
      let fd ← fs[f]?
      pure (.field fd.offset (← shapeT P fd.type) (← cOpd x))
    | _ => none
  | .indexAddr t x i =>
    match P.underlying t with
    | some (.array n e) => do if n ≤ 1 ∨ sizeT P e = some 0 then none else pure (.iaddr (← sizeT P e) (some n) (← cOpd x) (← cOpd i))
    | some (.slice e) => do if sizeT P e = some 0 then none else pure (.iaddr (← sizeT P e) none (← cOpd x) (← cOpd i))
    | _ => none
  | .index t x i =>
    match P.underlying t with
    | some .string => do pure (.sindex (← cOpd x) (← cOpd i))
    | some (.array n e) => match shapeT P e with
      | some none => do pure (.aindex n 1 false (← cOpd x) (← cOpd i))
      | some (some m) => do pure (.aindex n m true (← cOpd x) (← cOpd i))
      | none => none
    | _ => none
  | .lookup t m k ok =>
    match P.underlying t with
    | some (.map _ _) => do pure (.lookup t ok (← cOpd m) (← cOpd k))
    | _ => none
  | .mapUpdate t m k v | .insert t m k v => do pure (.mapup t (← cOpd m) (← cOpd k) (← cOpd v))
  | .range t m =>
    match P.underlying t with
    | some .string => do pure (.range true (← cOpd m))
    | some (.map _ _) => do pure (.range false (← cOpd m))
    | _ => none
  | .next it s => do pure (.next s (← cOpd it))
  | .entry it => do pure (.entry (← cOpd it))
  | .typeAssert x _ t ok =>
    match P.underlying t with
    | some (.interface _) => none
    | some _ => do pure (.tassert t ok (← zeroT P t) (← cOpd x))
    | _ => none
  | .extract x i => do pure (.extr (← cOpd x) i)
  | .call { callee := .value (.func f), args, .. } => if enters P f then do pure (.call f (← cOpds args)) else none
  | .call { callee := .value x, args, .. } => do pure (.callv (← cOpd x) (← cOpds args))
  | .call { callee := .invoke r m, args, .. } => do pure (.invoke m (← cOpd r) (← cOpds args))
  | .call { callee := .builtin b, args, argTypes } =>
    match b, args.toList, argTypes.toList with
    | .len, [x], [t] => do pure (.len (← lenKind P t) (← cOpd x))
    | .cap, [x], [t] => match lenKind P t with
      | some .sl => do pure (.cap (← cOpd x))
      | _ => none
    | .append, [x, y], t :: u :: _ => match P.underlying t, lenKind P u with
      | some (.slice e), some .sl | some (.slice e), some .str => do
        let sz ← sizeT P e
        let zs ← zeroCellsT P e
        let by' ← bytesT P e
        if sz = 0 ∨ zs.length ≠ sz ∨ by' = 0 then none else pure (.append e sz by' zs (← cOpd x) (← cOpd y))
      | _, _ => none
    | .min, [x, y], _ => do pure (.min (← cOpd x) (← cOpd y))
    | .max, [x, y], _ => do pure (.max (← cOpd x) (← cOpd y))
    | .delete, [m, k], t :: _ => do pure (.delete t (← cOpd m) (← cOpd k))
    | .copy, [x, y], t :: _ => match P.underlying t with
      | some (.slice e) => do pure (.copy (← sizeT P e) (← cOpd x) (← cOpd y))
      | _ => none
    | .clear, [x], t :: _ => match P.underlying t with
      | some (.slice e) => do pure (.clear (← sizeT P e) (← zeroCellsT P e) (← cOpd x))
      | _ => none
    | _, _, _ => none
  | _ => none

def cIns (ops : Array Oper) (o : Oper) : Option VIns := do
  let op ← cOp P o
  match o.guard with
  | none => pure ⟨o.dst, none, op⟩
  | some (j, w) => do pure ⟨o.dst, some (← (ops[j]?).bind (·.dst), w), op⟩

/-- Is the plan one? -/
def covers : Pl → Nat → Bool
  | .br p q, i => covers p i || covers q i
  | .st i _ _, j => i == j
  | _, _ => false
def Pl.depth : Pl → Nat
  | .done => 0
  | .fl _ p | .fr _ p | .st _ _ p => p.depth + 1
  | .br p q => Nat.max p.depth q.depth
def planOK (ops : Array Oper) (l : List VIns) : Bool → Pl → Array Bool → List Nat → Bool
  | b, .done, L, _ => !b && (Region.ready .any ops L).isEmpty
  | b, .fl i p, L, pd => !b && (Region.ready .any ops L).contains i && Region.free .any ops L i &&
    (match l[i]? with | some x => blind x.op | none => false) && planOK ops l false p (L.setIfInBounds i true) pd
  | b, .fr i p, L, pd => !b && (Region.ready .any ops L).contains i && Region.free .any ops L i &&
    (match l[i]? with | some x => still x.op | none => false) &&
    (match ops[i]? with | some o => (match o.dst with | some d => !(o.looksAt ops).contains d | none => false) | none => false) && planOK ops l false p (L.setIfInBounds i true) (i :: pd)
  | b, .st i rs p, L, pd => (b || Region.ready .any ops L == [i]) && pd.all (fun k => rs.contains k || (ancs .any ops i).contains k) &&
    planOK ops l false p (L.setIfInBounds i true) (pd.filter fun k => !(ancs .any ops i).contains k)
  | b, .br p q, L, pd => (b || ((Region.ready .any ops L).all (covers (.br p q)) && !(Region.ready .any ops L).isEmpty)) && planOK ops l true p L pd && planOK ops l true q L pd
def planFits (ops : Array Oper) (l : List VIns) (p : Pl) : Bool :=
  Region.noSelect ops && planOK ops l false p (Array.replicate ops.size false) [] && Nat.ble p.depth ops.size

def cCode (plans : List (Nat × Pl)) : Code → Option VCode
  | .skip => some .skip
  | .region id ops draw =>
    match ops.toList.mapM (cIns P ops) with
    | none => some .bad
    | some l => if draw then do
        let p ← (plans.find? (·.1 == id)).map (·.2)
        bif planFits ops l p then pure (.draw l p) else none
      else some (.reg l)
  | .seq a b => do pure (.seq (← cCode plans a) (← cCode plans b))
  | .cond c a b => do pure (.cond (← cOpd c) (← cCode plans a) (← cCode plans b))
  | .block id b => do pure (.block id (← cCode plans b))
  | .loop b => do pure (.loop (← cCode plans b))
  | .exit id => some (.exit id)
  | .ret => some .ret
  | _ => none

end compile
end Go.V

namespace Go.V
open Go
set_option linter.unusedSectionVars false

/-! ### What symbolic values stand for -/
abbrev Rho := Nat → Option Nat

mutual
def val (ρ : Rho) : SV → Value
  | .raw v => v
  | .kb b => .bool b
  | .ptr k o => .pointer (some ⟨(ρ k).getD 0, o, none⟩)
  | .ptx k o => .pointer (some ⟨(ρ k).getD 0, o, none⟩)
  | .sl k o n c => .slice ((ρ k).map fun b => ⟨b, o, none⟩) n c
  | .mp k => .map (ρ k)
  | .agg l => .agg (valL ρ l).toArray
  | .tup l => .tuple (valL ρ l).toArray
  | .fn f caps => .func (.func f) #[] (valL ρ caps).toArray
  | .ifc t v => .iface t (val ρ v)
def valL (ρ : Rho) : List SV → List Value
  | [] => []
  | v :: l => val ρ v :: valL ρ l
end

mutual
/-- Every block that is named stands ahead of n. -/
def below (n : Nat) : SV → Bool
  | .raw _ | .kb _ => true
  | .ptr k _ | .ptx k _ | .sl k _ _ _ | .mp k => k < n
  | .agg l | .tup l | .fn _ l => belowL n l
  | .ifc _ v => below n v
def belowL (n : Nat) : List SV → Bool
  | [] => true
  | v :: l => below n v && belowL n l
end

mutual
def ren (σ : Nat → Nat) : SV → SV
  | .raw v => .raw v
  | .kb b => .kb b
  | .ptr k o => .ptr (σ k) o
  | .ptx k o => .ptx (σ k) o
  | .sl k o n c => .sl (σ k) o n c
  | .mp k => .mp (σ k)
  | .agg l => .agg (renL σ l)
  | .tup l => .tup (renL σ l)
  | .fn f caps => .fn f (renL σ caps)
  | .ifc t v => .ifc t (ren σ v)
def renL (σ : Nat → Nat) : List SV → List SV
  | [] => []
  | v :: l => ren σ v :: renL σ l
end

def SO.ren (σ : Nat → Nat) : SO → SO
  | .cells l e => .cells (renL σ l) e
  | .iter (some m) s seen st => .iter (some (σ m)) s seen st
  | o => o

def SO.owned : SO → Bool
  | .cells .. | .arr .. | .map .. | .iter .. | .siter .. => true
  | _ => false
/-- Blocks by their numbers: those that are owned (heap), or that nobody writes (ghost). -/
def SO.claims : SO → Nat → Prop
  | .heap h, b | .ghost h, b => h b ≠ none
  | _, _ => False
def SO.isRo : SO → Bool
  | .ro .. => true
  | _ => false

def entryOK (ρ : Rho) (w : World) (k : Nat) : SO → Prop
  | .cells l e => ∃ b, ρ k = some b ∧ w.heap[b]? = some (.cells (valL ρ l).toArray e (0, 0))
  | .arr xs e => (ρ k = none ∧ xs = []) ∨ ∃ b fr, ρ k = some b ∧ w.heap[b]? = some (.cells xs.toArray e fr) ∧ (fr.1 = fr.2 ∨ xs.length ≤ fr.1)
  | .ro xs e => (ρ k = none ∧ xs = []) ∨ ∃ b fr, ρ k = some b ∧ w.heap[b]? = some (.cells xs.toArray e fr)
  | .map es c => ∃ b, ρ k = some b ∧ w.heap[b]? = some (.map es.toArray c)
  | .iter m s seen st => ∃ b, ρ k = some b ∧ w.heap[b]? = some (.mapIter (m.bind ρ) s seen.toArray st)
  | .siter s p => ∃ b, ρ k = some b ∧ w.heap[b]? = some (.stringIter s p)
  | .ghost h => ∀ b o, h b = some o → w.heap[b]? = some o
  | .heap h => ∀ b o, h b = some o → w.heap[b]? = some o
  | .gone => True

/-! ### Operations on symbolic states; those that end in K hand on what is written out -/
abbrev un : SV := .raw (.tuple #[])

def ev (t : List SV) : Opd → SV
  | .t i => t.getD i un
  | .c v => v
def evL (t : List SV) : List Opd → List SV
  | [] => []
  | x :: l => ev t x :: evL t l
def put (t : List SV) : Option Nat → SV → List SV
  | none, _ => t
  | some d, v => t.set d v
def obj (H : List SO) (k : Nat) : SO := H.getD k .gone

def getK : List SV → Nat → (SV → Prop) → Prop
  | [], _, K => K un
  | x :: _, 0, K => K x
  | _ :: l, i + 1, K => getK l i K
def evK (t : List SV) : Opd → (SV → Prop) → Prop
  | .t i, K => getK t i K
  | .c v, K => K v
def evLK (t : List SV) : List Opd → (List SV → Prop) → Prop
  | [], K => K []
  | x :: l, K => evK t x fun v => evLK t l fun vs => K (v :: vs)
def setK : List SV → Nat → SV → (List SV → Prop) → Prop
  | [], _, _, K => K []
  | _ :: l, 0, v, K => K (v :: l)
  | x :: l, i + 1, v, K => setK l i v fun l' => K (x :: l')
def putK (t : List SV) : Option Nat → SV → (List SV → Prop) → Prop
  | none, _, K => K t
  | some d, v, K => setK t d v K
def objK : List SO → Nat → (SO → Prop) → Prop
  | [], _, K => K .gone
  | x :: _, 0, K => K x
  | _ :: l, i + 1, K => objK l i K
def setHK : List SO → Nat → SO → (List SO → Prop) → Prop
  | [], _, _, K => K []
  | _ :: l, 0, v, K => K (v :: l)
  | x :: l, i + 1, v, K => setHK l i v fun l' => K (x :: l')
def natK (n : Nat) (K : Nat → Prop) : Prop :=
  match n with
  | 0 => K 0 | 1 => K 1 | 2 => K 2 | 3 => K 3 | 4 => K 4 | 5 => K 5 | 6 => K 6 | 7 => K 7 | 8 => K 8 | 9 => K 9
  | 10 => K 10 | 11 => K 11 | 12 => K 12 | 13 => K 13 | 14 => K 14 | 15 => K 15 | 16 => K 16 | 17 => K 17 | 18 => K 18 | 19 => K 19
  | n => K n
/-- A new block: its number, and the list with it. -/
def newHK (H : List SO) (o : SO) (K : Nat → List SO → Prop) : Prop :=
  natK H.length fun n => (go H fun H' => K n H')
where go : List SO → (List SO → Prop) → Prop
  | [], K => K [o]
  | x :: l, K => go l fun l' => K (x :: l')
mutual
def fK : SV → (SV → Prop) → Prop
  | .raw v, K => K (.raw v)
  | .kb b, K => K (.kb b)
  | .ptr k o, K => natK k fun k => K (.ptr k o)
  | .ptx k o, K => natK k fun k => K (.ptx k o)
  | .sl k o n c, K => natK k fun k => K (.sl k o n c)
  | .mp k, K => natK k fun k => K (.mp k)
  | .agg l, K => fLK l fun l => K (.agg l)
  | .tup l, K => fLK l fun l => K (.tup l)
  | .fn f l, K => fLK l fun l => K (.fn f l)
  | .ifc t v, K => fK v fun v => K (.ifc t v)
def fLK : List SV → (List SV → Prop) → Prop
  | [], K => K []
  | v :: l, K => fK v fun v => fLK l fun l => K (v :: l)
end
def fOK : SO → (SO → Prop) → Prop
  | .cells l e, K => fLK l fun l => K (.cells l e)
  | .iter (some m) s seen st, K => natK m fun m => K (.iter (some m) s seen st)
  | .iter none s seen st, K => K (.iter none s seen st)
  | .arr xs e, K => K (.arr xs e)
  | .ro xs e, K => K (.ro xs e)
  | .map es c, K => K (.map es c)
  | .siter s p, K => K (.siter s p)
  | .ghost h, K => K (.ghost h)
  | .heap h, K => K (.heap h)
  | .gone, K => K .gone
def fHK : List SO → (List SO → Prop) → Prop
  | [], K => K []
  | o :: l, K => fOK o fun o => fHK l fun l => K (o :: l)

/-- Cells [o, o + n) of a written list. -/
def cut {α : Type} : List α → Nat → Nat → Option (List α)
  | _, _, 0 => some []
  | [], _, _ + 1 => none
  | _ :: l, o + 1, n + 1 => cut l o (n + 1)
  | x :: l, 0, n + 1 => match cut l 0 n with
    | some l' => some (x :: l')
    | none => none
/-- The written list with ys at o. -/
def paste {α : Type} : List α → Nat → List α → Option (List α)
  | l, 0, [] => some l
  | [], 0, _ :: _ => none
  | _ :: l, 0, y :: ys => match paste l 0 ys with
    | some l' => some (y :: l')
    | none => none
  | [], _ + 1, _ => none
  | x :: l, o + 1, ys => match paste l o ys with
    | some l' => some (x :: l')
    | none => none

/-- May it lie in one cell? -/
def one : SV → Bool
  | .raw v => match v with | .agg _ | .tuple _ => false | _ => true
  | .agg _ | .tup _ => false
  | _ => true
def oneL : List SV → Bool
  | [] => true
  | v :: l => one v && oneL l

mutual
/-- Without blocks: the value itself. -/
def plain : SV → Option Value
  | .raw v => some v
  | .kb b => some (.bool b)
  | .agg l => match plainL l with | some vs => some (.agg vs.toArray) | none => none
  | .tup l => match plainL l with | some vs => some (.tuple vs.toArray) | none => none
  | .ifc t v => match plain v with | some x => some (.iface t x) | none => none
  | _ => none
def plainL : List SV → Option (List Value)
  | [] => some []
  | v :: l => match plain v, plainL l with
    | some x, some xs => some (x :: xs)
    | _, _ => none
end

/-- A part's cells. -/
def partCells : SV → Option (List SV)
  | .agg l => some l
  | v => bif one v then some [match v with | .kb b => .raw (.bool b) | v => v] else none
def pasteK (t : List SV) : List SV → List (Nat × Nat × Opd) → (List SV → Prop) → Prop
  | l, [], K => K l
  | l, (off, n, x) :: r, K => evK t x fun v => match partCells v with
      | some ys => bif ys.length == n then match paste l off ys with
        | some l' => pasteK t l' r K
        | none => False
        else False
      | none => False

def asB : SV → Option Bool
  | .kb b => some b
  | .raw (.bool b) => some b
  | _ => none

/-- '==' cell by cell. -/
def eqOne : FC → SV → SV → Option Bool
  | .i, .raw (.int k a), .raw (.int k' b) => bif (match k, k' with | .i8, .i8 | .i16, .i16 | .i32, .i32 | .i64, .i64 | .u8, .u8 | .u16, .u16 | .u32, .u32 | .u64, .u64 => true | _, _ => false) then some (decide (a = b)) else none
  | .s, .raw (.string a), .raw (.string b) => some (a == b)
  | .b, .raw (.bool a), .raw (.bool b) => some (a == b)
  | .b, .kb a, .kb b => some (a == b)
  | .b, .kb a, .raw (.bool b) => some (a == b)
  | .b, .raw (.bool a), .kb b => some (a == b)
  | _, _, _ => none
def eqCells : List FC → List SV → List SV → Option Bool
  | [], [], [] => some true
  | [c], [x], [y] => eqOne c x y
  | c :: cl, x :: l, y :: m => match eqOne c x y, eqCells cl l m with
    | some a, some b => some (a && b)
    | _, _ => none
  | _, _, _ => none

/-- What the model's operations on maps come to, on the entries alone. -/
def LookupIs (P : Program) (t : TypeId) (es : List MapEntry) (k v : Value) (there : Bool) : Prop :=
  ∀ (w : World) (b c : Nat) (ok : Bool), w.heap[b]? = some (.map es.toArray c) →
    (Instr.lookup t (.map (some b)) k ok).run P w = .ok (if ok then .tuple #[v, .bool there] else v) w
def UpdateIs (P : Program) (t : TypeId) (es : List MapEntry) (c : Nat) (k v : Value) (es' : List MapEntry) (c' : Nat) : Prop :=
  ∀ (w : World) (b : Nat), w.heap[b]? = some (.map es.toArray c) →
    (Instr.mapUpdate t (.map (some b)) k v).run P w = .ok () { w with heap := w.heap.setIfInBounds b (.map es'.toArray c') }
def DeleteIs (P : Program) (t : TypeId) (es : List MapEntry) (k : Value) (es' : List MapEntry) : Prop :=
  ∀ (w : World) (b c : Nat), w.heap[b]? = some (.map es.toArray c) →
    (Builtin.delete_ #[t, 0] 0 #[.map (some b), k]).run P w = .ok (.tuple #[]) { w with heap := w.heap.setIfInBounds b (.map es'.toArray c) }

/-- What blocks name stands ahead of n. -/
def okH (n : Nat) : List SO → Bool
  | [] => true
  | .cells l _ :: r => belowL n l && okH n r
  | .iter (some m) _ _ _ :: r => decide (m < n) && okH n r
  | _ :: r => okH n r

/-! ### Contracts -/
/-- The frame: blocks that stay as they are, and what lies outside the heap. -/
structure Fr where
  f : Nat → Option Obj
  os : Os
  tape : Nat → Question → Nat
  out : Array (Nat × ByteArray)
  dr : Nat
/-- Do contracts tell that draws are never taken back? (Some laws of the library do not.) -/
class Mode where
  strict : Bool
abbrev strictM : Mode := ⟨true⟩
abbrev laxM : Mode := ⟨false⟩
def Mode.dr [Mode] (w : World) : Nat := cond Mode.strict w.drawn 0
def DrOK [Mode] (g : Fr) (n : Nat) : Prop := g.dr ≤ n ∧ (Mode.strict = false → g.dr = 0)
theorem Mode.dr_le [Mode] (w : World) : Mode.dr w ≤ w.drawn := by unfold Mode.dr; cases Mode.strict <;> simp
theorem Mode.dr_lax [Mode] (w : World) (h : Mode.strict = false) : Mode.dr w = 0 := by unfold Mode.dr; rw [h]; rfl
theorem DrOK.mono [Mode] {g : Fr} {n m : Nat} (h : DrOK g n) (hm : n ≤ m) : DrOK g m := ⟨Nat.le_trans h.1 hm, h.2⟩
/-- What was so ahead of a call is so behind it. -/
theorem DrOK.behind [Mode] {g : Fr} {w : World} {n : Nat} (h : DrOK g w.drawn) (hn : Mode.dr w ≤ n) : DrOK g n := by
  refine ⟨?_, h.2⟩
  cases hs : (Mode.strict : Bool) with
  | false => rw [h.2 hs]; exact Nat.zero_le _
  | true => unfold Mode.dr at hn; rw [hs] at hn; exact Nat.le_trans h.1 hn
/-- A world's heap is X now; the rest as in w. -/
def HeapIs (w w' : World) (X : Array Obj) : Prop := w'.heap = X ∧ w'.os = w.os ∧ w'.tape = w.tape ∧ w'.output = w.output ∧ w.drawn ≤ w'.drawn

structure St [Mode] (ρ : Rho) (H : List SO) (g : Fr) (w : World) : Prop where
  ent : ∀ (k : Nat) so, H[k]? = some so → entryOK ρ w k so
  dis : ∀ (i j : Nat) si sj b, i ≠ j → H[i]? = some si → H[j]? = some sj → si.owned = true → (sj.owned = true ∨ sj.isRo = true) → ρ i = some b → ρ j ≠ some b
  gho : ∀ (i j : Nat) si h b, H[i]? = some si → si.owned = true → H[j]? = some (SO.ghost h) → ρ i = some b → h b = none
  env : w.os = g.os ∧ w.tape = g.tape ∧ w.output = g.out ∧ DrOK g w.drawn
  frm : ∀ b o, g.f b = some o → w.heap[b]? = some o
  frd : ∀ (i : Nat) si b, H[i]? = some si → si.owned = true → ρ i = some b → g.f b = none
  scp : ∀ (k : Nat) l e, H[k]? = some (SO.cells l e) → belowL H.length l = true
  sci : ∀ (k : Nat) m s seen st, H[k]? = some (SO.iter (some m) s seen st) → m < H.length
  hpf : ∀ (j : Nat) h b, H[j]? = some (SO.heap h) → h b ≠ none → g.f b = none
  hpo : ∀ (j i : Nat) h b si, H[j]? = some (SO.heap h) → h b ≠ none → H[i]? = some si → (si.owned = true ∨ si.isRo = true) → ρ i ≠ some b
  hpc : ∀ (j i : Nat) h b si, H[j]? = some (SO.heap h) → h b ≠ none → i ≠ j → H[i]? = some si → ¬ si.claims b

def Ctr [Mode] (P : Program) (f : FuncId) (args : List SV) (H : List SO) (Post : SV → List SO → Prop) : Prop :=
  ∀ ρ g w, St ρ H g w → belowL H.length args = true →
    Calls P f (valL ρ args).toArray w fun e w' => ∃ ρ' v H', e = .returned (val ρ' v) ∧ St ρ' H' g w' ∧ (∀ k, k < H.length → ρ' k = ρ k) ∧ H.length ≤ H'.length ∧
      below H'.length v = true ∧ Post v H'

/-- The caller's blocks that the callee is told of. -/
def sub (σ : List Nat) (n m : Nat) (k : Nat) : Nat := match σ[k]? with | some x => x | none => m + (k - n)
/-- How a callee that only reads sees a block. -/
def asked : SO → SO → SO
  | .ro .., .arr xs e => .ro xs e
  | _, o => o
def pickH (H : List SO) : List SO → List Nat → List SO
  | o :: r, k :: σ => asked o (obj H k) :: pickH H r σ
  | _, _ => []
def renH (σ : Nat → Nat) : List SO → List SO
  | [] => []
  | o :: r => o.ren σ :: renH σ r
/-- What a callee's claims on blocks that it did not own are worth to the caller: nothing. -/
def strip : SO → SO
  | .ro .. | .ghost .. => .gone
  | o => o
def SO.keeps : SO → Bool
  | .ro .. | .ghost .. => true
  | _ => false
def renS (σ : Nat → Nat) : List SO → List SO
  | [] => []
  | o :: r => strip (o.ren σ) :: renS σ r
def putH (σ : Nat → Nat) : List SO → List SO → List SO → List Nat → List SO
  | H, f :: fs, o :: r, k :: ks => putH σ (match f with | .ro .. | .ghost .. => H | _ => H.set k (strip (o.ren σ))) fs r ks
  | H, _, r, [] => H ++ renS σ r
  | H, _, _, _ => H
def nodup : List Nat → Bool
  | [] => true
  | k :: l => !l.contains k && nodup l

def okσ (n m : Nat) (σ : List Nat) : Bool := σ.length == n && nodup σ && σ.all (· < m)
def preσ : Nat → List Nat → Bool
  | k, σ => go 0 k σ
where go : Nat → Nat → List Nat → Bool
  | _, 0, _ => true
  | i, k + 1, j :: σ => i == j && go (i + 1) k σ
  | _, _ + 1, [] => false

/-- A nil slice that is told of as a slice of a block of its own (k), which does not lie in the heap: in these slots. -/
def setNil (k : Nat) : List SV → List Nat → Option (List SV)
  | l, [] => some l
  | l, p :: ps => match l[p]? with
    | some (.raw (.slice none 0 0)) => setNil k (l.set p (.sl k 0 0 0)) ps
    | _ => none
/-- .. in these cells. -/
def setNilH (k : Nat) : List SO → List (Nat × Nat) → Option (List SO)
  | H, [] => some H
  | H, (b, p) :: ps => match obj H b with
    | .cells l e => match l[p]? with
      | some (.raw (.slice none 0 0)) => setNilH k (H.set b (.cells (l.set p (.sl k 0 0 0)) e)) ps
      | _ => none
    | _ => none

/-! ### Blocks by their numbers in the heap -/
def updh (h : Nat → Option Obj) (b : Nat) (o : Obj) : Nat → Option Obj := fun b' => if b' = b then some o else h b'
def delh (h : Nat → Option Obj) (b : Nat) : Nat → Option Obj := fun b' => if b' = b then none else h b'
/-- What is known of block b out of entry j. -/
def HasB (H : List SO) (j b : Nat) (o : Obj) : Prop := match obj H j with
  | .heap h | .ghost h => h b = some o
  | _ => False
/-- k cells at an address. -/
def RowB (H : List SO) (a : Addr) (k : Nat) (ys : List Value) : Prop := (k = 0 ∧ ys = []) ∨
  ∃ (j b o : Nat) (xs : List Value) (e : TypeId) (fr : Nat × Nat), a = ⟨b, o, none⟩ ∧ HasB H j b (.cells xs.toArray e fr) ∧ ys = (xs.drop o).take k
mutual
/-- Block k by its number. -/
def rawV (k : Nat) (a : Option Nat) : SV → SV
  | .raw v => .raw v
  | .kb b => .kb b
  | .ptr k' o => match Nat.beq k' k with
    | true => .raw (.pointer (some ⟨a.getD 0, o, none⟩))
    | false => .ptr k' o
  | .ptx k' o => match Nat.beq k' k with
    | true => .raw (.pointer (some ⟨a.getD 0, o, none⟩))
    | false => .ptx k' o
  | .sl k' o n c => match Nat.beq k' k with
    | true => match a with
      | some b => .raw (.slice (some ⟨b, o, none⟩) n c)
      | none => .raw (.slice none n c)
    | false => .sl k' o n c
  | .mp k' => match Nat.beq k' k with
    | true => .raw (.map a)
    | false => .mp k'
  | .agg l => .agg (rawL k a l)
  | .tup l => .tup (rawL k a l)
  | .fn f l => .fn f (rawL k a l)
  | .ifc t v => .ifc t (rawV k a v)
def rawL (k : Nat) (a : Option Nat) : List SV → List SV
  | [] => []
  | v :: l => rawV k a v :: rawL k a l
end
def rawO (k : Nat) (a : Option Nat) : SO → SO
  | .cells l e => .cells (rawL k a l) e
  | o => o
def rawH (k : Nat) (a : Option Nat) : List SO → List SO
  | [] => []
  | o :: H => rawO k a o :: rawH k a H
/-- May cells of frame fr, n of them, be written? -/
def free (fr : Nat × Nat) (n : Nat) : Prop := fr.1 = fr.2 ∨ n ≤ fr.1

/-- Another look at the same state: blocks by name or by number. -/
inductive VView : List SV → List SO → (List SV → List SO → Prop) → Prop where
  | done {l : List SV} {H : List SO} {K : List SV → List SO → Prop} (h : K l H) : VView l H K
  | nil {l : List SV} {H : List SO} {K : List SV → List SO → Prop} {l' : List SV} {H' : List SO} (e : TypeId) (pos : List Nat) (posH : List (Nat × Nat))
    (fit : setNil H.length l pos = some l' ∧ setNilH H.length H posH = some H') (k : VView l' (H' ++ [.arr [] e]) K) : VView l H K
  | pubArr {l : List SV} {H : List SO} {K : List SV → List SO → Prop} {xs : List Value} {e : TypeId} {h : Nat → Option Obj} (k j : Nat) (fit : obj H k = .arr xs e ∧ obj H j = .heap h)
    (k0 : xs = [] → VView (rawL k none l) (rawH k none (H.set k .gone)) K)
    (k1 : ∀ b fr, h b = none → free fr xs.length → VView (rawL k (some b) l) (rawH k (some b) ((H.set k .gone).set j (.heap (updh h b (.cells xs.toArray e fr))))) K) : VView l H K
  | pubCells {l : List SV} {H : List SO} {K : List SV → List SO → Prop} {cs : List SV} {xs : List Value} {e : TypeId} {h : Nat → Option Obj} (k j : Nat) (fit : obj H k = .cells cs e ∧ obj H j = .heap h ∧ plainL cs = some xs)
    (k1 : ∀ b, h b = none → VView (rawL k (some b) l) (rawH k (some b) ((H.set k .gone).set j (.heap (updh h b (.cells xs.toArray e (0, 0)))))) K) : VView l H K
  | pubMap {l : List SV} {H : List SO} {K : List SV → List SO → Prop} {es : List MapEntry} {c : Nat} {h : Nat → Option Obj} (k j : Nat) (fit : obj H k = .map es c ∧ obj H j = .heap h)
    (k1 : ∀ b, h b = none → VView (rawL k (some b) l) (rawH k (some b) ((H.set k .gone).set j (.heap (updh h b (.map es.toArray c))))) K) : VView l H K
  | opnArr {l : List SV} {H : List SO} {K : List SV → List SO → Prop} {xs : List Value} {e : TypeId} {fr : Nat × Nat} {h : Nat → Option Obj} (j b : Nat) (l' : List SV) (H' : List SO) (hb : h b = some (.cells xs.toArray e fr) ∧ free fr xs.length)
    (fit : obj H j = .heap h ∧ rawL H.length (some b) l' = l ∧ rawH H.length (some b) H' = H.set j (.heap (delh h b)))
    (k1 : VView l' (H' ++ [.arr xs e]) K) : VView l H K
  | opnCells {l : List SV} {H : List SO} {K : List SV → List SO → Prop} {xs : List Value} {e : TypeId} {h : Nat → Option Obj} (j b : Nat) (l' : List SV) (H' : List SO) (hb : h b = some (.cells xs.toArray e (0, 0)))
    (fit : obj H j = .heap h ∧ rawL H.length (some b) l' = l ∧ rawH H.length (some b) H' = H.set j (.heap (delh h b)))
    (k1 : VView l' (H' ++ [.cells (xs.map .raw) e]) K) : VView l H K
  | opnMap {l : List SV} {H : List SO} {K : List SV → List SO → Prop} {es : List MapEntry} {c : Nat} {h : Nat → Option Obj} (j b : Nat) (l' : List SV) (H' : List SO) (hb : h b = some (.map es.toArray c))
    (fit : obj H j = .heap h ∧ rawL H.length (some b) l' = l ∧ rawH H.length (some b) H' = H.set j (.heap (delh h b)))
    (k1 : VView l' (H' ++ [.map es c]) K) : VView l H K

/-- A call, by the callee's contract; σ: the caller's blocks that it is about. -/
inductive VCall1 [Mode] (P : Program) (f : FuncId) (args : List SV) (H : List SO) (K : SV → List SO → Prop) : Prop where
  | mk {af : List SV} {Hf : List SO} {Post : SV → List SO → Prop} (σ : List Nat) (spec : Ctr P f af Hf Post)
    (fit : args = renL (sub σ Hf.length H.length) af ∧ pickH H Hf σ = renH (sub σ Hf.length H.length) Hf ∧ okσ Hf.length H.length σ = true)
    (k : ∀ v Hf', Post v Hf' → fK (ren (sub σ Hf.length H.length) v) fun v => fHK (putH (sub σ Hf.length H.length) H Hf Hf' σ) fun H' => K v H') : VCall1 P f args H K
inductive VCall [Mode] (P : Program) (f : FuncId) : List SV → List SO → (SV → List SO → Prop) → Prop where
  | one {args : List SV} {H : List SO} {K : SV → List SO → Prop} (h : VCall1 P f args H K) : VCall P f args H K
  | nil {args : List SV} {H : List SO} {K : SV → List SO → Prop} {args' : List SV} {H' : List SO} (e : TypeId) (pos : List Nat) (posH : List (Nat × Nat))
    (fit : setNil H.length args pos = some args' ∧ setNilH H.length H posH = some H') (k : VCall P f args' (H' ++ [.arr [] e]) K) : VCall P f args H K
  | view {args : List SV} {H : List SO} {K : SV → List SO → Prop} (h : VView args H (fun args' H' => VCall1 P f args' H' K)) : VCall P f args H K
  | fin {args : List SV} {H : List SO} {K : SV → List SO → Prop} {K' : SV → List SO → Prop} (h : VCall P f args H K')
    (hk : ∀ v H', K' v H' → VView [v] H' (fun l H'' => ∃ v', l = [v'] ∧ fK v' fun v' => fHK H'' fun H'' => K v' H'')) : VCall P f args H K
theorem VCall.mk [Mode] {P : Program} {f : FuncId} {args : List SV} {H : List SO} {K : SV → List SO → Prop} {af : List SV} {Hf : List SO} {Post : SV → List SO → Prop} (σ : List Nat) (spec : Ctr P f af Hf Post)
    (fit : args = renL (sub σ Hf.length H.length) af ∧ pickH H Hf σ = renH (sub σ Hf.length H.length) Hf ∧ okσ Hf.length H.length σ = true)
    (k : ∀ v Hf', Post v Hf' → fK (ren (sub σ Hf.length H.length) v) fun v => fHK (putH (sub σ Hf.length H.length) H Hf Hf' σ) fun H' => K v H') : VCall P f args H K := .one (.mk σ spec fit k)

def slElems (H : List SO) (sz : Nat) : SV → Option (List Value × Nat)
  | .sl k o n _ => match obj H k with
    | .arr xs _ | .ro xs _ => some ((xs.drop o).take (n * sz), n)
    | _ => none
  | .raw (.slice none 0 _) => some ([], 0)
  | .raw (.string s) => some (s.data.toList.map fun b => .int .u8 b.toNat, s.size)
  | _ => none

def intBits (op : BinOp) (k : IntKind) (x y : Int) : Int :=
  match op with
  | .and => k.wrap (BitVec.ofInt k.bits x &&& BitVec.ofInt k.bits y).toNat
  | .or => k.wrap (BitVec.ofInt k.bits x ||| BitVec.ofInt k.bits y).toNat
  | .xor => k.wrap (BitVec.ofInt k.bits x ^^^ BitVec.ofInt k.bits y).toNat
  | _ => k.wrap (BitVec.ofInt k.bits x &&& ~~~(BitVec.ofInt k.bits y)).toNat

section vc
variable [Mode] (P : Program)

def vcInt (op : BinOp) (k : IntKind) (a b : Int) (K : SV → Prop) : Prop :=
  match op with
  | .add => ∃ c, k.wrap (a + b) = c ∧ K (.raw (.int k c))
  | .sub => ∃ c, k.wrap (a - b) = c ∧ K (.raw (.int k c))
  | .mul => ∃ c, k.wrap (a * b) = c ∧ K (.raw (.int k c))
  | .quo => b ≠ 0 ∧ ∃ c, k.wrap (a.tdiv b) = c ∧ K (.raw (.int k c))
  | .rem => b ≠ 0 ∧ ∃ c, a.tmod b = c ∧ K (.raw (.int k c))
  | .and | .or | .xor | .andNot => ∃ c, intBits op k a b = c ∧ K (.raw (.int k c))
  | .eql => K (.raw (.bool (decide (a = b))))
  | .neq => K (.raw (.bool (!decide (a = b))))
  | .lss => K (.raw (.bool (decide (a < b))))
  | .leq => K (.raw (.bool (decide (a ≤ b))))
  | .gtr => K (.raw (.bool (decide (b < a))))
  | .geq => K (.raw (.bool (decide (b ≤ a))))
  | _ => False

/-- The answer b of '==', as 'op' tells it. -/
def vcEq (op : BinOp) (b : Bool) (K : SV → Prop) : Prop :=
  match op, b with
  | .eql, true | .neq, false => K (.kb true)
  | .eql, false | .neq, true => K (.kb false)
  | _, _ => False
def vcEqB (op : BinOp) (b : Bool) (K : SV → Prop) : Prop :=
  match op with
  | .eql => K (.raw (.bool b))
  | .neq => K (.raw (.bool (!b)))
  | _ => False

def vcBin (op : BinOp) (k : BK) (x y : SV) (H : List SO) (K : SV → Prop) : Prop :=
  match k with
  | .no =>
    match x, y with
    | .raw (.int k a), .raw (.int k' b) =>
      match op with
      | .shl => 0 ≤ b ∧ ∃ c, k.wrap (a * 2 ^ (min b.toNat k.bits)) = c ∧ K (.raw (.int k c))
      | .shr => 0 ≤ b ∧ ∃ c, a.fdiv (2 ^ (min b.toNat k.bits)) = c ∧ K (.raw (.int k c))
      | _ => if k = k' then vcInt op k a b K else False
    | .raw (.string a), .raw (.string b) =>
      match op with
      | .add => a.size + b.size ≤ 9223372036854775807 ∧ K (.raw (.string (a ++ b)))
      | .eql => K (.raw (.bool (a.toList == b.toList)))
      | .neq => K (.raw (.bool !(a.toList == b.toList)))
      | .lss => K (.raw (.bool (Op.bytesLess a.toList b.toList)))
      | .gtr => K (.raw (.bool !(Op.bytesLess a.toList b.toList || a.toList == b.toList)))
      | .leq => K (.raw (.bool (Op.bytesLess a.toList b.toList || a.toList == b.toList)))
      | .geq => K (.raw (.bool !(Op.bytesLess a.toList b.toList)))
      | _ => False
    | _, _ => False
  | .b => match asB x, asB y with
    | some a, some b => vcEqB op (a == b) K
    | _, _ => False
  | .p => match x, y with
    | .ptr _ _, .raw (.pointer none) | .raw (.pointer none), .ptr _ _ => vcEq op false K
    | .raw (.pointer none), .raw (.pointer none) => vcEq op true K
    | .ptr k o, .ptr k' o' => bif k == k' then vcEq op (o == o') K else False
    | .raw (.pointer (some _)), .raw (.pointer none) | .raw (.pointer none), .raw (.pointer (some _)) => vcEq op false K
    | _, _ => False
  | .agg cl => match x, y with
    | .agg l, .agg m => match eqCells cl l m with
      | some b => vcEqB op b K
      | none => False
    | _, _ => False
  | .ifn => match x, y with
    | .ifc _ _, .raw .nilIface | .raw .nilIface, .ifc _ _ => vcEq op false K
    | .raw (.iface _ _), .raw .nilIface | .raw .nilIface, .raw (.iface _ _) => vcEq op false K
    | .raw .nilIface, .raw .nilIface => vcEq op true K
    | _, _ => False
  | .sl => match x, y with
    | .raw (.slice none _ _), .raw (.slice none _ _) => vcEq op true K
    | .sl k _ _ _, .raw (.slice none _ _) => objK H k fun
      | .arr xs _ | .ro xs _ => ∀ b : Bool, (xs ≠ [] → b = false) → vcEqB op b K
      | _ => False
    | .raw (.slice (some _) _ _), .raw (.slice none _ _) => vcEq op false K
    | _, _ => False
  | .mp => match x, y with
    | .raw (.map none), .raw (.map none) => vcEq op true K
    | .mp k, .raw (.map none) => objK H k fun
      | .map .. => vcEq op false K
      | _ => False
    | _, _ => False

def rawsK : List Value → (List SV → Prop) → Prop
  | [], K => K []
  | v :: l, K => rawsK l fun l' => K (.raw v :: l')

def vcLoad (n : Option Nat) (a : SV) (H : List SO) (K : SV → Prop) : Prop :=
  match a with
  | .ptr k o => objK H k fun
    | .cells l _ => match n with
      | none => match l[o]? with
        | some v => K v
        | none => False
      | some m => match cut l o m with
        | some l' => K (.agg l')
        | none => False
    | .arr xs _ | .ro xs _ => match n with
      | none => ∃ v, xs[o]? = some v ∧ K (.raw v)
      | some m => ∃ l', cut xs o m = some l' ∧ rawsK l' fun l' => K (.agg l')
    | _ => False
  | .ptx k o => objK H k fun
    | .cells l _ => match n with
      | none => ∃ v, l[o]? = some v ∧ K v
      | some m => ∃ l', cut l o m = some l' ∧ K (.agg l')
    | .arr xs _ | .ro xs _ => match n with
      | none => ∃ v, xs[o]? = some v ∧ K (.raw v)
      | some m => ∃ l', cut xs o m = some l' ∧ rawsK l' fun l' => K (.agg l')
    | _ => False
  | .raw (.pointer (some ⟨b, o, none⟩)) => ∃ (j : Nat) (xs : List Value) (e : TypeId) (fr : Nat × Nat), HasB H j b (.cells xs.toArray e fr) ∧ match n with
    | none => ∃ v, xs[o]? = some v ∧ K (.raw v)
    | some m => ∃ l', cut xs o m = some l' ∧ rawsK l' fun l' => K (.agg l')
  | _ => False

/-- A known bool is a bool. -/
def nkb : SV → SV
  | .kb b => .raw (.bool b)
  | v => v
/-- What is stored: its cells. -/
def stored (n : Option Nat) (v : SV) : Option (List SV) :=
  match n, v with
  | none, v => bif one v then some [nkb v] else none
  | some m, .agg l => bif oneL l && (l.length == m) then some l else none
  | some _, _ => none

def vcStore (n : Option Nat) (a v : SV) (H : List SO) (K : List SO → Prop) : Prop :=
  match stored n v with
  | none => False
  | some ys =>
    match a with
    | .ptr k o => objK H k fun
      | .cells l e => match paste l o ys with
        | some l' => setHK H k (.cells l' e) K
        | none => False
      | .arr xs e => match plainL ys with
        | some zs => ∃ l', paste xs o zs = some l' ∧ setHK H k (.arr l' e) K
        | none => False
      | _ => False
    | .ptx k o => objK H k fun
      | .cells l e => ∃ l', paste l o ys = some l' ∧ setHK H k (.cells l' e) K
      | .arr xs e => match plainL ys with
        | some zs => ∃ l', paste xs o zs = some l' ∧ setHK H k (.arr l' e) K
        | none => False
      | _ => False
    | .raw (.pointer (some ⟨b, o, none⟩)) => match plainL ys with
      | some zs => ∃ (j : Nat) (h : Nat → Option Obj) (xs : List Value) (e : TypeId) (fr : Nat × Nat) (l' : List Value), (obj H j = .heap h ∧ h b = some (.cells xs.toArray e fr) ∧ free fr xs.length ∧ paste xs o zs = some l') ∧
          setHK H j (.heap (updh h b (.cells l'.toArray e fr))) K
      | none => False
    | _ => False

def vcSlice (sz : Option Nat) (v : SV) (lo hi : Option SV) (K : SV → Prop) : Prop :=
  match sz, v with
  | none, .raw (.string s) =>
    match lo, hi with
    | none, none => K v
    | some (.raw (.int _ l)), none => (0 ≤ l ∧ l ≤ s.size) ∧ K (.raw (.string (s.extract l.toNat s.size)))
    | none, some (.raw (.int _ h)) => (0 ≤ h ∧ h ≤ s.size) ∧ K (.raw (.string (s.extract 0 h.toNat)))
    | some (.raw (.int _ l)), some (.raw (.int _ h)) => (0 ≤ l ∧ l ≤ h ∧ h ≤ s.size) ∧ K (.raw (.string (s.extract l.toNat h.toNat)))
    | _, _ => False
  | some z, .sl k o n c =>
    match lo, hi with
    | none, none => K v
    | some (.raw (.int _ l)), none => (0 ≤ l ∧ l ≤ n) ∧ ∃ o', o' = (if c = l.toNat then o else o + l.toNat * z) ∧ K (.sl k o' (n - l.toNat) (c - l.toNat))
    | none, some (.raw (.int _ h)) => (0 ≤ h ∧ h ≤ c) ∧ K (.sl k o h.toNat c)
    | some (.raw (.int _ l)), some (.raw (.int _ h)) => (0 ≤ l ∧ l ≤ h ∧ h ≤ c) ∧ ∃ o', o' = (if c = l.toNat then o else o + l.toNat * z) ∧ K (.sl k o' (h.toNat - l.toNat) (c - l.toNat))
    | _, _ => False
  | some z, .raw (.slice (some ⟨b, o, none⟩) n c) =>
    match lo, hi with
    | none, none => K v
    | some (.raw (.int _ l)), none => (0 ≤ l ∧ l ≤ n) ∧ ∃ o', o' = (if c = l.toNat then o else o + l.toNat * z) ∧ K (.raw (.slice (some ⟨b, o', none⟩) (n - l.toNat) (c - l.toNat)))
    | none, some (.raw (.int _ h)) => (0 ≤ h ∧ h ≤ c) ∧ K (.raw (.slice (some ⟨b, o, none⟩) h.toNat c))
    | some (.raw (.int _ l)), some (.raw (.int _ h)) => (0 ≤ l ∧ l ≤ h ∧ h ≤ c) ∧ ∃ o', o' = (if c = l.toNat then o else o + l.toNat * z) ∧ K (.raw (.slice (some ⟨b, o', none⟩) (h.toNat - l.toNat) (c - l.toNat)))
    | _, _ => False
  | _, _ => False

def optK (t : List SV) : Option Opd → (Option SV → Prop) → Prop
  | none, K => K none
  | some x, K => evK t x fun v => K (some v)

def vcIaddr (sz : Nat) (len : Option Nat) (v : SV) (i : Opd) (iv : SV) (H : List SO) (K : SV → Prop) : Prop :=
  match v, len with
  | .ptr k o, some n => match i, iv with
    | .c _, .raw (.int _ j) => bif decide (0 ≤ j) && decide (j < n) then K (.ptr k (o + j.toNat * sz)) else False
    | _, .raw (.int _ j) => (0 ≤ j ∧ j < n) ∧ K (.ptx k (o + j.toNat * sz))
    | _, _ => False
  | .ptx k o, some n => match iv with
    | .raw (.int _ j) => (0 ≤ j ∧ j < n) ∧ K (.ptx k (o + j.toNat * sz))
    | _ => False
  | .sl k o n _, none => match iv with
    | .raw (.int _ j) => objK H k fun
      | .arr xs _ | .ro xs _ => (0 ≤ j ∧ j < n ∧ o + n * sz ≤ xs.length) ∧ K (.ptx k (o + j.toNat * sz))
      | _ => False
    | _ => False
  | .raw (.slice (some ⟨b, o, none⟩) n _), none => match iv with
    | .raw (.int _ j) => (0 ≤ j ∧ j < n) ∧ K (.raw (.pointer (some ⟨b, o + j.toNat * sz, none⟩)))
    | _ => False
  | .raw (.pointer (some ⟨b, o, none⟩)), some n => match iv with
    | .raw (.int _ j) => (0 ≤ j ∧ j < n) ∧ K (.raw (.pointer (some ⟨b, o + j.toNat * sz, none⟩)))
    | _ => False
  | _, _ => False

def vcPick (c a b : SV) (K : SV → Prop) : Prop :=
  match c with
  | .kb true => K a
  | .kb false => K b
  | .raw (.bool p) =>
    match asB a, asB b with
    | some x, some y => K (.raw (.bool (bif p then x else y)))
    | _, _ => (p = true → K a) ∧ (p = false → K b)
  | _ => False

def vcUn (op : UnOp) (v : SV) (K : SV → Prop) : Prop :=
  match op, v with
  | .not, .kb true => K (.kb false)
  | .not, .kb false => K (.kb true)
  | .not, .raw (.bool b) => K (.raw (.bool (!b)))
  | .neg, .raw (.int k n) => ∃ c, k.wrap (0 - n) = c ∧ K (.raw (.int k c))
  | .xor, .raw (.int k n) => ∃ c, intBits .xor k (if k.signed then -1 else k.max) n = c ∧ K (.raw (.int k c))
  | _, _ => False

/-- A text's runes, as '[]rune' lays them. -/
def runeVals (s : ByteArray) : List Value := (Conv.runesFrom s s.size 0 #[]).toList
def vcConv (c : Cv) (v : SV) (H : List SO) (K : SV → List SO → Prop) : Prop :=
  match c, v with
  | .int k, .raw (.int _ n) => ∃ m, k.wrap n = m ∧ K (.raw (.int k m)) H
  | .same, .raw (.string s) => K (.raw (.string s)) H
  | .s2b e, .raw (.string s) => ∀ c, s.size ≤ c → newHK H (.arr (s.data.toList.map (fun b => Value.int .u8 b.toNat) ++ List.replicate (c - s.size) (.int .u8 0)) e) fun n H' => K (.sl n 0 s.size c) H'
  | .b2s, .sl k o n c => ∃ (s : ByteArray), slElems H 1 (.sl k o n c) = some (s.data.toList.map (fun b => .int .u8 b.toNat), s.size) ∧ K (.raw (.string s)) H
  | .s2s, .sl k o n c => objK H k fun
    | .arr xs _ => xs ≠ [] ∧ K (.sl k o n c) H
    | _ => False
  | .b2s, .raw (.slice none 0 _) => K (.raw (.string ByteArray.empty)) H
  | .b2s, .raw (.slice (some a) n _) => ∃ s : ByteArray, (RowB H a n (s.data.toList.map fun b => .int .u8 b.toNat) ∧ s.size = n) ∧ K (.raw (.string s)) H
  | .r2s, .sl k o n c => ∃ ns : List Int, slElems H 1 (.sl k o n c) = some (ns.map (.int .i32 ·), ns.length) ∧ K (.raw (.string (runesBytes ns))) H
  | .r2s, .raw (.slice none 0 _) => K (.raw (.string ByteArray.empty)) H
  | .s2r e, .raw (.string s) => ∀ c, (runeVals s).length ≤ c → newHK H (.arr (runeVals s ++ List.replicate (c - (runeVals s).length) (.int .i32 0)) e) fun n H' => K (.sl n 0 (runeVals s).length c) H'
  | _, _ => False

def vcField (off : Nat) (n : Option Nat) (v : SV) (K : SV → Prop) : Prop :=
  match v with
  | .agg l => match n with
    | none => match l[off]? with
      | some v => K v
      | none => False
    | some m => match cut l off m with
      | some l' => K (.agg l')
      | none => False
  | _ => False

def vcLookup (ty : TypeId) (ok : Bool) (m k : SV) (H : List SO) (K : SV → Prop) : Prop :=
  match m, plain k with
  | .mp j, some key => objK H j fun
    | .map es _ => ∃ (v : SV) (there : Bool) (x : Value), LookupIs P ty es key x there ∧ plain v = some x ∧ K (match ok with | true => .tup [v, .raw (.bool there)] | false => v)
    | _ => False
  | _, _ => False

def vcMapup (ty : TypeId) (m k v : SV) (H : List SO) (K : List SO → Prop) : Prop :=
  match m, plain k, plain v with
  | .mp j, some key, some x => objK H j fun
    | .map es c => ∃ es' c', UpdateIs P ty es c key x es' c' ∧ setHK H j (.map es' c') K
    | _ => False
  | _, _, _ => False

def vcDelete (ty : TypeId) (m k : SV) (H : List SO) (K : List SO → Prop) : Prop :=
  match m, plain k with
  | .mp j, some key => objK H j fun
    | .map es c => ∃ es', DeleteIs P ty es key es' ∧ setHK H j (.map es' c) K
    | _ => False
  | _, _ => False

def vcNext (it : SV) (H : List SO) (K : SV → List SO → Prop) : Prop :=
  match it with
  | .ptr n 0 => objK H n fun
    | .iter none _ _ _ => K (.tup [.kb false]) H
    | .iter (some j) since seen last => objK H j fun
      | .map es c => ((∀ e ∈ es, e.born < since) ∧ since ≤ last) ∧
        ((∀ e ∈ es, e.born ∈ seen) → K (.tup [.kb false]) H) ∧
        ∀ e, e ∈ es → e.born ∉ seen → setHK H n (.iter (some j) since (seen ++ [e.born]) c) fun H' => K (.tup [.kb true, svConst e.key, svConst e.val]) H'
      | _ => False
    | _ => False
  | _ => False

def vcEntry (it : SV) (H : List SO) (K : SV → Prop) : Prop :=
  match it with
  | .ptr n 0 => objK H n fun
    | .iter (some j) _ seen stepped => objK H j fun
      | .map es c => ∃ s e, seen.getLast? = some s ∧ es.find? (·.born == s) = some e ∧ stepped = c ∧ K (.tup [svConst e.key, svConst e.val])
      | _ => False
    | _ => False
  | _ => False

/-- Values that may lie in one cell each. -/
def cellsOK : List Value → Bool
  | [] => true
  | .agg _ :: _ | .tuple _ :: _ => false
  | _ :: l => cellsOK l

/-- ys, m of them, behind x. -/
def vcAppendB (e : TypeId) (sz bytes : Nat) (x : SV) (ys : List Value) (m : Nat) (H : List SO) (K : SV → List SO → Prop) : Prop :=
  match x with
    | .sl k o n c => objK H k fun
      | .arr xs e' => ((n ≤ c ∧ o + c * sz ≤ xs.length ∧ e' = e) ∧ (ys.length = m * sz ∧ cellsOK ys = true) ∧ (n + m) * bytes ≤ 1099511627776) ∧
        ∀ zs' o' c', (n + m ≤ c' ∧ o' + c' * sz ≤ zs'.length ∧ (zs'.drop o').take ((n + m) * sz) = (xs.drop o).take (n * sz) ++ ys) →
          setHK H k .gone fun H1 => newHK H1 (.arr zs' e) fun j H' => K (.sl j o' (n + m) c') H'
      | _ => False
    | .raw (.slice none 0 0) => (ys.length = m * sz ∧ m * bytes ≤ 1099511627776) ∧
        ∀ zs' c', (m ≤ c' ∧ c' * sz ≤ zs'.length ∧ zs'.take (m * sz) = ys) → newHK H (.arr zs' e) fun j H' => K (.sl j 0 m c') H'
    | _ => False

def vcAppend (e : TypeId) (sz bytes : Nat) (x y : SV) (H : List SO) (K : SV → List SO → Prop) : Prop :=
  match slElems H sz y with
  | some (ys, m) => vcAppendB e sz bytes x ys m H K
  | none => match y with
    | .raw (.slice (some a) n _) => ∃ ys : List Value, RowB H a (n * sz) ys ∧ vcAppendB e sz bytes x ys n H K
    | _ => False

/-- Cells that are cleared: nothing is told of them. -/
def vcClear (sz : Nat) (zs : List Value) (x : SV) (H : List SO) (K : List SO → Prop) : Prop :=
  match x with
  | .sl k o n _ => objK H k fun
    | .arr xs e => (zs.length = sz ∧ cellsOK zs = true ∧ o + n * sz ≤ xs.length) ∧
        ∀ xs', (xs'.length = xs.length ∧ ∀ j, (j < o ∨ o + n * sz ≤ j) → xs'[j]? = xs[j]?) → setHK H k (.arr xs' e) K
    | _ => False
  | .raw (.slice none _ _) => K H
  | _ => False

/-- As many elements as there are, of both the least. -/
def vcCopy (sz : Nat) (x y : SV) (H : List SO) (K : SV → List SO → Prop) : Prop :=
  match slElems H sz y with
  | some (ys, m) => match x with
    | .sl k o n _ => objK H k fun
      | .arr xs e => (ys.length = m * sz ∧ cellsOK ys = true ∧ o + n * sz ≤ xs.length) ∧
          ∀ xs', (xs'.length = xs.length ∧ ∀ j, xs'[j]? = if o ≤ j ∧ j < o + (Nat.min m n) * sz then ys[j - o]? else xs[j]?) → setHK H k (.arr xs' e) fun H' => K (.raw (.int .i64 (Nat.min m n))) H'
      | _ => False
    | .raw (.slice none 0 _) => K (.raw (.int .i64 0)) H
    | _ => False
  | none => False

def vcMkslice (e : TypeId) (zs : List Value) (bytes : Nat) (l c : SV) (H : List SO) (K : SV → List SO → Prop) : Prop :=
  match l, c with
  | .raw (.int _ n), .raw (.int _ m) => (zs ≠ [] ∧ 0 ≤ n ∧ n ≤ m ∧ m ≤ 9223372036854775807 ∧ bytes * m ≤ 281474976710656) ∧
      newHK H (.arr ((List.range (m.toNat * zs.length)).map fun i => zs[i % zs.length]!) e) fun k H' => K (.sl k 0 n.toNat m.toNat) H'
  | _, _ => False

def vcTassert (ty : TypeId) (ok : Bool) (z : Value) (v : SV) (K : SV → Prop) : Prop :=
  match v with
  | .ifc u v => bif u == ty then K (match ok with | true => .tup [v, .kb true] | false => v) else bif ok then K (.tup [svConst z, .kb false]) else False
  | .raw (.iface u v) => bif u == ty then K (match ok with | true => .tup [svConst v, .kb true] | false => svConst v) else bif ok then K (.tup [svConst z, .kb false]) else False
  | .raw .nilIface => bif ok then K (.tup [svConst z, .kb false]) else False
  | _ => False

def vcLen (k : LK) (v : SV) (H : List SO) (K : SV → Prop) : Prop :=
  match k, v with
  | .sl, .sl _ _ n _ => K (.raw (.int .i64 n))
  | .str, .raw (.string s) => K (.raw (.int .i64 s.size))
  | .sl, .raw (.slice _ n _) => K (.raw (.int .i64 n))
  | .mp, .raw (.map none) => K (.raw (.int .i64 (0 : Nat)))
  | .mp, .mp j => objK H j fun
    | .map es _ => K (.raw (.int .i64 es.length))
    | _ => False
  | _, _ => False

/-- A method's function, where the receiver is handed on as it is. -/
def MethodIs (P : Program) (ty : TypeId) (m : String) (f : FuncId) : Prop :=
  ∀ (w : World) (v : Value), (method (P.types.size + Made.depth) ty v m).run P w = .ok (f, v) w
/-- What is owed where an operation is carried out: 'K' of the value and the blocks behind it. -/
def vcOp (op : VOp) (t : List SV) (H : List SO) (K : SV → List SO → Prop) : Prop :=
  match op with
  | .mov x => evK t x fun v => K v H
  | .pick c a b => evK t c fun c => evK t a fun a => evK t b fun b => vcPick c a b fun v => K v H
  | .new e zs => rawsK zs fun l => newHK H (.cells l e) fun n H' => K (.ptr n 0) H'
  | .box e x => evK t x fun
    | .agg l => newHK H (.cells l e) fun n H' => K (.ptr n 0) H'
    | .tup _ => False
    | v => bif one v then newHK H (.cells [v] e) fun n H' => K (.ptr n 0) H' else False
  | .build zs ps => rawsK zs fun l => pasteK t l ps fun l => K (.agg l) H
  | .bslice e n zs ps => rawsK zs fun l => pasteK t l ps fun l => match plainL l with
    | some xs => newHK H (.arr xs e) fun j H' => K (.sl j 0 n n) H'
    | none => False
  | .load n x => evK t x fun a => vcLoad n a H fun v => K v H
  | .store n x v => evK t x fun a => evK t v fun v => vcStore n a v H fun H' => K un H'
  | .nilck x => evK t x fun
    | .ptr k o => objK H k fun
      | .cells .. => K (.ptr k o) H
      | _ => False
    | .raw (.pointer (some a)) => K (.raw (.pointer (some a))) H
    | _ => False
  | .bin op k x y => evK t x fun x => evK t y fun y => vcBin op k x y H fun v => K v H
  | .un op x => evK t x fun v => vcUn op v fun v => K v H
  | .conv c x => evK t x fun v => vcConv c v H K
  | .mkif ty x => evK t x fun v => K (.ifc ty v) H
  | .mkfn f caps => evLK t caps fun l => K (.fn f l) H
  | .mkmap => newHK H (.map [] 0) fun n H' => K (.mp n) H'
  | .slice sz x lo hi => evK t x fun v => optK t lo fun lo => optK t hi fun hi => vcSlice sz v lo hi fun v => K v H
  | .faddr off x => evK t x fun
    | .ptr k o => K (.ptr k (o + off)) H
    | .ptx k o => K (.ptx k (o + off)) H
    | .raw (.pointer (some ⟨b, o, none⟩)) => K (.raw (.pointer (some ⟨b, o + off, none⟩))) H
    | _ => False
  | .field off n x => evK t x fun v => vcField off n v fun v => K v H
  | .iaddr sz len x i => evK t x fun v => evK t i fun iv => vcIaddr sz len v i iv H fun v => K v H
  | .sindex x i => evK t x fun v => evK t i fun iv => match v, iv with
    | .raw (.string s), .raw (.int _ j) => ∃ b, (0 ≤ j ∧ s.data.toList[j.toNat]? = some b) ∧ K (.raw (.int .u8 b.toNat)) H
    | _, _ => False
  | .aindex n sz agg x i => evK t x fun v => evK t i fun iv => match v, iv with
    | .agg l, .raw (.int _ j) => (0 ≤ j ∧ j < n) ∧
      (bif agg then ∃ l', cut l (j.toNat * sz) sz = some l' ∧ K (.agg l') H else ∃ v, l[j.toNat * sz]? = some v ∧ K v H)
    | _, _ => False
  | .lookup ty ok m k => evK t m fun m => evK t k fun k => vcLookup P ty ok m k H fun v => K v H
  | .mapup ty m k v => evK t m fun m => evK t k fun k => evK t v fun v => vcMapup P ty m k v H fun H' => K un H'
  | .delete ty m k => evK t m fun m => evK t k fun k => vcDelete P ty m k H fun H' => K un H'
  | .range false m => evK t m fun
    | .mp j => objK H j fun
      | .map _ c => newHK H (.iter (some j) c [] c) fun n H' => K (.ptr n 0) H'
      | _ => False
    | .raw (.map none) => newHK H (.iter none 0 [] 0) fun n H' => K (.ptr n 0) H'
    | _ => False
  | .range true m => evK t m fun
    | .raw (.string s) => newHK H (.siter s 0) fun n H' => K (.ptr n 0) H'
    | _ => False
  | .next false it => evK t it fun it => vcNext it H K
  | .next true it => evK t it fun
    | .ptr n 0 => objK H n fun
      | .siter s pos => (pos < s.size → ∀ c wd, Utf8.decode s pos = (c, wd) → setHK H n (.siter s (pos + wd)) fun H' => K (.tup [.kb true, .raw (.int .i64 pos), .raw (.int .i32 c)]) H') ∧
          (¬ pos < s.size → K (.tup [.kb false]) H)
      | _ => False
    | _ => False
  | .mkslice e zs bytes l c => evK t l fun l => evK t c fun c => vcMkslice e zs bytes l c H K
  | .clear sz zs x => evK t x fun x => vcClear sz zs x H fun H' => K un H'
  | .copy sz x y => evK t x fun x => evK t y fun y => vcCopy sz x y H K
  | .entry it => evK t it fun it => vcEntry it H fun v => K v H
  | .extr x i => evK t x fun
    | .tup l => match l[i]? with
      | some v => K v H
      | none => False
    | _ => False
  | .call f args => evLK t args fun vs => VCall P f vs H K
  | .callv f args => evK t f fun
    | .fn g caps => enters P g = true ∧ evLK t args fun vs => VCall P g (vs ++ caps) H K
    | .raw (.func (.func g) ⟨[]⟩ ⟨caps⟩) => enters P g = true ∧ evLK t args fun vs => rawsK caps fun caps => VCall P g (vs ++ caps) H K
    | _ => False
  | .invoke m r args => evK t r fun
    | .ifc ty v => ∃ f, (MethodIs P ty m f ∧ enters P f = true) ∧ evLK t args fun vs => VCall P f (v :: vs) H K
    | _ => False
  | .len k x => evK t x fun v => vcLen k v H fun v => K v H
  | .cap x => evK t x fun
    | .sl _ _ _ c => K (.raw (.int .i64 c)) H
    | .raw (.slice _ _ c) => K (.raw (.int .i64 c)) H
    | _ => False
  | .append e sz bytes _ x y => evK t x fun x => evK t y fun y => vcAppend e sz bytes x y H K
  | .min x y => evK t x fun x => evK t y fun y => match x, y with
    | .raw (.int k a), .raw (.int _ b) => K (.raw (.int k (if b < a then b else a))) H
    | _, _ => False
  | .max x y => evK t x fun x => evK t y fun y => match x, y with
    | .raw (.int k a), .raw (.int _ b) => K (.raw (.int k (if b > a then b else a))) H
    | _, _ => False
  | .tassert ty ok z x => evK t x fun v => vcTassert ty ok z v fun v => K v H
  | _ => False

/-- An instruction: with its guard. -/

def vcIns (i : VIns) (t : List SV) (H : List SO) (K : List SV → List SO → Prop) : Prop :=
  match i.guard with
  | none => vcOp P i.op t H fun v H' => putK t i.dst v fun t' => K t' H'
  | some (g, want) => getK t g fun
    | .kb b => bif b == want then vcOp P i.op t H fun v H' => putK t i.dst v fun t' => K t' H' else putK t i.dst un fun t' => K t' H
    | .raw (.bool b) =>
      (b = want → setK t g (.kb want) fun t => vcOp P i.op t H fun v H' => putK t i.dst v fun t' => K t' H') ∧
      (b = !want → setK t g (match want with | true => .kb false | false => .kb true) fun t => putK t i.dst un fun t' => K t' H)
    | .raw (.tuple _) => putK t i.dst un fun t' => K t' H
    | _ => False

def vcReg : List VIns → List SV → List SO → (List SV → List SO → Prop) → Prop
  | [], t, H, K => K t H
  | i :: r, t, H, K => match r with
    | [] => vcIns P i t H K
    | _ :: _ => vcIns P i t H fun t' H' => vcReg r t' H' K
theorem vcReg_cons (i : VIns) (r : List VIns) (t : List SV) (H : List SO) (K : List SV → List SO → Prop) : vcReg P (i :: r) t H K = vcIns P i t H fun t' H' => vcReg P r t' H' K := by
  cases r <;> rfl

/-- Those that were taken early and may come late yield behind u what they yielded. -/
def again (pend : List (Nat × (List SO → Prop))) (H : List SO) (K : Prop) : List Nat → Prop
  | [] => K
  | r :: rs => match pend.find? (·.1 == r) with
    | some p => p.2 H ∧ again pend H K rs
    | none => False

def inK : List SV → Nat → Prop → Prop
  | [], _, _ => False
  | _ :: _, 0, K => K
  | _ :: l, i + 1, K => inK l i K

def vcDraw (ops : List VIns) : Pl → List (Nat × (List SO → Prop)) → List SV → List SO → (List SV → List SO → Prop) → Prop
  | .done, _, t, H, K => K t H
  | .fl i p, pend, t, H, K =>
    match ops[i]? with
    | none => False
    | some x => match p with
      | .done => vcIns P x t H fun t' _ => K t' H
      | _ => vcIns P x t H fun t' _ => vcDraw ops p pend t' H K
  | .fr i p, pend, t, H, K =>
    match ops[i]? with
    | none => False
    | some x => match x.dst with
      | none => False
      | some d => vcIns P x t H fun t' _ => inK t' d (vcDraw ops p ((i, fun H' => vcIns P x t' H' fun t'' _ => ev t'' (.t d) = ev t' (.t d)) :: pend) t' H K)
  | .st i rs p, pend, t, H, K =>
    match ops[i]? with
    | none => False
    | some x => match p with
      | .done => vcIns P x t H fun t' H' => again pend H' (K t' H') rs
      | _ => vcIns P x t H fun t' H' => again pend H' (vcDraw ops p pend t' H' K) rs
  | .br p q, pend, t, H, K => vcDraw ops p pend t H K ∧ vcDraw ops q pend t H K

theorem vcDraw_fl (ops : List VIns) (i : Nat) (p : Pl) (pend : List (Nat × (List SO → Prop))) (t : List SV) (H : List SO) (K : List SV → List SO → Prop) :
    vcDraw P ops (.fl i p) pend t H K = match ops[i]? with
      | none => False
      | some x => vcIns P x t H fun t' _ => vcDraw P ops p pend t' H K := by
  cases p <;> rfl
theorem vcDraw_st (ops : List VIns) (i : Nat) (rs : List Nat) (p : Pl) (pend : List (Nat × (List SO → Prop))) (t : List SV) (H : List SO) (K : List SV → List SO → Prop) :
    vcDraw P ops (.st i rs p) pend t H K = match ops[i]? with
      | none => False
      | some x => vcIns P x t H fun t' H' => again pend H' (vcDraw P ops p pend t' H' K) rs := by
  cases p <;> rfl

inductive Ex where
  | normal | ret | exit (id : Nat)

/-- The table at a loop's head: what is told of, anything elsewhere. -/
def liveK (g : Nat → Value) : Nat → List SV → List (Nat × SV) → (List SV → Prop) → Prop
  | _, [], _, K => K []
  | i, _ :: t, [], K => liveK g (i + 1) t [] fun t' => K (.raw (g i) :: t')
  | i, _ :: t, (j, v) :: l, K => match Nat.beq i j with
    | true => fK v fun v => liveK g (i + 1) t l fun t' => K (v :: t')
    | false => liveK g (i + 1) t ((j, v) :: l) fun t' => K (.raw (g i) :: t')
def pickT (t : List SV) : List (Nat × SV) → List SV
  | [] => []
  | (i, _) :: l => nkb (t.getD i un) :: pickT t l
def renT (s : Nat → Nat) : List (Nat × SV) → List SV
  | [] => []
  | (_, v) :: l => nkb (ren s v) :: renT s l

/-- State (t, H) is of the written form, its blocks named by σ. -/
def sameLen : List SV → List SV → Bool
  | [], [] => true
  | _ :: a, _ :: b => sameLen a b
  | _, _ => false
def Fits (n0 : Nat) (t0 : List SV) (σ : List Nat) (t : List SV) (H : List SO) (live : List (Nat × SV)) (H0 : List SO) : Prop :=
  pickT t live = renT (sub σ H0.length H.length) live ∧ pickH H H0 σ = renH (sub σ H0.length H.length) H0 ∧ (okσ H0.length H.length σ && preσ n0 σ && sameLen t t0) = true

/-- A loop: 'live x', 'HH x': what is known at its head at x. -/
inductive VLoop1 (n0 : Nat) (body : List SV → List SO → (Ex → List SV → List SO → Prop) → Prop) (t : List SV) (H : List SO) (Q : Ex → List SV → List SO → Prop) : Prop where
  | mk (X : Type) (live : X → List (Nat × SV)) (HH : X → List SO) (inv : X → Prop) (μ : X → Nat) (x0 : X) (σ0 : List Nat)
    (start : inv x0 ∧ Fits n0 t σ0 t H (live x0) (HH x0))
    (round : ∀ x, inv x → ∀ g : Nat → Value, liveK g 0 t (live x) fun t1 => fHK (HH x) fun H1 => body t1 H1 fun e t' H' => match e with
      | .normal => ∃ x' σ, (inv x' ∧ μ x' < μ x) ∧ Fits n0 t σ t' H' (live x') (HH x')
      | e => Q e t' H') : VLoop1 n0 body t H Q
inductive VLoop (n0 : Nat) (body : List SV → List SO → (Ex → List SV → List SO → Prop) → Prop) : List SV → List SO → (Ex → List SV → List SO → Prop) → Prop where
  | one {t : List SV} {H : List SO} {Q : Ex → List SV → List SO → Prop} (h : VLoop1 n0 body t H Q) : VLoop n0 body t H Q
  | nil {t : List SV} {H : List SO} {Q : Ex → List SV → List SO → Prop} {t' : List SV} {H' : List SO} (e : TypeId) (pos : List Nat) (posH : List (Nat × Nat))
    (fit : setNil H.length t pos = some t' ∧ setNilH H.length H posH = some H') (k : VLoop n0 body t' (H' ++ [.arr [] e]) Q) : VLoop n0 body t H Q
theorem VLoop.mk {n0 : Nat} {body : List SV → List SO → (Ex → List SV → List SO → Prop) → Prop} {t : List SV} {H : List SO} {Q : Ex → List SV → List SO → Prop}
    (X : Type) (live : X → List (Nat × SV)) (HH : X → List SO) (inv : X → Prop) (μ : X → Nat) (x0 : X) (σ0 : List Nat)
    (start : inv x0 ∧ Fits n0 t σ0 t H (live x0) (HH x0))
    (round : ∀ x, inv x → ∀ g : Nat → Value, liveK g 0 t (live x) fun t1 => fHK (HH x) fun H1 => body t1 H1 fun e t' H' => match e with
      | .normal => ∃ x' σ, (inv x' ∧ μ x' < μ x) ∧ Fits n0 t σ t' H' (live x') (HH x')
      | e => Q e t' H') : VLoop n0 body t H Q := .one (.mk X live HH inv μ x0 σ0 start round)

def vcCode (n0 : Nat) : VCode → List SV → List SO → (Ex → List SV → List SO → Prop) → Prop
  | .skip, t, H, Q => Q .normal t H
  | .reg ops, t, H, Q => vcReg P ops t H (Q .normal)
  | .draw ops p, t, H, Q => vcDraw P ops p [] t H (Q .normal)
  | .seq a b, t, H, Q => vcCode n0 a t H fun e t' H' => match e with
    | .normal => vcCode n0 b t' H' Q
    | e => Q e t' H'
  | .cond c a b, t, H, Q =>
    evK t c fun
    | .kb true => vcCode n0 a t H Q
    | .kb false => vcCode n0 b t H Q
    | .raw (.bool p) => (p = true → vcCode n0 a t H Q) ∧ (p = false → vcCode n0 b t H Q)
    | _ => False
  | .block id a, t, H, Q => vcCode n0 a t H fun e t' H' => match e with
    | .exit i => bif i == id then Q .normal t' H' else Q (.exit i) t' H'
    | e => Q e t' H'
  | .loop a, t, H, Q => VLoop n0 (vcCode n0 a) t H Q
  | .exit id, t, H, Q => Q (.exit id) t H
  | .ret, t, H, Q => Q .ret t H
  | .bad, _, _, _ => False

inductive VRes where
  | t (i : Nat)
  | cell (i : Nat) (n : Option Nat)

/-- A known bool as any bool. -/
def normB : SV → SV
  | .kb b => .raw (.bool b)
  | v => v
def resOne (t : List SV) (H : List SO) : VRes → Option SV
  | .t i => some (normB (t.getD i (.raw (.tuple #[]))))
  | .cell i n => match t.getD i (.raw (.tuple #[])) with
    | .ptr k o => match obj H k with
      | .cells l _ => match n with
        | none => l[o]?
        | some m => (cut l o m).map .agg
      | _ => none
    | _ => none
def resAll (t : List SV) (H : List SO) : List VRes → Option (List SV)
  | [] => some []
  | r :: l => match resOne t H r, resAll t H l with
    | some x, some xs => some (x :: xs)
    | _, _ => none
def resSV (t : List SV) (H : List SO) (rs : List VRes) : Option SV :=
  match resAll t H rs with
  | some [x] => some x
  | some l => some (.tup l)
  | none => none

/-- The frame at a call: the arguments, and room. -/
def padK : Nat → List SV → (List SV → Prop) → Prop
  | 0, l, K => K l
  | n + 1, v :: l, K => padK n l fun l' => K (v :: l')
  | n + 1, [], K => padK n [] fun l' => K (un :: l')

/-- The end of a function: what it hands on is told under names of its own; the rest is forgotten. -/
inductive VRet1 (n0 : Nat) (v : SV) (H : List SO) (Post : SV → List SO → Prop) : Prop where
  | mk (σ : List Nat) (v' : SV) (H' : List SO) (fit : v = ren (sub σ H'.length H.length) v' ∧ pickH H H' σ = renH (sub σ H'.length H.length) H' ∧ (okσ H'.length H.length σ && preσ n0 σ) = true) (post : Post v' H') : VRet1 n0 v H Post
inductive VRet (n0 : Nat) : SV → List SO → (SV → List SO → Prop) → Prop where
  | one {v : SV} {H : List SO} {Post : SV → List SO → Prop} (h : VRet1 n0 v H Post) : VRet n0 v H Post
  | nil {v : SV} {H : List SO} {Post : SV → List SO → Prop} {v' : SV} {H' : List SO} (e : TypeId) (pos : List Nat) (posH : List (Nat × Nat))
    (fit : setNil H.length [v] pos = some [v'] ∧ setNilH H.length H posH = some H') (k : VRet n0 v' (H' ++ [.arr [] e]) Post) : VRet n0 v H Post
  | view {v : SV} {H : List SO} {Post : SV → List SO → Prop} (h : VView [v] H (fun l H' => ∃ v', l = [v'] ∧ VRet1 n0 v' H' Post)) : VRet n0 v H Post
theorem VRet.mk {n0 : Nat} {v : SV} {H : List SO} {Post : SV → List SO → Prop} (σ : List Nat) (v' : SV) (H' : List SO) (fit : v = ren (sub σ H'.length H.length) v' ∧ pickH H H' σ = renH (sub σ H'.length H.length) H' ∧ (okσ H'.length H.length σ && preσ n0 σ) = true) (post : Post v' H') : VRet n0 v H Post :=
  .one (.mk σ v' H' fit post)

def vcFun (nt : Nat) (rs : List VRes) (c : VCode) (args : List SV) (H : List SO) (Post : SV → List SO → Prop) : Prop :=
  padK nt args fun t => natK H.length fun n0 => vcCode P n0 c t H fun e t H' => match e with
    | .exit _ => False
    | _ => match resSV t H' rs with
      | some v => fK v fun v => VRet n0 v H' Post
      | none => False
end vc
end Go.V

namespace Go.V
open Go

/-! ### The words that end in K -/
theorem getK_eq : ∀ (t : List SV) (i : Nat) (K : SV → Prop), getK t i K = K (t.getD i un)
  | [], _, _ => rfl
  | _ :: _, 0, _ => rfl
  | _ :: l, i + 1, K => by simpa [getK] using getK_eq l i K
theorem evK_eq (t : List SV) (x : Opd) (K : SV → Prop) : evK t x K = K (ev t x) := by
  cases x <;> simp [evK, ev, getK_eq]
theorem evLK_eq (t : List SV) : ∀ (l : List Opd) (K : List SV → Prop), evLK t l K = K (evL t l)
  | [], _ => rfl
  | x :: l, K => by simp [evLK, evL, evK_eq, evLK_eq t l]
theorem setK_eq : ∀ (t : List SV) (i : Nat) (v : SV) (K : List SV → Prop), setK t i v K = K (t.set i v)
  | [], _, _, _ => rfl
  | _ :: _, 0, _, _ => rfl
  | _ :: l, i + 1, v, K => by simpa [setK] using setK_eq l i v _
theorem putK_eq (t : List SV) (d : Option Nat) (v : SV) (K : List SV → Prop) : putK t d v K = K (put t d v) := by
  cases d <;> simp [putK, put, setK_eq]
theorem objK_eq : ∀ (H : List SO) (i : Nat) (K : SO → Prop), objK H i K = K (obj H i)
  | [], _, _ => rfl
  | _ :: _, 0, _ => rfl
  | _ :: l, i + 1, K => by simpa [objK, obj] using objK_eq l i K
theorem setHK_eq : ∀ (t : List SO) (i : Nat) (v : SO) (K : List SO → Prop), setHK t i v K = K (t.set i v)
  | [], _, _, _ => rfl
  | _ :: _, 0, _, _ => rfl
  | _ :: l, i + 1, v, K => by simpa [setHK] using setHK_eq l i v _
theorem natK_eq (n : Nat) (K : Nat → Prop) : natK n K = K n := by
  unfold natK; split <;> rfl
theorem newHK_go_eq (o : SO) : ∀ (H : List SO) (K : List SO → Prop), newHK.go o H K = K (H ++ [o])
  | [], _ => rfl
  | x :: l, K => by simp [newHK.go, newHK_go_eq o l]
theorem newHK_eq (H : List SO) (o : SO) (K : Nat → List SO → Prop) : newHK H o K = K H.length (H ++ [o]) := by
  simp [newHK, natK_eq, newHK_go_eq]
theorem rawsK_eq : ∀ (l : List Value) (K : List SV → Prop), rawsK l K = K (l.map .raw)
  | [], _ => rfl
  | v :: l, K => by simp [rawsK, rawsK_eq l]
mutual
theorem fK_eq : ∀ (v : SV) (K : SV → Prop), fK v K = K v
  | .raw v, K => by simp [fK]
  | .kb b, K => by simp [fK]
  | .ptr k o, K => by simp [fK, natK_eq]
  | .ptx k o, K => by simp [fK, natK_eq]
  | .sl k o n c, K => by simp [fK, natK_eq]
  | .mp k, K => by simp [fK, natK_eq]
  | .agg l, K => by simp [fK, fLK_eq l]
  | .tup l, K => by simp [fK, fLK_eq l]
  | .fn f l, K => by simp [fK, fLK_eq l]
  | .ifc t v, K => by simp [fK, fK_eq v]
theorem fLK_eq : ∀ (l : List SV) (K : List SV → Prop), fLK l K = K l
  | [], K => by simp [fLK]
  | v :: l, K => by simp [fLK, fK_eq v, fLK_eq l]
end
theorem fOK_eq (o : SO) (K : SO → Prop) : fOK o K = K o := by
  cases o <;> (try (rename_i m _ _ _; cases m)) <;> simp [fOK, fLK_eq]
  rename_i m _ _ _
  cases m <;> simp [natK_eq]
theorem fHK_eq : ∀ (H : List SO) (K : List SO → Prop), fHK H K = K H
  | [], _ => rfl
  | o :: l, K => by simp [fHK, fOK_eq, fHK_eq l]
theorem padK_eq : ∀ (n : Nat) (l : List SV) (K : List SV → Prop), padK n l K = K (l ++ List.replicate (n - l.length) un)
  | 0, l, K => by simp [padK]
  | n + 1, v :: l, K => by simp [padK, padK_eq n l]
  | n + 1, [], K => by simp [padK, padK_eq n [], List.replicate_succ]
def headT (g : Nat → Value) : Nat → List SV → List (Nat × SV) → List SV
  | _, [], _ => []
  | i, _ :: t, [] => .raw (g i) :: headT g (i + 1) t []
  | i, _ :: t, (j, v) :: l => match Nat.beq i j with
    | true => v :: headT g (i + 1) t l
    | false => .raw (g i) :: headT g (i + 1) t ((j, v) :: l)
theorem liveK_eq (g : Nat → Value) : ∀ (i : Nat) (t : List SV) (l : List (Nat × SV)) (K : List SV → Prop), liveK g i t l K = K (headT g i t l)
  | _, [], _, _ => by simp [liveK, headT]
  | i, _ :: t, [], K => by simp only [liveK, headT]; rw [liveK_eq g (i + 1) t []]
  | i, _ :: t, (j, v) :: l, K => by
    simp only [liveK, headT]
    cases Nat.beq i j
    · simp only; rw [liveK_eq g (i + 1) t]
    · simp only [fK_eq]; rw [liveK_eq g (i + 1) t]
theorem optK_eq (t : List SV) (x : Option Opd) (K : Option SV → Prop) : optK t x K = K (x.map (ev t)) := by
  cases x <;> simp [optK, evK_eq]

/-! ### What values stand for -/
mutual
theorem val_congr {ρ ρ' : Rho} {n : Nat} (h : ∀ k, k < n → ρ' k = ρ k) : ∀ (v : SV), below n v = true → val ρ' v = val ρ v
  | .raw _, _ => by simp [val]
  | .kb _, _ => by simp [val]
  | .ptr k o, hb => by simp [below] at hb; simp [val, h k hb]
  | .ptx k o, hb => by simp [below] at hb; simp [val, h k hb]
  | .sl k o n c, hb => by simp [below] at hb; simp [val, h k hb]
  | .mp k, hb => by simp [below] at hb; simp [val, h k hb]
  | .agg l, hb => by simp [below] at hb; simp [val, valL_congr h l hb]
  | .tup l, hb => by simp [below] at hb; simp [val, valL_congr h l hb]
  | .fn f l, hb => by simp [below] at hb; simp [val, valL_congr h l hb]
  | .ifc t v, hb => by simp [below] at hb; simp [val, val_congr h v hb]
theorem valL_congr {ρ ρ' : Rho} {n : Nat} (h : ∀ k, k < n → ρ' k = ρ k) : ∀ (l : List SV), belowL n l = true → valL ρ' l = valL ρ l
  | [], _ => by simp [valL]
  | v :: l, hb => by simp [belowL] at hb; simp [valL, val_congr h v hb.1, valL_congr h l hb.2]
end
mutual
theorem below_mono {n m : Nat} (h : n ≤ m) : ∀ (v : SV), below n v = true → below m v = true
  | .raw _, _ => by simp [below]
  | .kb _, _ => by simp [below]
  | .ptr k o, hb => by simp [below] at *; omega
  | .ptx k o, hb => by simp [below] at *; omega
  | .sl k o n c, hb => by simp [below] at *; omega
  | .mp k, hb => by simp [below] at *; omega
  | .agg l, hb => by simp [below] at *; exact belowL_mono h l hb
  | .tup l, hb => by simp [below] at *; exact belowL_mono h l hb
  | .fn f l, hb => by simp [below] at *; exact belowL_mono h l hb
  | .ifc t v, hb => by simp [below] at *; exact below_mono h v hb
theorem belowL_mono {n m : Nat} (h : n ≤ m) : ∀ (l : List SV), belowL n l = true → belowL m l = true
  | [], _ => by simp [belowL]
  | v :: l, hb => by simp [belowL] at *; exact ⟨below_mono h v hb.1, belowL_mono h l hb.2⟩
end
mutual
theorem val_ren (ρ : Rho) (σ : Nat → Nat) : ∀ (v : SV), val ρ (ren σ v) = val (fun k => ρ (σ k)) v
  | .raw _ => by simp [ren, val]
  | .kb _ => by simp [ren, val]
  | .ptr k o => by simp [ren, val]
  | .ptx k o => by simp [ren, val]
  | .sl k o n c => by simp [ren, val]
  | .mp k => by simp [ren, val]
  | .agg l => by simp [ren, val, valL_ren ρ σ l]
  | .tup l => by simp [ren, val, valL_ren ρ σ l]
  | .fn f l => by simp [ren, val, valL_ren ρ σ l]
  | .ifc t v => by simp [ren, val, val_ren ρ σ v]
theorem valL_ren (ρ : Rho) (σ : Nat → Nat) : ∀ (l : List SV), valL ρ (renL σ l) = valL (fun k => ρ (σ k)) l
  | [] => by simp [renL, valL]
  | v :: l => by simp [renL, valL, val_ren ρ σ v, valL_ren ρ σ l]
end
mutual
theorem below_ren (σ : Nat → Nat) {n m : Nat} (h : ∀ k, k < n → σ k < m) : ∀ (v : SV), below n v = true → below m (ren σ v) = true
  | .raw _, _ => by simp [ren, below]
  | .kb _, _ => by simp [ren, below]
  | .ptr k o, hb => by simp [ren, below] at *; exact h k hb
  | .ptx k o, hb => by simp [ren, below] at *; exact h k hb
  | .sl k o _ c, hb => by simp [ren, below] at *; exact h k hb
  | .mp k, hb => by simp [ren, below] at *; exact h k hb
  | .agg l, hb => by simp [ren, below] at *; exact belowL_ren σ h l hb
  | .tup l, hb => by simp [ren, below] at *; exact belowL_ren σ h l hb
  | .fn f l, hb => by simp [ren, below] at *; exact belowL_ren σ h l hb
  | .ifc t v, hb => by simp [ren, below] at *; exact below_ren σ h v hb
theorem belowL_ren (σ : Nat → Nat) {n m : Nat} (h : ∀ k, k < n → σ k < m) : ∀ (l : List SV), belowL n l = true → belowL m (renL σ l) = true
  | [], _ => by simp [renL, belowL]
  | v :: l, hb => by simp [renL, belowL] at *; exact ⟨below_ren σ h v hb.1, belowL_ren σ h l hb.2⟩
end

theorem valL_eq (ρ : Rho) : ∀ (l : List SV), valL ρ l = l.map (val ρ)
  | [] => rfl
  | v :: l => by simp [valL, valL_eq ρ l]
theorem belowL_eq (n : Nat) : ∀ (l : List SV), belowL n l = true ↔ ∀ v ∈ l, below n v = true
  | [] => by simp [belowL]
  | v :: l => by simp [belowL, belowL_eq n l]
theorem val_getD (ρ : Rho) (t : List SV) (i : Nat) : (valL ρ t).toArray.getD i undef = val ρ (t.getD i un) := by
  rw [valL_eq]
  by_cases h : i < t.length <;> simp [h, undef, val]
theorem below_getD {n : Nat} {t : List SV} (h : belowL n t = true) (i : Nat) : below n (t.getD i un) = true := by
  rw [belowL_eq] at h
  by_cases hi : i < t.length
  · simp [hi]; exact h _ (List.getElem_mem hi)
  · simp [hi, below]
theorem belowL_set {n : Nat} {t : List SV} (h : belowL n t = true) (i : Nat) {v : SV} (hv : below n v = true) : belowL n (t.set i v) = true := by
  rw [belowL_eq] at *
  intro x hx
  rcases List.mem_or_eq_of_mem_set hx with h1 | h1
  · exact h x h1
  · exact h1 ▸ hv
theorem belowL_put {n : Nat} {t : List SV} (h : belowL n t = true) (d : Option Nat) {v : SV} (hv : below n v = true) : belowL n (put t d v) = true := by
  cases d with
  | none => exact h
  | some d => exact belowL_set h d hv
theorem belowL_append {n : Nat} {a b : List SV} : belowL n (a ++ b) = true ↔ belowL n a = true ∧ belowL n b = true := by
  simp only [belowL_eq, List.mem_append]
  constructor
  · exact fun h => ⟨fun v hv => h v (.inl hv), fun v hv => h v (.inr hv)⟩
  · rintro ⟨h1, h2⟩ v (hv | hv)
    · exact h1 v hv
    · exact h2 v hv

/-- The operands of the model's code, and their symbolic twins. -/
theorem val_svConst (ρ : Rho) (v : Value) : val ρ (svConst v) = v := by
  cases v <;> try rfl
  · rename_i fn fs cs
    cases fn <;> simp only [svConst]
    · split
      · rename_i h
        obtain ⟨h1, h2⟩ := h
        have e1 : fs = #[] := Array.eq_empty_of_size_eq_zero h1
        have e2 : cs = #[] := Array.eq_empty_of_size_eq_zero h2
        subst e1 e2
        simp [val, valL]
      · simp [val]
    all_goals rfl
  · simp [svConst, val, valL_eq, Function.comp_def]
  · simp [svConst, val, valL_eq, Function.comp_def]
theorem below_raws (n : Nat) (l : List Value) : belowL n (l.map .raw) = true := by
  rw [belowL_eq]; intro v hv; obtain ⟨x, _, rfl⟩ := List.mem_map.1 hv; rfl
theorem below_svConst (n : Nat) (v : Value) : below n (svConst v) = true := by
  cases v <;> try rfl
  · rename_i fn fs cs
    cases fn <;> simp only [svConst]
    · split <;> simp [below, belowL]
    all_goals rfl
  · simpa [svConst, below] using below_raws n _
  · simpa [svConst, below] using below_raws n _

/-- The frame of the model and the symbolic one. -/
def Frm (ρ : Rho) (t : List SV) (a : Act) : Prop := a.tmps = (valL ρ t).toArray

theorem eval_ev {ρ : Rho} {t : List SV} {a : Act} (hf : Frm ρ t a) {o : Operand} {x : Opd} (h : cOpd o = some x) : a.eval o = val ρ (ev t x) := by
  cases o <;> simp [cOpd] at h <;> subst h
  · simp only [Act.eval, ev]; rw [hf]; exact val_getD _ _ _
  · simp [Act.eval, ev, val_svConst]
  · simp [Act.eval, ev, val, valL]
theorem below_ev {n : Nat} {t : List SV} (h : belowL n t = true) {o : Operand} {x : Opd} (hx : cOpd o = some x) : below n (ev t x) = true := by
  cases o <;> simp [cOpd] at hx <;> subst hx
  · exact below_getD h _
  · exact below_svConst n _
  · simp [ev, below, belowL]
theorem Frm.put {ρ : Rho} {t : List SV} {a : Act} (hf : Frm ρ t a) (d : Option Nat) (v : SV) : Frm ρ (put t d v) (a.put d (val ρ v)) := by
  cases d with
  | none => exact hf
  | some d => simp [Frm, Act.put, V.put] at *; simp [hf, valL_eq, List.map_set]
theorem Frm.ext {ρ ρ' : Rho} {t : List SV} {a : Act} {n : Nat} (hf : Frm ρ t a) (h : ∀ k, k < n → ρ' k = ρ k) (hb : belowL n t = true) : Frm ρ' t a := by
  unfold Frm at *; rw [hf, valL_congr h t hb]
end Go.V

namespace Go.V
open Go
set_option linter.unusedSectionVars false
variable [Mode]

/-! ### States -/
def upd (ρ : Rho) (n : Nat) (b : Option Nat) : Rho := fun k => if k = n then b else ρ k
theorem upd_same (ρ : Rho) (n : Nat) (b : Option Nat) : upd ρ n b n = b := by simp [upd]
theorem upd_lt (ρ : Rho) {n k : Nat} (b : Option Nat) (h : k < n) : upd ρ n b k = ρ k := by simp [upd]; omega

theorem entryOK_congr {ρ ρ' : Rho} {w w' : World} {k n : Nat} {so : SO} (hk : k < n) (h : entryOK ρ w k so) (hr : ∀ j, j < n → ρ' j = ρ j)
    (hs : ∀ l e, so = .cells l e → belowL n l = true) (hi : ∀ m s seen st, so = .iter (some m) s seen st → m < n)
    (hw : ∀ (b : Nat) (o : Obj), so ≠ .gone → w.heap[b]? = some o → ((so.owned = true ∨ so.isRo = true) → ρ k = some b) → (∀ h, so = .ghost h ∨ so = .heap h → h b = some o) → w'.heap[b]? = some o) : entryOK ρ' w' k so := by
  have hk' := hr k hk
  cases so <;> simp only [entryOK] at h ⊢
  case cells l e =>
    obtain ⟨b, h1, h2⟩ := h
    refine ⟨b, hk' ▸ h1, ?_⟩
    rw [valL_congr hr l (hs l e rfl)]
    exact hw _ _ (by simp) h2 (fun _ => h1) (by simp)
  case arr xs e =>
    rcases h with ⟨h1, h2⟩ | ⟨b, fr, h1, h2, h3⟩
    · exact .inl ⟨hk' ▸ h1, h2⟩
    · exact .inr ⟨b, fr, hk' ▸ h1, hw _ _ (by simp) h2 (fun _ => h1) (by simp), h3⟩
  case ro xs e =>
    rcases h with ⟨h1, h2⟩ | ⟨b, fr, h1, h2⟩
    · exact .inl ⟨hk' ▸ h1, h2⟩
    · exact .inr ⟨b, fr, hk' ▸ h1, hw _ _ (by simp) h2 (fun _ => h1) (by simp)⟩
  case map es c =>
    obtain ⟨b, h1, h2⟩ := h
    exact ⟨b, hk' ▸ h1, hw _ _ (by simp) h2 (fun _ => h1) (by simp)⟩
  case iter m s seen st =>
    obtain ⟨b, h1, h2⟩ := h
    refine ⟨b, hk' ▸ h1, ?_⟩
    have : m.bind ρ' = m.bind ρ := by
      cases m with
      | none => rfl
      | some m => exact hr m (hi m s seen st rfl)
    rw [this]
    exact hw _ _ (by simp) h2 (fun _ => h1) (by simp)
  case siter s p =>
    obtain ⟨b, h1, h2⟩ := h
    exact ⟨b, hk' ▸ h1, hw _ _ (by simp) h2 (fun _ => h1) (by simp)⟩
  case ghost gh =>
    intro b o hb
    exact hw b o (by simp) (h b o hb) (fun hh => by simp [SO.owned, SO.isRo] at hh) (fun h' e => by rcases e with e | e <;> cases e; exact hb)
  case heap gh =>
    intro b o hb
    exact hw b o (by simp) (h b o hb) (fun hh => by simp [SO.owned, SO.isRo] at hh) (fun h' e => by rcases e with e | e <;> cases e; exact hb)

theorem entryOK_lt {ρ : Rho} {w : World} {k b : Nat} {so : SO} (h : entryOK ρ w k so) (ho : so.owned = true ∨ so.isRo = true) (hr : ρ k = some b) : b < w.heap.size := by
  have key : ∀ (b' : Nat) (o : Obj), ρ k = some b' → w.heap[b']? = some o → b < w.heap.size := by
    intro b' o h1 h2
    rw [hr] at h1; cases h1
    exact (Array.getElem?_eq_some_iff.1 h2).1
  cases so <;> simp only [entryOK, SO.owned, SO.isRo] at h ho
  case cells l e => obtain ⟨b', h1, h2⟩ := h; exact key _ _ h1 h2
  case arr xs e =>
    rcases h with ⟨h1, _⟩ | ⟨b', fr, h1, h2, _⟩
    · rw [hr] at h1; cases h1
    · exact key _ _ h1 h2
  case ro xs e =>
    rcases h with ⟨h1, _⟩ | ⟨b', fr, h1, h2⟩
    · rw [hr] at h1; cases h1
    · exact key _ _ h1 h2
  case map es c => obtain ⟨b', h1, h2⟩ := h; exact key _ _ h1 h2
  case iter m s seen st => obtain ⟨b', h1, h2⟩ := h; exact key _ _ h1 h2
  case siter s p => obtain ⟨b', h1, h2⟩ := h; exact key _ _ h1 h2
  all_goals simp at ho

theorem SO.owned_claims {so : SO} (h : so.owned = true) (b : Nat) : ¬ so.claims b := by
  cases so <;> simp [SO.owned, SO.claims] at h ⊢
theorem SO.owned_heap {so : SO} {gh : Nat → Option Obj} (h : so.owned = true) : so ≠ .heap gh := by
  rintro rfl; simp [SO.owned] at h
theorem obj_some {H : List SO} {k : Nat} (h : obj H k ≠ .gone) : H[k]? = some (obj H k) := by
  unfold obj at *
  by_cases hk : k < H.length
  · simp [hk]
  · simp [hk] at h

section
variable {ρ : Rho} {H : List SO} {g : Fr} {w w' : World}

theorem HeapIs.env {X : Array Obj} (h : HeapIs w w' X) (hS : St ρ H g w) : w'.os = g.os ∧ w'.tape = g.tape ∧ w'.output = g.out ∧ DrOK g w'.drawn :=
  ⟨h.2.1.trans hS.env.1, h.2.2.1.trans hS.env.2.1, h.2.2.2.1.trans hS.env.2.2.1, hS.env.2.2.2.mono h.2.2.2.2⟩

theorem St.heap (h : St ρ H g w) (hwe : HeapIs w w' w.heap) : St ρ H g w' := by
  have hw := hwe.1
  constructor
  · intro k so hk
    have := h.ent k so hk
    cases so <;> simp only [entryOK, hw] at this ⊢ <;> exact this
  · exact h.dis
  · exact h.gho
  · exact hwe.env h
  · rw [hw]; exact h.frm
  · exact h.frd
  · exact h.scp
  · exact h.sci
  · exact h.hpf
  · exact h.hpo
  · exact h.hpc

/-- A new block. -/
theorem St.alloc (h : St ρ H g w) {so : SO} {o : Obj} (hwe : HeapIs w w' (w.heap.push o)) (hown : so.owned = true)
    (he : entryOK (upd ρ H.length (some w.heap.size)) w' H.length so)
    (hs : ∀ l e, so = .cells l e → belowL H.length l = true) (hi : ∀ m s seen st, so = .iter (some m) s seen st → m < H.length) :
    St (upd ρ H.length (some w.heap.size)) (H ++ [so]) g w' := by
  have hw := hwe.1
  have hold : ∀ (b : Nat) (o' : Obj), w.heap[b]? = some o' → w'.heap[b]? = some o' := by
    intro b o' hb
    have hlt := (Array.getElem?_eq_some_iff.1 hb).1
    rw [hw, Array.getElem?_push_lt hlt]
    simpa [hlt] using hb
  have hget : ∀ (k : Nat) s, (H ++ [so])[k]? = some s → (k < H.length ∧ H[k]? = some s) ∨ (k = H.length ∧ s = so) := by
    intro k s hk
    rcases Nat.lt_trichotomy k H.length with h1 | h1 | h1
    · exact .inl ⟨h1, by rwa [List.getElem?_append_left h1] at hk⟩
    · subst h1; simp at hk; exact .inr ⟨rfl, hk.symm⟩
    · rw [List.getElem?_eq_none (by simp; omega)] at hk; cases hk
  have hlen : ∀ {k : Nat} {s : SO}, H[k]? = some s → k < H.length := fun hk => (List.getElem?_eq_some_iff.1 hk).1
  constructor
  · intro k s hk
    rcases hget k s hk with ⟨h1, h2⟩ | ⟨h1, h2⟩
    · refine entryOK_congr h1 (h.ent k s h2) (fun j hj => upd_lt ρ _ hj) ?_ ?_ (fun b o' _ hb _ _ => hold b o' hb)
      · rintro l e rfl; exact h.scp k l e h2
      · rintro m s' seen st rfl; exact h.sci k m s' seen st h2
    · subst h1 h2; exact he
  · intro i j si sj b hij hi' hj' ho hoj hb
    rcases hget i si hi' with ⟨h1, h2⟩ | ⟨h1, h2⟩ <;> rcases hget j sj hj' with ⟨h3, h4⟩ | ⟨h3, h4⟩
    · rw [upd_lt ρ _ h1] at hb; rw [upd_lt ρ _ h3]; exact h.dis i j si sj b hij h2 h4 ho hoj hb
    · subst h3; rw [upd_lt ρ _ h1] at hb; rw [upd_same]
      have := entryOK_lt (h.ent i si h2) (.inl ho) hb
      intro hc; cases hc; omega
    · subst h1; rw [upd_same] at hb; cases hb; rw [upd_lt ρ _ h3]
      intro hc
      have := entryOK_lt (h.ent j sj h4) hoj hc
      omega
    · omega
  · intro i j si gh b hi' ho hj' hb
    rcases hget j _ hj' with ⟨h3, h4⟩ | ⟨h3, h4⟩
    · rcases hget i si hi' with ⟨h1, h2⟩ | ⟨h1, h2⟩
      · rw [upd_lt ρ _ h1] at hb; exact h.gho i j si gh b h2 ho h4 hb
      · subst h1; rw [upd_same] at hb; cases hb
        cases hx : gh w.heap.size with
        | none => rfl
        | some o' =>
          have := h.ent j _ h4
          simp only [entryOK] at this
          have := (Array.getElem?_eq_some_iff.1 (this _ _ hx)).1
          omega
    · subst h4; simp [SO.owned] at hown
  · exact hwe.env h
  · intro b o' hb; exact hold b o' (h.frm b o' hb)
  · intro i si b hi' ho hb
    rcases hget i si hi' with ⟨h1, h2⟩ | ⟨h1, h2⟩
    · rw [upd_lt ρ _ h1] at hb; exact h.frd i si b h2 ho hb
    · subst h1; rw [upd_same] at hb; cases hb
      cases hx : g.f w.heap.size with
      | none => rfl
      | some o' => have := (Array.getElem?_eq_some_iff.1 (h.frm _ _ hx)).1; omega
  · intro k l e hk
    rcases hget k _ hk with ⟨h1, h2⟩ | ⟨h1, h2⟩
    · exact belowL_mono (by simp) l (h.scp k l e h2)
    · exact belowL_mono (by simp) l (hs l e h2.symm)
  · intro k m s seen st hk
    rcases hget k _ hk with ⟨h1, h2⟩ | ⟨h1, h2⟩
    · have := h.sci k m s seen st h2; simp; omega
    · have := hi m s seen st h2.symm; simp; omega
  · intro j gh b hj hb
    rcases hget j _ hj with ⟨h1, h2⟩ | ⟨h1, h2⟩
    · exact h.hpf j gh b h2 hb
    · subst h2; simp [SO.owned] at hown
  · intro j i gh b si hj hb hi' ho
    rcases hget j _ hj with ⟨h1, h2⟩ | ⟨h1, h2⟩
    · rcases hget i _ hi' with ⟨h3, h4⟩ | ⟨h3, h4⟩
      · rw [upd_lt ρ _ h3]; exact h.hpo j i gh b si h2 hb h4 ho
      · subst h3; rw [upd_same]
        intro e; cases e
        cases hx : gh w.heap.size with
        | none => exact hb hx
        | some o' =>
          have := h.ent j _ h2
          simp only [entryOK] at this
          have := (Array.getElem?_eq_some_iff.1 (this _ _ hx)).1
          omega
    · subst h2; simp [SO.owned] at hown
  · intro j i gh b si hj hb hij hi'
    rcases hget j _ hj with ⟨h1, h2⟩ | ⟨h1, h2⟩
    · rcases hget i _ hi' with ⟨h3, h4⟩ | ⟨h3, h4⟩
      · exact h.hpc j i gh b si h2 hb hij h4
      · subst h4; exact SO.owned_claims hown b
    · subst h2; simp [SO.owned] at hown

/-- A block is written. -/
theorem St.set (h : St ρ H g w) {k b : Nat} {so so' : SO} {o : Obj} (hk : H[k]? = some so) (hown : so.owned = true) (hown' : so'.owned = true) (hb : ρ k = some b)
    (hwe : HeapIs w w' (w.heap.setIfInBounds b o)) (he : entryOK ρ w' k so')
    (hs : ∀ l e, so' = .cells l e → belowL H.length l = true) (hi : ∀ m s seen st, so' = .iter (some m) s seen st → m < H.length) :
    St ρ (H.set k so') g w' := by
  have hw := hwe.1
  have hkl := (List.getElem?_eq_some_iff.1 hk).1
  have hget : ∀ (j : Nat) s, (H.set k so')[j]? = some s → (j ≠ k ∧ H[j]? = some s) ∨ (j = k ∧ s = so') := by
    intro j s hj
    by_cases hjk : j = k
    · subst hjk; simp [hkl] at hj; exact .inr ⟨rfl, hj.symm⟩
    · rw [List.getElem?_set_ne (Ne.symm hjk)] at hj; exact .inl ⟨hjk, hj⟩
  have hoth : ∀ (b' : Nat) (o' : Obj), b' ≠ b → w.heap[b']? = some o' → w'.heap[b']? = some o' := by
    intro b' o' hne hb'; rw [hw, Array.getElem?_setIfInBounds_ne (Ne.symm hne)]; exact hb'
  constructor
  · intro j s hj
    rcases hget j s hj with ⟨h1, h2⟩ | ⟨h1, h2⟩
    · refine entryOK_congr (n := H.length) (List.getElem?_eq_some_iff.1 h2).1 (h.ent j s h2) (fun _ _ => rfl) ?_ ?_ ?_
      · rintro l e rfl; exact h.scp j l e h2
      · rintro m s' seen st rfl; exact h.sci j m s' seen st h2
      · intro b' o' hng hb' hor hgh
        refine hoth b' o' ?_ hb'
        rintro rfl
        cases s with
        | gone => exact hng rfl
        | ghost gh =>
          have h3 := h.gho k j so gh b' hk hown h2 hb
          rw [hgh gh (.inl rfl)] at h3; cases h3
        | heap gh => exact h.hpo j k gh b' so h2 (by rw [hgh gh (.inr rfl)]; simp) hk (.inl hown) hb
        | ro xs e => exact h.dis k j so _ b' (Ne.symm h1) hk h2 hown (.inr rfl) hb (hor (.inr rfl))
        | cells l e => exact h.dis k j so _ b' (Ne.symm h1) hk h2 hown (.inl rfl) hb (hor (.inl rfl))
        | arr xs e => exact h.dis k j so _ b' (Ne.symm h1) hk h2 hown (.inl rfl) hb (hor (.inl rfl))
        | map es c => exact h.dis k j so _ b' (Ne.symm h1) hk h2 hown (.inl rfl) hb (hor (.inl rfl))
        | iter m s seen st => exact h.dis k j so _ b' (Ne.symm h1) hk h2 hown (.inl rfl) hb (hor (.inl rfl))
        | siter s p => exact h.dis k j so _ b' (Ne.symm h1) hk h2 hown (.inl rfl) hb (hor (.inl rfl))
    · subst h1 h2; exact he
  · intro i j si sj b' hij hi' hj' ho hoj hb'
    rcases hget i si hi' with ⟨h1, h2⟩ | ⟨h1, h2⟩ <;> rcases hget j sj hj' with ⟨h3, h4⟩ | ⟨h3, h4⟩
    · exact h.dis i j si sj b' hij h2 h4 ho hoj hb'
    · subst h3; exact h.dis i j si so b' hij h2 hk ho (.inl hown) hb'
    · subst h1; exact h.dis i j so sj b' hij hk h4 hown hoj hb'
    · omega
  · intro i j si gh b' hi' ho hj' hb'
    rcases hget j _ hj' with ⟨h3, h4⟩ | ⟨h3, h4⟩
    · rcases hget i si hi' with ⟨h1, h2⟩ | ⟨h1, h2⟩
      · exact h.gho i j si gh b' h2 ho h4 hb'
      · subst h1; exact h.gho i j so gh b' hk hown h4 hb'
    · subst h4; simp [SO.owned] at hown'
  · exact hwe.env h
  · intro b' o' hb'
    refine hoth b' o' ?_ (h.frm b' o' hb')
    rintro rfl
    rw [h.frd k so b' hk hown hb] at hb'; cases hb'
  · intro i si b' hi' ho hb'
    rcases hget i si hi' with ⟨h1, h2⟩ | ⟨h1, h2⟩
    · exact h.frd i si b' h2 ho hb'
    · subst h1; exact h.frd i so b' hk hown hb'
  · intro j l e hj
    rw [List.length_set]
    rcases hget j _ hj with ⟨h1, h2⟩ | ⟨h1, h2⟩
    · exact h.scp j l e h2
    · exact hs l e h2.symm
  · intro j m s seen st hj
    rw [List.length_set]
    rcases hget j _ hj with ⟨h1, h2⟩ | ⟨h1, h2⟩
    · exact h.sci j m s seen st h2
    · exact hi m s seen st h2.symm
  · intro j gh b' hj hb'
    rcases hget j _ hj with ⟨h1, h2⟩ | ⟨h1, h2⟩
    · exact h.hpf j gh b' h2 hb'
    · exact absurd h2.symm (SO.owned_heap hown')
  · intro j i gh b' si hj hb' hi' ho
    rcases hget j _ hj with ⟨h1, h2⟩ | ⟨h1, h2⟩
    · rcases hget i _ hi' with ⟨h3, h4⟩ | ⟨h3, h4⟩
      · exact h.hpo j i gh b' si h2 hb' h4 ho
      · subst h3; exact h.hpo j i gh b' so h2 hb' hk (.inl hown)
    · exact absurd h2.symm (SO.owned_heap hown')
  · intro j i gh b' si hj hb' hij hi'
    rcases hget j _ hj with ⟨h1, h2⟩ | ⟨h1, h2⟩
    · rcases hget i _ hi' with ⟨h3, h4⟩ | ⟨h3, h4⟩
      · exact h.hpc j i gh b' si h2 hb' hij h4
      · subst h4; exact SO.owned_claims hown' b'
    · exact absurd h2.symm (SO.owned_heap hown')

/-- A block by number is written. -/
theorem St.setHeap (h : St ρ H g w) {j b : Nat} {hp : Nat → Option Obj} {o : Obj} (hj : H[j]? = some (.heap hp)) (hb : hp b ≠ none)
    (hwe : HeapIs w w' (w.heap.setIfInBounds b o)) : St ρ (H.set j (.heap (updh hp b o))) g w' := by
  have hw := hwe.1
  have hjl := (List.getElem?_eq_some_iff.1 hj).1
  have hlt : b < w.heap.size := by
    cases hx : hp b with
    | none => exact absurd hx hb
    | some o' => exact (Array.getElem?_eq_some_iff.1 (h.ent j _ hj b o' hx)).1
  have hget : ∀ (i : Nat) s, (H.set j (.heap (updh hp b o)))[i]? = some s → (i ≠ j ∧ H[i]? = some s) ∨ (i = j ∧ s = .heap (updh hp b o)) := by
    intro i s hi
    by_cases hij : i = j
    · subst hij; simp [hjl] at hi; exact .inr ⟨rfl, hi.symm⟩
    · rw [List.getElem?_set_ne (Ne.symm hij)] at hi; exact .inl ⟨hij, hi⟩
  have hoth : ∀ (b' : Nat) (o' : Obj), b' ≠ b → w.heap[b']? = some o' → w'.heap[b']? = some o' := by
    intro b' o' hne hb'; rw [hw, Array.getElem?_setIfInBounds_ne (Ne.symm hne)]; exact hb'
  have hdom : ∀ b', updh hp b o b' ≠ none → hp b' ≠ none := by
    intro b' h1
    by_cases hbb : b' = b
    · subst hbb; exact hb
    · simpa [updh, hbb] using h1
  constructor
  · intro i s hi
    rcases hget i s hi with ⟨h1, h2⟩ | ⟨h1, h2⟩
    · refine entryOK_congr (n := H.length) (List.getElem?_eq_some_iff.1 h2).1 (h.ent i s h2) (fun _ _ => rfl) ?_ ?_ ?_
      · rintro l e rfl; exact h.scp i l e h2
      · rintro m s' seen st rfl; exact h.sci i m s' seen st h2
      · intro b' o' hng hb' hor hgh
        refine hoth b' o' ?_ hb'
        rintro rfl
        by_cases ho : s.owned = true ∨ s.isRo = true
        · exact h.hpo j i hp b' s hj hb h2 ho (hor ho)
        · refine h.hpc j i hp b' s hj hb h1 h2 ?_
          cases s <;> simp [SO.owned, SO.isRo] at ho
          · simp [SO.claims, hgh _ (.inl rfl)]
          · simp [SO.claims, hgh _ (.inr rfl)]
          · exact absurd rfl hng
    · subst h1 h2
      intro b' o' hb'
      by_cases hbb : b' = b
      · subst hbb
        simp only [updh, if_true, Option.some.injEq] at hb'
        subst hb'
        rw [hw]; simp [hlt]
      · simp only [updh, hbb, if_false] at hb'
        exact hoth b' o' hbb (h.ent i _ hj b' o' hb')
  · intro i k si sk b' hik hi hk ho hok hb'
    rcases hget i si hi with ⟨h1, h2⟩ | ⟨h1, h2⟩
    · rcases hget k sk hk with ⟨h3, h4⟩ | ⟨h3, h4⟩
      · exact h.dis i k si sk b' hik h2 h4 ho hok hb'
      · subst h4; simp [SO.owned, SO.isRo] at hok
    · subst h2; simp [SO.owned] at ho
  · intro i k si gh b' hi ho hk hb'
    rcases hget i si hi with ⟨h1, h2⟩ | ⟨h1, h2⟩
    · rcases hget k _ hk with ⟨h3, h4⟩ | ⟨h3, h4⟩
      · exact h.gho i k si gh b' h2 ho h4 hb'
      · cases h4
    · subst h2; simp [SO.owned] at ho
  · exact hwe.env h
  · intro b' o' hb'
    refine hoth b' o' ?_ (h.frm b' o' hb')
    rintro rfl
    rw [h.hpf j hp b' hj hb] at hb'; cases hb'
  · intro i si b' hi ho hb'
    rcases hget i si hi with ⟨h1, h2⟩ | ⟨h1, h2⟩
    · exact h.frd i si b' h2 ho hb'
    · subst h2; simp [SO.owned] at ho
  · intro i l e hi
    rw [List.length_set]
    rcases hget i _ hi with ⟨h1, h2⟩ | ⟨h1, h2⟩
    · exact h.scp i l e h2
    · cases h2
  · intro i m s seen st hi
    rw [List.length_set]
    rcases hget i _ hi with ⟨h1, h2⟩ | ⟨h1, h2⟩
    · exact h.sci i m s seen st h2
    · cases h2
  · intro i gh b' hi hb'
    rcases hget i _ hi with ⟨h1, h2⟩ | ⟨h1, h2⟩
    · exact h.hpf i gh b' h2 hb'
    · cases h2; exact h.hpf j hp b' hj (hdom b' hb')
  · intro i k gh b' si hi hb' hk ho
    rcases hget k si hk with ⟨h3, h4⟩ | ⟨h3, h4⟩
    · rcases hget i _ hi with ⟨h1, h2⟩ | ⟨h1, h2⟩
      · exact h.hpo i k gh b' si h2 hb' h4 ho
      · cases h2; exact h.hpo j k hp b' si hj (hdom b' hb') h4 ho
    · subst h4; simp [SO.owned, SO.isRo] at ho
  · intro i k gh b' si hi hb' hik hk hc
    rcases hget i _ hi with ⟨h1, h2⟩ | ⟨h1, h2⟩
    · rcases hget k si hk with ⟨h3, h4⟩ | ⟨h3, h4⟩
      · exact h.hpc i k gh b' si h2 hb' hik h4 hc
      · subst h3 h4
        exact h.hpc i k gh b' _ h2 hb' hik hj (hdom b' hc)
    · cases h2
      rcases hget k si hk with ⟨h3, h4⟩ | ⟨h3, h4⟩
      · subst h1; exact h.hpc i k hp b' si hj (hdom b' hb') hik h4 hc
      · omega

/-- An entry goes over to a new place. -/
theorem St.move (h : St ρ H g w) {k : Nat} {so : SO} (hk : H[k]? = some so) (hown : so.owned = true) : St (upd ρ H.length (ρ k)) (H.set k .gone ++ [so]) g w := by
  have hkl := (List.getElem?_eq_some_iff.1 hk).1
  have hget : ∀ (j : Nat) s, (H.set k .gone ++ [so])[j]? = some s → (j < H.length ∧ j ≠ k ∧ H[j]? = some s) ∨ (j = k ∧ s = .gone) ∨ (j = H.length ∧ s = so) := by
    intro j s hj
    rcases Nat.lt_trichotomy j H.length with h1 | h1 | h1
    · rw [List.getElem?_append_left (by simpa using h1)] at hj
      by_cases hjk : j = k
      · subst hjk; simp [hkl] at hj; exact .inr (.inl ⟨rfl, hj.symm⟩)
      · rw [List.getElem?_set_ne (Ne.symm hjk)] at hj; exact .inl ⟨h1, hjk, hj⟩
    · subst h1; rw [List.getElem?_append_right (by simp)] at hj; simp at hj; exact .inr (.inr ⟨rfl, hj.symm⟩)
    · rw [List.getElem?_eq_none (by simp; omega)] at hj; cases hj
  -- every entry of the new list, seen as one of the old
  have hold : ∀ (j : Nat) s, (H.set k .gone ++ [so])[j]? = some s → (s.owned = true ∨ s.isRo = true ∨ ∃ gh, s = .ghost gh ∨ s = .heap gh) →
      ∃ j', H[j']? = some s ∧ upd ρ H.length (ρ k) j = ρ j' ∧ (j' = k ↔ j = H.length) ∧ (j ≠ H.length → j' = j) := by
    intro j s hj ho
    rcases hget j s hj with ⟨h1, h2, h3⟩ | ⟨h1, h2⟩ | ⟨h1, h2⟩
    · exact ⟨j, h3, upd_lt ρ _ h1, ⟨fun e => absurd e h2, fun e => by omega⟩, fun _ => rfl⟩
    · subst h2; simp [SO.owned, SO.isRo] at ho
    · subst h1 h2; exact ⟨k, hk, upd_same _ _ _, ⟨fun _ => rfl, fun _ => rfl⟩, fun e => absurd rfl e⟩
  constructor
  · intro j s hj
    rcases hget j s hj with ⟨h1, h2, h3⟩ | ⟨h1, h2⟩ | ⟨h1, h2⟩
    · refine entryOK_congr h1 (h.ent j s h3) (fun i hi => upd_lt ρ _ hi) ?_ ?_ (fun b o _ hb _ _ => hb)
      · rintro l e rfl; exact h.scp j l e h3
      · rintro m s' seen st rfl; exact h.sci j m s' seen st h3
    · subst h2; trivial
    · subst h1 h2
      have h3 := h.ent k s hk
      have hρ : ∀ i, i < H.length → upd ρ H.length (ρ k) i = ρ i := fun i hi => upd_lt ρ _ hi
      cases s <;> simp only [entryOK, upd_same] at h3 ⊢ <;> try exact h3
      case cells l e => rw [valL_congr hρ l (h.scp k l e hk)]; exact h3
      case iter m s seen st =>
        have : m.bind (upd ρ H.length (ρ k)) = m.bind ρ := by
          cases m with
          | none => rfl
          | some m => exact hρ m (h.sci k m s seen st hk)
        rw [this]; exact h3
  · intro i j si sj b hij hi' hj' ho hoj hb
    obtain ⟨i', a1, a2, a3, a4⟩ := hold i si hi' (.inl ho)
    obtain ⟨j', b1, b2, b3, b4⟩ := hold j sj hj' (hoj.imp id .inl)
    rw [a2] at hb; rw [b2]
    refine h.dis i' j' si sj b ?_ a1 b1 ho hoj hb
    intro e; subst e
    by_cases e1 : i = H.length
    · exact hij (e1.trans (b3.1 (a3.2 e1)).symm)
    · by_cases e2 : j = H.length
      · exact hij ((a3.1 (b3.2 e2)).trans e2.symm)
      · exact hij ((a4 e1).symm.trans (b4 e2))
  · intro i j si gh b hi' ho hj' hb
    obtain ⟨i', a1, a2, _, _⟩ := hold i si hi' (.inl ho)
    obtain ⟨j', b1, b2, _, _⟩ := hold j _ hj' (.inr (.inr ⟨gh, .inl rfl⟩))
    rw [a2] at hb
    exact h.gho i' j' si gh b a1 ho b1 hb
  · exact h.env
  · exact h.frm
  · intro i si b hi' ho hb
    obtain ⟨i', a1, a2, _, _⟩ := hold i si hi' (.inl ho)
    rw [a2] at hb
    exact h.frd i' si b a1 ho hb
  · intro j l e hj
    obtain ⟨j', b1, _, _, _⟩ := hold j _ hj (.inl rfl)
    exact belowL_mono (by simp) l (h.scp j' l e b1)
  · intro j m s seen st hj
    obtain ⟨j', b1, _, _, _⟩ := hold j _ hj (.inl rfl)
    have := h.sci j' m s seen st b1
    simp; omega
  · intro j gh b hj hb
    obtain ⟨j', b1, _, _, _⟩ := hold j _ hj (.inr (.inr ⟨gh, .inr rfl⟩))
    exact h.hpf j' gh b b1 hb
  · intro j i gh b si hj hb hi' ho
    obtain ⟨j', b1, _, _, _⟩ := hold j _ hj (.inr (.inr ⟨gh, .inr rfl⟩))
    obtain ⟨i', a1, a2, _, _⟩ := hold i _ hi' (ho.imp id .inl)
    rw [a2]; exact h.hpo j' i' gh b si b1 hb a1 ho
  · intro j i gh b si hj hb hij hi' hc
    obtain ⟨j', b1, b2, b3, b4⟩ := hold j _ hj (.inr (.inr ⟨gh, .inr rfl⟩))
    obtain ⟨i', a1, a2, a3, a4⟩ := hold i _ hi' (by cases si <;> simp [SO.claims] at hc <;> simp)
    refine h.hpc j' i' gh b si b1 hb ?_ a1 hc
    intro e; subst e
    by_cases e1 : i = H.length
    · exact hij (e1.trans (b3.1 (a3.2 e1)).symm)
    · by_cases e2 : j = H.length
      · exact hij ((a3.1 (b3.2 e2)).trans e2.symm)
      · exact hij ((a4 e1).symm.trans (b4 e2))
end
end Go.V

namespace Go.V
open Go

section run
variable {P : Program} {w : World}

theorem run_und {t : TypeId} {d : TypeDesc} (h : P.underlying t = some d) : (underlying t).run P w = .ok d w := by simp [underlying, h]
theorem run_size {t : TypeId} {n : Nat} (h : sizeT P t = some n) : (sizeOf t).run P w = .ok n w := by
  unfold sizeT at h
  cases hi : P.info? t with
  | none => simp [hi] at h
  | some i => simp [hi] at h; simp [sizeOf, typeInfo, hi, h]
theorem run_zero {t : TypeId} {v : Value} (h : zeroT P t = some v) : (zeroValue t).run P w = .ok v w := by
  unfold zeroT at h
  cases hi : P.info? t with
  | none => simp [hi] at h
  | some i => simp [hi] at h; simp [zeroValue, typeInfo, hi, h]
theorem run_isAgg {t : TypeId} {b : Bool} (h : isAggT P t = some b) : (isAgg t).run P w = .ok b w := by
  unfold isAggT at h
  cases hd : P.underlying t with
  | none => simp [hd] at h
  | some d => cases d <;> simp [hd] at h <;> simp [isAgg, run_und hd, h]

theorem shape_none {t : TypeId} (h : shapeT P t = some none) : isAggT P t = some false ∧ sizeT P t = some 1 := by
  unfold shapeT at h
  split at h <;> simp_all
theorem shape_some {t : TypeId} {n : Nat} (h : shapeT P t = some (some n)) : isAggT P t = some true ∧ sizeT P t = some n := by
  unfold shapeT at h
  split at h <;> simp_all

theorem shape_zero {t : TypeId} : shapeT P t ≠ some (some 0) := by
  unfold shapeT
  split <;> simp

theorem cell_of {b o : Nat} {c : Array Value} {e : TypeId} {fr : Nat × Nat} (h : w.heap[b]? = some (.cells c e fr)) : w.cell? ⟨b, o, none⟩ = c[o]? := by
  simp [World.cell?, h]
theorem add_eq (b o n : Nat) : Addr.add ⟨b, o, none⟩ n = ⟨b, o + n, none⟩ := by
  unfold Addr.add; split <;> simp_all

theorem run_loadVar1 {t : TypeId} {a : Addr} {v : Value} (hs : shapeT P t = some none) (h : w.cell? a = some v) : (loadVar t a).run P w = .ok v w := by
  simp [loadVar, run_isAgg (shape_none hs).1, h]
theorem run_loadVarN {t : TypeId} {a : Addr} {l : List Value} (hs : shapeT P t = some (some l.length)) (h : ∀ (j : Nat) v, l[j]? = some v → w.cell? (a.add j) = some v) : (loadVar t a).run P w = .ok (.agg l.toArray) w := by
  simp [loadVar, run_isAgg (shape_some hs).1, run_size (shape_some hs).2, run_loadCells_list (P := P) (w := w) a l h]

/-- Cells written one by one. -/
theorem run_storeCells {b o : Nat} {e : TypeId} {fr : Nat × Nat} : ∀ (ys : List Value) (i : Nat) (c : Array Value) (w : World), w.heap[b]? = some (.cells c e fr) →
    (∀ v ∈ ys, v.oneCell' = true) → o + i + ys.length ≤ c.size → (fr.1 = fr.2 ∨ c.size ≤ fr.1) →
    ∃ w' c', (storeCells ⟨b, o, none⟩ ys i).run P w = .ok () w' ∧ HeapIs w w' (w.heap.setIfInBounds b (.cells c' e fr)) ∧ c'.size = c.size ∧
      ∀ j, c'[j]? = if o + i ≤ j ∧ j < o + i + ys.length then ys[j - (o + i)]? else c[j]?
  | [], i, c, w, h, _, _, _ => by
    refine ⟨w, c, rfl, ?_, rfl, fun j => ?_⟩
    · refine ⟨?_, rfl, rfl, rfl, Nat.le_refl _⟩
      apply Array.ext_getElem?
      intro j
      by_cases hj : b = j
      · subst hj; rw [h]; have := (Array.getElem?_eq_some_iff.1 h).1; simp [this]
      · rw [Array.getElem?_setIfInBounds_ne hj]
    · rw [if_neg (by simp)]
  | v :: ys, i, c, w, h, ho, hlen, hfr => by
    have hlt := (Array.getElem?_eq_some_iff.1 h).1
    simp only [List.length_cons] at hlen
    have hc : w.cell? (Addr.add ⟨b, o, none⟩ i) = some c[o + i] := by
      rw [add_eq, cell_of h]; simp [show o + i < c.size by omega]
    have hz : w.frozen? (Addr.add ⟨b, o, none⟩ i) = false := by
      rw [add_eq]; simp only [World.frozen?, h]
      rcases hfr with h1 | h1
      · simp; omega
      · simp; omega
    have hs : (store (Addr.add ⟨b, o, none⟩ i) v).run P w = .ok () (w.setCell (Addr.add ⟨b, o, none⟩ i) v) := by
      rw [run_store P w _ v _ (ho v (by simp))]; simp [hc, hz]
    have hheap : (w.setCell (Addr.add ⟨b, o, none⟩ i) v).heap = w.heap.setIfInBounds b (.cells (c.setIfInBounds (o + i) v) e fr) := by
      rw [add_eq]
      apply Array.ext_getElem?
      intro j
      by_cases hj : b = j
      · subst hj
        have e0 : w.heap[b] = .cells c e fr := by
          have := h; rw [Array.getElem?_eq_getElem hlt] at this; exact Option.some.inj this
        simp [World.setCell, hlt, Array.getElem_modify, e0]
      · simp [World.setCell, Array.getElem?_modify, hj, Array.getElem?_setIfInBounds_ne hj]
    have h1 : (w.setCell (Addr.add ⟨b, o, none⟩ i) v).heap[b]? = some (.cells (c.setIfInBounds (o + i) v) e fr) := by
      rw [hheap]; simp [hlt]
    obtain ⟨w', c', r1, r2, r3, r4⟩ := run_storeCells (o := o) ys (i + 1) (c.setIfInBounds (o + i) v) _ h1 (fun x hx => ho x (by simp [hx])) (by rw [Array.size_setIfInBounds]; omega) (by simpa using hfr)
    refine ⟨w', c', ?_, ?_, by simpa using r3, fun j => ?_⟩
    · simp [storeCells, hs, r1]
    · exact ⟨by rw [r2.1, hheap]; simp, r2.2.1.trans rfl, r2.2.2.1.trans rfl, r2.2.2.2.1.trans rfl, Nat.le_trans (Nat.le_refl _) r2.2.2.2.2⟩
    · rw [r4 j]
      by_cases e1 : j = o + i
      · subst e1
        rw [if_neg (by omega), if_pos ⟨Nat.le_refl _, by simp only [List.length_cons]; omega⟩]
        simp [show o + i < c.size by omega]
      · by_cases e2 : o + (i + 1) ≤ j ∧ j < o + (i + 1) + ys.length
        · rw [if_pos e2, if_pos ⟨by omega, by simp only [List.length_cons]; omega⟩]
          rw [show j - (o + i) = (j - (o + (i + 1))) + 1 by omega]; simp
        · rw [if_neg e2, if_neg (by simp only [List.length_cons]; omega)]
          rw [Array.getElem?_setIfInBounds_ne (by omega)]
end run

theorem paste_spec {α : Type} : ∀ {l : List α} {o : Nat} {ys l' : List α}, paste l o ys = some l' → o + ys.length ≤ l.length ∧ l'.length = l.length ∧
    ∀ j, l'[j]? = if o ≤ j ∧ j < o + ys.length then ys[j - o]? else l[j]?
  | l, 0, [], l', h => by
    simp [paste] at h; subst h
    exact ⟨by simp, rfl, fun j => by rw [if_neg (by simp)]⟩
  | [], 0, _ :: _, l', h => by simp [paste] at h
  | x :: l, 0, y :: ys, l', h => by
    simp only [paste] at h
    split at h
    · rename_i l2 h2
      cases h
      obtain ⟨a, b, c⟩ := paste_spec h2
      refine ⟨by simp at a ⊢; omega, by simp [b], fun j => ?_⟩
      cases j with
      | zero => simp
      | succ j =>
        have := c j
        simp only [List.getElem?_cons_succ, this]
        simp only [Nat.zero_le, true_and, Nat.zero_add, List.length_cons, Nat.sub_zero, List.getElem?_cons_succ]
        by_cases h1 : j < ys.length
        · rw [if_pos h1, if_pos (by omega)]
        · rw [if_neg h1, if_neg (by omega)]
    · cases h
  | [], _ + 1, _, l', h => by simp [paste] at h
  | x :: l, o + 1, ys, l', h => by
    simp only [paste] at h
    split at h
    · rename_i l2 h2
      cases h
      obtain ⟨a, b, c⟩ := paste_spec h2
      refine ⟨by simp; omega, by simp [b], fun j => ?_⟩
      cases j with
      | zero => simp
      | succ j =>
        have := c j
        simp only [List.getElem?_cons_succ, this]
        by_cases h1 : o ≤ j ∧ j < o + ys.length
        · rw [if_pos h1, if_pos (by omega), show j + 1 - (o + 1) = j - o by omega]
        · rw [if_neg h1, if_neg (by omega)]
    · cases h
theorem cut_spec {α : Type} : ∀ {l : List α} {o n : Nat} {l' : List α}, cut l o n = some l' → l'.length = n ∧ ∀ j, j < n → l'[j]? = l[o + j]?
  | l, o, 0, l', h => by
    simp [cut] at h; subst h; exact ⟨rfl, fun j hj => by omega⟩
  | [], o, n + 1, l', h => by simp [cut] at h
  | x :: l, o + 1, n + 1, l', h => by
    simp only [cut] at h
    obtain ⟨a, b⟩ := cut_spec h
    exact ⟨a, fun j hj => by rw [b j hj, show o + 1 + j = (o + j) + 1 by omega]; simp⟩
  | x :: l, 0, n + 1, l', h => by
    simp only [cut] at h
    split at h
    · rename_i l2 h2
      cases h
      obtain ⟨a, b⟩ := cut_spec h2
      refine ⟨by simp [a], fun j hj => ?_⟩
      cases j with
      | zero => simp
      | succ j => have := b j (by omega); simp at this ⊢; exact this
    · cases h
theorem cut_mem {α : Type} {l : List α} {o n : Nat} {l' : List α} (h : cut l o n = some l') : ∀ v ∈ l', v ∈ l := by
  obtain ⟨a, b⟩ := cut_spec h
  intro v hv
  obtain ⟨j, hj, rfl⟩ := List.getElem_of_mem hv
  have := b j (by omega)
  rw [List.getElem?_eq_getElem hj] at this
  exact List.mem_of_getElem? this.symm
theorem paste_mem {α : Type} {l : List α} {o : Nat} {ys l' : List α} (h : paste l o ys = some l') : ∀ v ∈ l', v ∈ l ∨ v ∈ ys := by
  obtain ⟨a, b, c⟩ := paste_spec h
  intro v hv
  obtain ⟨j, hj, rfl⟩ := List.getElem_of_mem hv
  have := c j
  rw [List.getElem?_eq_getElem hj] at this
  split at this
  · exact .inr (List.mem_of_getElem? this.symm)
  · exact .inl (List.mem_of_getElem? this.symm)

theorem one_val (ρ : Rho) {v : SV} (h : one v = true) : (val ρ v).oneCell' = true := by
  cases v <;> simp [one] at h <;> try rfl
  rename_i x
  cases x <;> simp [val] at h ⊢ <;> rfl
theorem oneL_val (ρ : Rho) : ∀ {l : List SV}, oneL l = true → ∀ v ∈ valL ρ l, v.oneCell' = true
  | [], _, v, hv => by simp [valL] at hv
  | x :: l, h, v, hv => by
    simp [oneL] at h; simp [valL] at hv
    rcases hv with rfl | hv
    · exact one_val ρ h.1
    · exact oneL_val ρ h.2 v hv

mutual
theorem plain_val (ρ : Rho) : ∀ {v : SV} {x : Value}, plain v = some x → val ρ v = x
  | .raw _, _, h => by simp [plain] at h; simp [val, h]
  | .kb _, _, h => by simp [plain] at h; simp [val, h]
  | .ptr .., _, h => by simp [plain] at h
  | .ptx .., _, h => by simp [plain] at h
  | .sl .., _, h => by simp [plain] at h
  | .mp _, _, h => by simp [plain] at h
  | .fn .., _, h => by simp [plain] at h
  | .agg l, _, h => by
    simp only [plain] at h
    split at h
    · rename_i vs hv; cases h; simp [val, plainL_val ρ hv]
    · cases h
  | .tup l, _, h => by
    simp only [plain] at h
    split at h
    · rename_i vs hv; cases h; simp [val, plainL_val ρ hv]
    · cases h
  | .ifc t v, _, h => by
    simp only [plain] at h
    split at h
    · rename_i vs hv; cases h; simp [val, plain_val ρ hv]
    · cases h
theorem plainL_val (ρ : Rho) : ∀ {l : List SV} {xs : List Value}, plainL l = some xs → valL ρ l = xs
  | [], _, h => by simp [plainL] at h; simp [valL, h]
  | v :: l, _, h => by
    simp only [plainL] at h
    split at h
    · rename_i x xs h1 h2; cases h; simp [valL, plain_val ρ h1, plainL_val ρ h2]
    · cases h
end
mutual
theorem plain_below (n : Nat) : ∀ {v : SV} {x : Value}, plain v = some x → below n v = true
  | .raw _, _, _ => rfl
  | .kb _, _, _ => rfl
  | .ptr .., _, h => by simp [plain] at h
  | .ptx .., _, h => by simp [plain] at h
  | .sl .., _, h => by simp [plain] at h
  | .mp _, _, h => by simp [plain] at h
  | .fn .., _, h => by simp [plain] at h
  | .agg l, _, h => by
    simp only [plain] at h
    split at h
    · rename_i vs hv; simp [below, plainL_below n hv]
    · cases h
  | .tup l, _, h => by
    simp only [plain] at h
    split at h
    · rename_i vs hv; simp [below, plainL_below n hv]
    · cases h
  | .ifc t v, _, h => by
    simp only [plain] at h
    split at h
    · rename_i vs hv; simp [below, plain_below n hv]
    · cases h
theorem plainL_below (n : Nat) : ∀ {l : List SV} {xs : List Value}, plainL l = some xs → belowL n l = true
  | [], _, h => rfl
  | v :: l, _, h => by
    simp only [plainL] at h
    split at h
    · rename_i x xs h1 h2; simp [belowL, plain_below n h1, plainL_below n h2]
    · cases h
end
end Go.V

namespace Go.V
open Go
set_option linter.unusedSectionVars false
variable [Mode]
set_option linter.unusedVariables false

/-- What has come of an operation that yields v in w'. -/
def Res (ρ : Rho) (H : List SO) (g : Fr) (K : SV → List SO → Prop) (v : Value) (w' : World) : Prop :=
  ∃ ρ' sv H', v = val ρ' sv ∧ St ρ' H' g w' ∧ (∀ k, k < H.length → ρ' k = ρ k) ∧ H.length ≤ H'.length ∧ below H'.length sv = true ∧ K sv H'
def GoodRes (P : Program) (ρ : Rho) (H : List SO) (g : Fr) (K : SV → List SO → Prop) : Result Next → Prop
  | .ok (.value v) w' => Res ρ H g K v w'
  | .ok .skip w' => Res ρ H g K undef w'
  | .ok (.enter f args) w' => Calls P f args w' fun e w'' => ∃ v, e = .returned v ∧ Res ρ H g K v w''
  | _ => False

/-- What has come of an operation that leaves the world as it was. -/
def Here (ρ : Rho) (H : List SO) (K : SV → List SO → Prop) (v : Value) : Prop := ∃ sv, v = val ρ sv ∧ below H.length sv = true ∧ K sv H
def GoodRes1 (P : Program) (ρ : Rho) (H : List SO) (K : SV → List SO → Prop) (w : World) (r : Result Next) : Prop := ∃ v, r = .ok (.value v) w ∧ Here ρ H K v
theorem GoodRes1_ok {P : Program} {ρ : Rho} {H : List SO} {K : SV → List SO → Prop} {w : World} {v : Value} : GoodRes1 P ρ H K w (.ok (.value v) w) ↔ Here ρ H K v := by
  unfold GoodRes1
  exact ⟨fun ⟨v', h1, h2⟩ => by cases h1; exact h2, fun h => ⟨v, rfl, h⟩⟩
theorem Here.here {ρ : Rho} {H : List SO} {K : SV → List SO → Prop} {sv : SV} (hb : below H.length sv = true) (hK : K sv H) : Here ρ H K (val ρ sv) := ⟨sv, rfl, hb, hK⟩

section
variable {P : Program} {ρ : Rho} {H : List SO} {g : Fr} {w w' : World} {K : SV → List SO → Prop} {t : List SV} {a : Act}

theorem Res.here (hS : St ρ H g w) {sv : SV} (hb : below H.length sv = true) (hK : K sv H) : Res ρ H g K (val ρ sv) w :=
  ⟨ρ, sv, H, rfl, hS, fun _ _ => rfl, Nat.le_refl _, hb, hK⟩
theorem Here.res (hS : St ρ H g w) {v : Value} (h : Here ρ H K v) : Res ρ H g K v w := by
  obtain ⟨sv, rfl, hb, hK⟩ := h
  exact Res.here hS hb hK
theorem GoodRes1.good (hS : St ρ H g w) {r : Result Next} (h : GoodRes1 P ρ H K w r) : GoodRes P ρ H g K r := by
  obtain ⟨v, rfl, h⟩ := h
  exact h.res hS
theorem Res.alloc (hS : St ρ H g w) {so : SO} {o : Obj} {sv : SV} {v : Value} (hw : HeapIs w w' (w.heap.push o)) (hown : so.owned = true)
    (he : entryOK (upd ρ H.length (some w.heap.size)) w' H.length so)
    (hs : ∀ l e, so = .cells l e → belowL H.length l = true) (hi : ∀ m s seen st, so = .iter (some m) s seen st → m < H.length)
    (hv : v = val (upd ρ H.length (some w.heap.size)) sv) (hb : below (H.length + 1) sv = true) (hK : K sv (H ++ [so])) : Res ρ H g K v w' :=
  ⟨upd ρ H.length (some w.heap.size), sv, H ++ [so], hv, hS.alloc hw hown he hs hi, fun _ h => upd_lt ρ _ h, by simp, by simpa using hb, hK⟩

theorem heap_push_new {w' : World} {o : Obj} (hw : w'.heap = w.heap.push o) : w'.heap[w.heap.size]? = some o := by rw [hw]; simp

/-! ### Loads -/
section loads
variable {ty : TypeId} {k o b : Nat} {e : TypeId} {fr : Nat × Nat}
theorem hasB_heap (hS : St ρ H g w) {j b : Nat} {o : Obj} (h : HasB H j b o) : w.heap[b]? = some o := by
  unfold HasB at h
  split at h
  · rename_i h' hk
    exact hS.ent j _ (show H[j]? = some (.heap h') by rw [← hk]; exact obj_some (by simp [hk])) b o h
  · rename_i h' hk
    exact hS.ent j _ (show H[j]? = some (.ghost h') by rw [← hk]; exact obj_some (by simp [hk])) b o h
  · exact h.elim
theorem loadB1 (hs : shapeT P ty = some none) {c : Array Value} {v : Value} (hh : w.heap[b]? = some (.cells c e fr)) (hv : c[o]? = some v) :
    (Instr.loadAt ty (.pointer (some ⟨b, o, none⟩))).run P w = .ok v w := by
  have := run_loadVar1 (w := w) (a := ⟨b, o, none⟩) (v := v) hs (by rw [cell_of hh, hv])
  simp [Instr.loadAt, Instr.sureAddr, this]
theorem loadBN {l : List Value} (hs : shapeT P ty = some (some l.length)) {c : Array Value} (hh : w.heap[b]? = some (.cells c e fr)) (hv : ∀ j, j < l.length → l[j]? = c[o + j]?) :
    (Instr.loadAt ty (.pointer (some ⟨b, o, none⟩))).run P w = .ok (.agg l.toArray) w := by
  have := run_loadVarN (w := w) (a := ⟨b, o, none⟩) (l := l) hs (by
    intro j v hj
    rw [add_eq, cell_of hh, ← hv j (List.getElem?_eq_some_iff.1 hj).1, hj])
  simp [Instr.loadAt, Instr.sureAddr, this]
theorem load_cell1 (hs : shapeT P ty = some none) (hb : ρ k = some b) {c : Array Value} {v : Value} (hh : w.heap[b]? = some (.cells c e fr)) (hv : c[o]? = some v) :
    (Instr.loadAt ty (.pointer (some ⟨(ρ k).getD 0, o, none⟩))).run P w = .ok v w := by
  have := run_loadVar1 (w := w) (a := ⟨b, o, none⟩) (v := v) hs (by rw [cell_of hh, hv])
  simp [hb, Instr.loadAt, Instr.sureAddr, this]
theorem load_cellN {l : List Value} (hs : shapeT P ty = some (some l.length)) (hb : ρ k = some b) {c : Array Value} (hh : w.heap[b]? = some (.cells c e fr)) (hv : ∀ j, j < l.length → l[j]? = c[o + j]?) :
    (Instr.loadAt ty (.pointer (some ⟨(ρ k).getD 0, o, none⟩))).run P w = .ok (.agg l.toArray) w := by
  have := run_loadVarN (w := w) (a := ⟨b, o, none⟩) (l := l) hs (by
    intro j v hj
    rw [add_eq, cell_of hh, ← hv j (List.getElem?_eq_some_iff.1 hj).1, hj])
  simp [hb, Instr.loadAt, Instr.sureAddr, this]
theorem row_of (hS : St ρ H g w) {xs : List Value} (hk : obj H k = .arr xs e ∨ obj H k = .ro xs e) : xs = [] ∨ ∃ b fr, ρ k = some b ∧ w.heap[b]? = some (.cells xs.toArray e fr) := by
  rcases hk with hk | hk
  · have := hS.ent k _ (show H[k]? = some (.arr xs e) by rw [← hk]; exact obj_some (by simp [hk]))
    rcases this with ⟨_, h2⟩ | ⟨b, fr, h1, h2, _⟩
    · exact .inl h2
    · exact .inr ⟨b, _, h1, h2⟩
  · have := hS.ent k _ (show H[k]? = some (.ro xs e) by rw [← hk]; exact obj_some (by simp [hk]))
    rcases this with ⟨_, h2⟩ | ⟨b, fr, h1, h2⟩
    · exact .inl h2
    · exact .inr ⟨b, _, h1, h2⟩
theorem cells_of (hS : St ρ H g w) {l : List SV} (hk : obj H k = .cells l e) : H[k]? = some (.cells l e) ∧ belowL H.length l = true ∧ ∃ b, ρ k = some b ∧ w.heap[b]? = some (.cells (valL ρ l).toArray e (0, 0)) := by
  have hk' : H[k]? = some (.cells l e) := by rw [← hk]; exact obj_some (by simp [hk])
  exact ⟨hk', hS.scp k l e hk', hS.ent k _ hk'⟩

def Loads (P : Program) (ρ : Rho) (H : List SO) (g : Fr) (w : World) (K : SV → List SO → Prop) (ty : TypeId) (k o : Nat) : Prop :=
  ∃ v, (Instr.loadAt ty (.pointer (some ⟨(ρ k).getD 0, o, none⟩))).run P w = .ok v w ∧ Here ρ H K v

theorem loads_cell1 (hS : St ρ H g w) (hs : shapeT P ty = some none) {l : List SV} (hk : obj H k = .cells l e) {v : SV} (h1 : l[o]? = some v) (h2 : K v H) : Loads P ρ H g w K ty k o := by
  obtain ⟨_, hsc, b, hb, hh⟩ := cells_of hS hk
  exact ⟨val ρ v, load_cell1 hs hb hh (by rw [valL_eq]; simp [h1]), Here.here ((belowL_eq _ _).1 hsc v (List.mem_of_getElem? h1)) h2⟩
theorem loads_cellN (hS : St ρ H g w) {m : Nat} (hs : shapeT P ty = some (some m)) {l l' : List SV} (hk : obj H k = .cells l e) (h1 : cut l o m = some l') (h2 : K (.agg l') H) : Loads P ρ H g w K ty k o := by
  obtain ⟨_, hsc, b, hb, hh⟩ := cells_of hS hk
  obtain ⟨c1, c2⟩ := cut_spec h1
  refine ⟨val ρ (.agg l'), load_cellN (by rw [valL_eq, List.length_map, c1]; exact hs) hb hh ?_, Here.here ?_ h2⟩
  · intro j hj
    rw [valL_eq, List.length_map] at hj
    have := c2 j (by omega)
    rw [valL_eq, valL_eq]; simp [this]
  · simp only [below]; rw [belowL_eq] at hsc ⊢; exact fun v hv => hsc v (cut_mem h1 v hv)
theorem loads_row1 (hS : St ρ H g w) (hs : shapeT P ty = some none) {xs : List Value} (hk : obj H k = .arr xs e ∨ obj H k = .ro xs e) {v : Value} (h1 : xs[o]? = some v) (h2 : K (.raw v) H) : Loads P ρ H g w K ty k o := by
  rcases row_of hS hk with rfl | ⟨b, fr, hb, hh⟩
  · simp at h1
  · exact ⟨v, load_cell1 hs hb hh (by simp [h1]), by simpa [val] using Here.here (ρ := ρ) (sv := .raw v) rfl h2⟩
theorem loads_rowN (hS : St ρ H g w) {m : Nat} (hs : shapeT P ty = some (some m)) {xs l' : List Value} (hk : obj H k = .arr xs e ∨ obj H k = .ro xs e) (h1 : cut xs o m = some l') (h2 : K (.agg (l'.map .raw)) H) : Loads P ρ H g w K ty k o := by
  obtain ⟨c1, c2⟩ := cut_spec h1
  have hbel : below H.length (.agg (l'.map .raw)) = true := below_raws _ _
  have hval : val ρ (.agg (l'.map .raw)) = .agg l'.toArray := by simp [val, valL_eq, Function.comp_def]
  rcases row_of hS hk with rfl | ⟨b, fr, hb, hh⟩
  · cases m with
    | zero => exact absurd hs shape_zero
    | succ m => cases o <;> simp [cut] at h1
  · exact ⟨.agg l'.toArray, load_cellN (by rw [c1]; exact hs) hb hh (fun j hj => by rw [c2 j (by omega)]; simp), hval ▸ Here.here hbel h2⟩

theorem sound_load {n : Option Nat} {adr : SV} (hs : shapeT P ty = some n) (hS : St ρ H g w) (hv : vcLoad n adr H fun v => K v H) :
    ∃ v, (Instr.loadAt ty (val ρ adr)).run P w = .ok v w ∧ Here ρ H K v := by
  unfold vcLoad at hv
  split at hv
  case h_4 => exact hv.elim
  case h_3 b o =>
    obtain ⟨j, xs, e, fr, hB, hv⟩ := hv
    have hh := hasB_heap hS hB
    cases n with
    | none =>
      obtain ⟨v, h1, h2⟩ := hv
      exact ⟨v, loadB1 hs hh (by simpa using h1), by simpa [val] using Here.here (ρ := ρ) (sv := .raw v) rfl h2⟩
    | some m =>
      obtain ⟨l', h1, h2⟩ := hv
      rw [rawsK_eq] at h2
      obtain ⟨c1, c2⟩ := cut_spec h1
      have hval : val ρ (.agg (l'.map .raw)) = .agg l'.toArray := by simp [val, valL_eq, Function.comp_def]
      exact ⟨.agg l'.toArray, loadBN (by rw [c1]; exact hs) hh (fun j hj => by rw [c2 j (by omega)]; simp), hval ▸ Here.here (below_raws _ _) h2⟩
  all_goals
    rename_i k o
    simp only [objK_eq] at hv
    simp only [val]
    cases hk : obj H k <;> simp only [hk] at hv <;> try exact hv.elim
    all_goals cases n <;> simp only at hv
  · split at hv
    · exact loads_cell1 hS hs hk (by assumption) hv
    · exact hv.elim
  · split at hv
    · exact loads_cellN hS hs hk (by assumption) hv
    · exact hv.elim
  · obtain ⟨v, h1, h2⟩ := hv; exact loads_row1 hS hs (.inl hk) h1 h2
  · obtain ⟨v, h1, h2⟩ := hv; exact loads_rowN hS hs (.inl hk) h1 (by simpa [rawsK_eq] using h2)
  · obtain ⟨v, h1, h2⟩ := hv; exact loads_row1 hS hs (.inr hk) h1 h2
  · obtain ⟨v, h1, h2⟩ := hv; exact loads_rowN hS hs (.inr hk) h1 (by simpa [rawsK_eq] using h2)
  · obtain ⟨v, h1, h2⟩ := hv; exact loads_cell1 hS hs hk h1 h2
  · obtain ⟨v, h1, h2⟩ := hv; exact loads_cellN hS hs hk h1 h2
  · obtain ⟨v, h1, h2⟩ := hv; exact loads_row1 hS hs (.inl hk) h1 h2
  · obtain ⟨v, h1, h2⟩ := hv; exact loads_rowN hS hs (.inl hk) h1 (by simpa [rawsK_eq] using h2)
  · obtain ⟨v, h1, h2⟩ := hv; exact loads_row1 hS hs (.inr hk) h1 h2
  · obtain ⟨v, h1, h2⟩ := hv; exact loads_rowN hS hs (.inr hk) h1 (by simpa [rawsK_eq] using h2)
end loads

/-! ### Stores -/
section stores
variable {ty : TypeId} {k o : Nat} {e : TypeId}
def Stores (P : Program) (ρ : Rho) (H : List SO) (g : Fr) (w : World) (K : SV → List SO → Prop) (ty : TypeId) (k o : Nat) (v : Value) : Prop :=
  ∃ w', (Instr.storeAt ty (.pointer (some ⟨(ρ k).getD 0, o, none⟩)) v).run P w = .ok () w' ∧ Res ρ H g K undef w'

theorem val_nkb (ρ : Rho) (v : SV) : val ρ (nkb v) = val ρ v := by cases v <;> rfl
theorem below_nkb (n : Nat) (v : SV) : below n (nkb v) = below n v := by cases v <;> rfl
theorem one_nkb (v : SV) : one (nkb v) = one v := by cases v <;> rfl
theorem stored_spec {n : Option Nat} {v : SV} {ys : List SV} (hs : shapeT P ty = some n) (h : stored n v = some ys) :
    (val ρ v).cells.toList = valL ρ ys ∧ sizeT P ty = some ys.length ∧ (∀ x ∈ valL ρ ys, x.oneCell' = true) ∧ (∀ m, below m v = true → belowL m ys = true) := by
  cases n with
  | none =>
    simp only [stored] at h
    cases h1 : one v <;> simp [h1] at h
    subst h
    refine ⟨?_, (shape_none hs).2, oneL_val ρ (by simp [oneL, one_nkb, h1]), fun m hm => by simp [belowL, below_nkb, hm]⟩
    simp only [valL, val_nkb]
    cases v <;> simp [one] at h1 <;> simp [val, Value.cells]
    rename_i x
    cases x <;> simp_all
  | some m =>
    cases v <;> simp only [stored] at h <;> try (cases h)
    rename_i l
    cases h1 : oneL l && (l.length == m) <;> simp [h1] at h
    subst h
    simp at h1
    exact ⟨by simp [val, Value.cells], by rw [h1.2]; exact (shape_some hs).2, oneL_val ρ h1.1, fun m hm => by simpa [below] using hm⟩

theorem store_runB {v : SV} {ys : List SV} {n : Option Nat} {b : Nat} {c : Array Value} {fr : Nat × Nat} (hs : shapeT P ty = some n) (h : stored n v = some ys)
    (hh : w.heap[b]? = some (.cells c e fr)) (hlen : o + ys.length ≤ c.size) (hfr : fr.1 = fr.2 ∨ c.size ≤ fr.1) :
    ∃ w' c', (Instr.storeAt ty (.pointer (some ⟨b, o, none⟩)) (val ρ v)).run P w = .ok () w' ∧ HeapIs w w' (w.heap.setIfInBounds b (.cells c' e fr)) ∧ c'.size = c.size ∧
      ∀ j, c'[j]? = if o ≤ j ∧ j < o + ys.length then (valL ρ ys)[j - o]? else c[j]? := by
  obtain ⟨h1, h2, h3, _⟩ := stored_spec (ρ := ρ) hs h
  have hl : (valL ρ ys).length = ys.length := by rw [valL_eq]; simp
  obtain ⟨w', c', r1, r2, r3, r4⟩ := run_storeCells (P := P) (o := o) (valL ρ ys) 0 c w hh h3 (by omega) hfr
  refine ⟨w', c', ?_, r2, r3, fun j => by simpa [hl] using r4 j⟩
  have hsz : (val ρ v).cells.size = ys.length := by rw [← hl, ← h1]; simp
  simp only [Instr.storeAt, Instr.sureAddr, storeVar]
  simp [run_size h2, hsz, h1, r1]
theorem store_run {v : SV} {ys : List SV} {n : Option Nat} {b : Nat} {c : Array Value} {fr : Nat × Nat} (hs : shapeT P ty = some n) (h : stored n v = some ys) (hb : ρ k = some b)
    (hh : w.heap[b]? = some (.cells c e fr)) (hlen : o + ys.length ≤ c.size) (hfr : fr.1 = fr.2 ∨ c.size ≤ fr.1) :
    ∃ w' c', (Instr.storeAt ty (.pointer (some ⟨(ρ k).getD 0, o, none⟩)) (val ρ v)).run P w = .ok () w' ∧ HeapIs w w' (w.heap.setIfInBounds b (.cells c' e fr)) ∧ c'.size = c.size ∧
      ∀ j, c'[j]? = if o ≤ j ∧ j < o + ys.length then (valL ρ ys)[j - o]? else c[j]? := by
  obtain ⟨h1, h2, h3, _⟩ := stored_spec (ρ := ρ) hs h
  have hl : (valL ρ ys).length = ys.length := by rw [valL_eq]; simp
  obtain ⟨w', c', r1, r2, r3, r4⟩ := run_storeCells (P := P) (o := o) (valL ρ ys) 0 c w hh h3 (by omega) hfr
  refine ⟨w', c', ?_, r2, r3, fun j => by simpa [hl] using r4 j⟩
  have hsz : (val ρ v).cells.size = ys.length := by rw [← hl, ← h1]; simp
  simp only [hb, Option.getD_some, Instr.storeAt, Instr.sureAddr, storeVar]
  simp [run_size h2, hsz, h1, r1]

theorem stores_cells (hS : St ρ H g w) {n : Option Nat} (hs : shapeT P ty = some n) {l l' : List SV} (hk : obj H k = .cells l e) {v : SV} {ys : List SV} (h : stored n v = some ys) (hvb : below H.length v = true)
    (hp : paste l o ys = some l') (hK : K un (H.set k (.cells l' e))) : Stores P ρ H g w K ty k o (val ρ v) := by
  obtain ⟨hk', hsc, b, hb, hh⟩ := cells_of hS hk
  obtain ⟨p1, p2, p3⟩ := paste_spec hp
  have hl : (valL ρ l).length = l.length := by rw [valL_eq]; simp
  obtain ⟨w', c', r1, r2, r3, r4⟩ := store_run (P := P) (w := w) (o := o) hs h hb hh (by simp [hl]; exact p1) (.inl rfl)
  have hc' : c' = (valL ρ l').toArray := by
    apply Array.ext_getElem?
    intro j
    rw [r4 j]
    simp only [valL_eq, List.getElem?_toArray, List.getElem?_map, p3 j]
    split <;> simp
  have hlt := (Array.getElem?_eq_some_iff.1 hh).1
  refine ⟨w', r1, ρ, un, H.set k (.cells l' e), by simp [val, undef], ?_, fun _ _ => rfl, by simp, rfl, hK⟩
  refine hS.set hk' rfl rfl hb r2 ⟨b, hb, ?_⟩ ?_ (by simp)
  · rw [r2.1]; simp [hlt, hc']
  · intro l2 e2 he
    cases he
    rw [belowL_eq] at hsc ⊢
    intro x hx
    rcases paste_mem hp x hx with h1 | h1
    · exact hsc x h1
    · exact (belowL_eq _ _).1 ((stored_spec (ρ := ρ) hs h).2.2.2 _ hvb) x h1

theorem stores_row (hS : St ρ H g w) {n : Option Nat} (hs : shapeT P ty = some n) {xs l' : List Value} (hk : obj H k = .arr xs e) {v : SV} {ys : List SV} {zs : List Value} (h : stored n v = some ys) (hz : plainL ys = some zs)
    (hp : paste xs o zs = some l') (hK : K un (H.set k (.arr l' e))) : Stores P ρ H g w K ty k o (val ρ v) := by
  have hk' : H[k]? = some (.arr xs e) := by rw [← hk]; exact obj_some (by simp [hk])
  obtain ⟨p1, p2, p3⟩ := paste_spec hp
  have hz' := plainL_val ρ hz
  have hzl : zs.length = ys.length := by rw [← hz', valL_eq]; simp
  rcases hS.ent k _ hk' with ⟨_, rfl⟩ | ⟨b, fr, hb, hh, hfr⟩
  · -- no room in a nil row
    have h0 : ys.length = 0 := by simp only [List.length_nil] at p1; omega
    exfalso
    have := (stored_spec (ρ := ρ) hs h).2.1
    rw [h0] at this
    cases n with
    | none => rw [(shape_none hs).2] at this; cases this
    | some m => rw [(shape_some hs).2] at this; cases this; exact shape_zero hs
  · obtain ⟨w', c', r1, r2, r3, r4⟩ := store_run (P := P) (w := w) (o := o) hs h hb hh (by simp; omega) (by simpa using hfr)
    have hc' : c' = l'.toArray := by
      apply Array.ext_getElem?
      intro j
      rw [r4 j]
      simp only [List.getElem?_toArray, p3 j, hz', hzl]
    have hlt := (Array.getElem?_eq_some_iff.1 hh).1
    refine ⟨w', r1, ρ, un, H.set k (.arr l' e), by simp [val, undef], ?_, fun _ _ => rfl, by simp, rfl, hK⟩
    refine hS.set hk' rfl rfl hb r2 (.inr ⟨b, fr, hb, ?_, by rw [p2]; exact hfr⟩) (by simp) (by simp)
    rw [r2.1]; simp [hlt, hc']

theorem sound_store {n : Option Nat} {adr v : SV} (hs : shapeT P ty = some n) (hS : St ρ H g w) (hvb : below H.length v = true) (hv : vcStore n adr v H fun H' => K un H') :
    ∃ w', (Instr.storeAt ty (val ρ adr) (val ρ v)).run P w = .ok () w' ∧ Res ρ H g K undef w' := by
  unfold vcStore at hv
  cases hst : stored n v <;> simp only [hst] at hv
  rename_i ys
  split at hv
  case h_4 => exact hv.elim
  case h_3 b o =>
    split at hv
    case h_2 => exact hv.elim
    rename_i zs hz
    obtain ⟨j, h, xs, e, fr, l', ⟨hj, hb, hfr, hp⟩, hK⟩ := hv
    rw [setHK_eq] at hK
    have hj' : H[j]? = some (.heap h) := by rw [← hj]; exact obj_some (by simp [hj])
    have hh := hS.ent j _ hj' b _ hb
    obtain ⟨p1, p2, p3⟩ := paste_spec hp
    have hz' := plainL_val ρ hz
    have hzl : zs.length = ys.length := by rw [← hz', valL_eq]; simp
    obtain ⟨w', c', r1, r2, r3, r4⟩ := store_runB (P := P) (w := w) (o := o) (ρ := ρ) hs hst hh (by simp; omega) (by simpa [free] using hfr)
    have hc' : c' = l'.toArray := by
      apply Array.ext_getElem?
      intro j
      rw [r4 j]
      simp only [List.getElem?_toArray, p3 j, hz', hzl]
    subst hc'
    exact ⟨w', r1, ρ, un, _, by simp [val, undef], hS.setHeap hj' (by rw [hb]; simp) r2, fun _ _ => rfl, by simp, rfl, hK⟩
  all_goals
    rename_i k o
    simp only [objK_eq] at hv
    simp only [val]
    cases hk : obj H k <;> simp only [hk] at hv <;> try exact hv.elim
  · split at hv
    · rw [setHK_eq] at hv; exact stores_cells hS hs hk hst hvb (by assumption) hv
    · exact hv.elim
  · split at hv
    · obtain ⟨l', h1, h2⟩ := hv
      rw [setHK_eq] at h2; exact stores_row hS hs hk hst (by assumption) h1 h2
    · exact hv.elim
  · obtain ⟨l', h1, h2⟩ := hv
    rw [setHK_eq] at h2; exact stores_cells hS hs hk hst hvb h1 h2
  · split at hv
    · obtain ⟨l', h1, h2⟩ := hv
      rw [setHK_eq] at h2; exact stores_row hS hs hk hst (by assumption) h1 h2
    · exact hv.elim
end stores
end
end Go.V

namespace Go.V
open Go
set_option linter.unusedSectionVars false
variable [Mode]

section
variable {P : Program} {ρ : Rho} {H : List SO} {g : Fr} {w : World} {K : SV → List SO → Prop} {t : List SV} {a : Act} {o : Oper}

theorem GoodRes.val {s : Sem Value} {v : Value} {w' : World} (h : s.run P w = .ok v w') (hr : Res ρ H g K v w') :
    GoodRes P ρ H g K ((do pure (Next.value (← s)) : Sem Next).run P w) := by
  simp [h, GoodRes, hr]
theorem GoodRes.unit {s : Sem Unit} {w' : World} (h : s.run P w = .ok () w') (hr : Res ρ H g K undef w') :
    GoodRes P ρ H g K ((do s; pure Next.skip : Sem Next).run P w) := by
  simp [h, GoodRes, hr]

theorem GoodRes1.val {s : Sem Value} {v : Value} (h : s.run P w = .ok v w) (hr : Here ρ H K v) :
    GoodRes1 P ρ H K w ((do pure (Next.value (← s)) : Sem Next).run P w) := by
  simp [h, GoodRes1_ok, hr]

/-- Everything that a proof of one operation has at hand. -/
structure At (P : Program) (ρ : Rho) (H : List SO) (g : Fr) (w : World) (t : List SV) (a : Act) : Prop where
  f : Frm ρ t a
  b : belowL H.length t = true
  s : St ρ H g w

theorem At.eq (h : At P ρ H g w t a) {x : Operand} {y : Opd} (hx : cOpd x = some y) : a.eval x = V.val ρ (ev t y) := eval_ev h.f hx
theorem At.bel (h : At P ρ H g w t a) {x : Operand} {y : Opd} (hx : cOpd x = some y) : below H.length (ev t y) = true := below_ev h.b hx

theorem evL_map (h : At P ρ H g w t a) : ∀ {l : List Operand} {m : List Opd}, l.mapM cOpd = some m → l.map a.eval = valL ρ (evL t m) ∧ belowL H.length (evL t m) = true
  | [], m, hm => by simp at hm; subst hm; exact ⟨rfl, rfl⟩
  | x :: l, m, hm => by
    simp [List.mapM_cons, Option.bind_eq_some_iff] at hm
    obtain ⟨y, hy, m', hm', rfl⟩ := hm
    obtain ⟨h1, h2⟩ := evL_map h hm'
    exact ⟨by simp [evL, valL, h.eq hy, h1], by simp [evL, belowL, h.bel hy, h2]⟩

theorem s_mov (h : At P ρ H g w t a) {x : Operand} {y : Opd} (hx : cOpd x = some y) (hv : vcOp P (.mov y) t H K) :
    GoodRes1 P ρ H K w ((pure (Next.value (a.eval x)) : Sem Next).run P w) := by
  simp only [vcOp, evK_eq] at hv
  simp only [Sem.run_pure, GoodRes1_ok, h.eq hx]
  exact Here.here (h.bel hx) hv

theorem asB_val {v : SV} {b : Bool} (h : asB v = some b) : V.val ρ v = .bool b := by
  cases v <;> simp [asB] at h
  · rename_i x
    cases x <;> simp at h
    subst h; rfl
  · subst h; rfl

theorem s_pick (h : At P ρ H g w t a) {c x y : Operand} {c' x' y' : Opd} (hc : cOpd c = some c') (hx : cOpd x = some x') (hy : cOpd y = some y') (hv : vcOp P (.pick c' x' y') t H K) :
    GoodRes1 P ρ H K w ((do pure (Next.value (if ← asBool (a.eval c) then a.eval x else a.eval y)) : Sem Next).run P w) := by
  simp only [vcOp, evK_eq] at hv
  have hcv := h.eq hc
  have hxv := h.eq hx
  have hyv := h.eq hy
  have hxb := h.bel hx
  have hyb := h.bel hy
  have key : ∀ p : Bool, a.eval c = .bool p → (p = true → K (ev t x') H) → (p = false → K (ev t y') H) →
      GoodRes1 P ρ H K w ((do pure (Next.value (if ← asBool (a.eval c) then a.eval x else a.eval y)) : Sem Next).run P w) := by
    intro p hp h1 h2
    rw [hp]
    cases p
    · simp [asBool, GoodRes1_ok, hyv]; exact Here.here hyb (h2 rfl)
    · simp [asBool, GoodRes1_ok, hxv]; exact Here.here hxb (h1 rfl)
  unfold vcPick at hv
  split at hv
  · rename_i e; exact key true (by rw [hcv, e]; rfl) (fun _ => hv) (fun e => by cases e)
  · rename_i e; exact key false (by rw [hcv, e]; rfl) (fun e => by cases e) (fun _ => hv)
  · rename_i p e
    split at hv
    · rename_i b1 b2 e1 e2
      rw [hcv, e, hxv, hyv, asB_val e1, asB_val e2]
      have := Here.here (ρ := ρ) (K := K) (sv := .raw (.bool (bif p then b1 else b2))) rfl hv
      cases p <;> simpa [asBool, GoodRes1_ok, V.val] using this
    · exact key p (by rw [hcv, e]; rfl) hv.1 hv.2
  · exact hv.elim

theorem s_new (h : At P ρ H g w t a) {e : TypeId} {zs : List Value} (hz : zeroCellsT P e = some zs) (hv : vcOp P (.new e zs) t H K) :
    GoodRes P ρ H g K ((do pure (Next.value (← Instr.alloc e true (.tuple #[]))) : Sem Next).run P w) := by
  simp only [vcOp, rawsK_eq, newHK_eq] at hv
  unfold zeroCellsT at hz
  cases hz0 : zeroT P e with
  | none => simp [hz0] at hz
  | some z =>
    simp [hz0] at hz
    refine GoodRes.val (v := .pointer (some ⟨w.heap.size, 0, none⟩)) (w' := w.alloc (.cells z.cells e)) ?_ ?_
    · simp [Instr.alloc, run_zero hz0, newVar, newRow]
    · refine Res.alloc h.s (so := .cells (zs.map .raw) e) (sv := .ptr H.length 0) ⟨rfl, rfl, rfl, rfl, Nat.le_refl _⟩ rfl ⟨w.heap.size, upd_same _ _ _, ?_⟩ ?_ (by simp) (by simp [V.val, upd_same]) (by simp [below]) hv
      · have : (valL (upd ρ H.length (some w.heap.size)) (zs.map .raw)).toArray = z.cells := by
          rw [valL_eq]; simp only [List.map_map, Function.comp_def, V.val, List.map_id']; rw [← hz]
        rw [heap_push_new rfl, this]
      · intro l e2 he; cases he; exact below_raws _ _

theorem s_box (h : At P ρ H g w t a) {e : TypeId} {x : Operand} {y : Opd} (hx : cOpd x = some y) (hv : vcOp P (.box e y) t H K) :
    GoodRes P ρ H g K ((do pure (Next.value (← Instr.box e (a.eval x))) : Sem Next).run P w) := by
  simp only [vcOp, evK_eq] at hv
  have hb := h.bel hx
  have key : ∀ l : List SV, (V.val ρ (ev t y)).cells.toList = valL ρ l → belowL H.length l = true → K (.ptr H.length 0) (H ++ [.cells l e]) →
      GoodRes P ρ H g K ((do pure (Next.value (← Instr.box e (a.eval x))) : Sem Next).run P w) := by
    intro l h1 h2 h3
    refine GoodRes.val (v := .pointer (some ⟨w.heap.size, 0, none⟩)) (w' := w.alloc (.cells (valL ρ l).toArray e)) ?_ ?_
    · rw [h.eq hx]; simp [Instr.box, newVar, newRow, ← h1]
    · refine Res.alloc h.s (so := .cells l e) (sv := .ptr H.length 0) ⟨rfl, rfl, rfl, rfl, Nat.le_refl _⟩ rfl ⟨w.heap.size, upd_same _ _ _, ?_⟩ ?_ (by simp) (by simp [V.val, upd_same]) (by simp [below]) h3
      · rw [heap_push_new rfl, valL_congr (fun k hk => upd_lt ρ _ hk) l h2]
      · intro l2 e2 he; cases he; exact h2
  have one1 : one (ev t y) = true → (V.val ρ (ev t y)).cells.toList = valL ρ [ev t y] := by
    intro h1
    cases hy : ev t y <;> simp [hy, one] at h1 <;> simp [V.val, Value.cells, valL]
    rename_i x
    cases x <;> simp_all
  split at hv
  · rename_i l e1
    rw [newHK_eq] at hv
    refine key l (by rw [e1]; simp [V.val, Value.cells]) (by rw [e1] at hb; simpa [below] using hb) hv
  · exact hv.elim
  · cases h1 : one (ev t y) with
    | false => simp [h1] at hv
    | true => simp [h1, newHK_eq] at hv; exact key [ev t y] (one1 h1) (by simp [belowL, hb]) hv

theorem s_load (h : At P ρ H g w t a) {ty : TypeId} {x : Operand} {y : Opd} {n : Option Nat} (hs : shapeT P ty = some n) (hx : cOpd x = some y) (hv : vcOp P (.load n y) t H K) :
    GoodRes1 P ρ H K w ((do pure (Next.value (← Instr.loadAt ty (a.eval x))) : Sem Next).run P w) := by
  simp only [vcOp, evK_eq] at hv
  obtain ⟨v, h1, h2⟩ := sound_load hs h.s hv
  rw [h.eq hx]
  exact GoodRes1.val h1 h2
theorem s_store (h : At P ρ H g w t a) {ty : TypeId} {x v : Operand} {y z : Opd} {n : Option Nat} (hs : shapeT P ty = some n) (hx : cOpd x = some y) (hz : cOpd v = some z) (hv : vcOp P (.store n y z) t H K) :
    GoodRes P ρ H g K ((do Instr.storeAt ty (a.eval x) (a.eval v); pure Next.skip : Sem Next).run P w) := by
  simp only [vcOp, evK_eq] at hv
  obtain ⟨w', h1, h2⟩ := sound_store hs h.s (h.bel hz) hv
  rw [h.eq hx, h.eq hz]
  exact GoodRes.unit h1 h2

theorem s_nilck (h : At P ρ H g w t a) {x : Operand} {y : Opd} (ho : o.op = .nilCheck x) (hx : cOpd x = some y) (hv : vcOp P (.nilck y) t H K) :
    GoodRes1 P ρ H K w ((execOp a.eval o).run P w) := by
  simp only [vcOp, evK_eq] at hv
  split at hv
  · rename_i k off e
    rw [objK_eq] at hv
    split at hv
    · rename_i l e2 hk
      obtain ⟨_, _, b, hb, _⟩ := cells_of h.s hk
      have hev : a.eval x = .pointer (some ⟨b, off, none⟩) := by rw [h.eq hx, e]; simp [V.val, hb]
      have hbl := h.bel hx
      rw [e] at hbl
      simp only [execOp, ho, hev, Sem.run_pure, GoodRes1_ok]
      have := Here.here (ρ := ρ) (K := K) hbl hv
      simpa [V.val, hb] using this
    · exact hv.elim
  · rename_i ad e
    have hev : a.eval x = .pointer (some ad) := by rw [h.eq hx, e]; rfl
    simp only [execOp, ho, hev, Sem.run_pure, GoodRes1_ok]
    exact Here.here (ρ := ρ) (K := K) (sv := .raw (.pointer (some ad))) rfl hv
  · exact hv.elim

theorem s_un (h : At P ρ H g w t a) {op : UnOp} {x : Operand} {y : Opd} (hx : cOpd x = some y) (hv : vcOp P (.un op y) t H K) :
    GoodRes1 P ρ H K w ((do pure (Next.value (← Op.unary op (a.eval x))) : Sem Next).run P w) := by
  simp only [vcOp, evK_eq] at hv
  rw [h.eq hx]
  unfold vcUn at hv
  split at hv
  · rename_i e; rw [e]; exact GoodRes1.val (by simp [V.val, Op.unary]) (Here.here (sv := .kb false) rfl hv)
  · rename_i e; rw [e]; exact GoodRes1.val (by simp [V.val, Op.unary]) (Here.here (sv := .kb true) rfl hv)
  · rename_i b e; rw [e]; exact GoodRes1.val (by simp [V.val, Op.unary]) (Here.here (sv := .raw (.bool (!b))) rfl hv)
  · rename_i k n e; rw [e]
    obtain ⟨c, hc, hk⟩ := hv
    exact GoodRes1.val (by simp only [V.val, Op.unary, Op.intArith, hc, Sem.run_pure]) (Here.here (sv := .raw (.int k c)) rfl hk)
  · rename_i k n e; rw [e]
    obtain ⟨c, hc, hk⟩ := hv
    refine GoodRes1.val (v := .int k c) ?_ (Here.here (sv := .raw (.int k c)) rfl hk)
    simp only [V.val, Op.unary, Op.intBits, Sem.run_pure]
    rw [← hc]; rfl
  · exact hv.elim

theorem s_faddr (h : At P ρ H g w t a) {s : TypeId} {x : Operand} {y : Opd} {f : Nat} {fs : Array Field} {fd : Field} {n : Nat} (hs : P.underlying s = some (.struct fs)) (hfd : fs[f]? = some fd) (hn : sizeT P fd.type = some n) (h0 : n ≠ 0)
    (hx : cOpd x = some y) (hv : vcOp P (.faddr fd.offset y) t H K) :
    GoodRes1 P ρ H K w ((do pure (Next.value (← Instr.fieldAt s (a.eval x) f)) : Sem Next).run P w) := by
  simp only [vcOp, evK_eq] at hv
  have hb := h.bel hx
  split at hv
  all_goals first
    | exact hv.elim
    | (rename_i k off e
       rw [e] at hb
       refine GoodRes1.val ?_ (Here.here ?_ hv)
       · rw [h.eq hx, e]
         simp [V.val, Instr.fieldAt, run_und hs, hfd, Instr.sureAddr, fieldPlace, run_size hn, h0, add_eq]
       · first | rfl | (simpa [below] using hb))

theorem s_field (h : At P ρ H g w t a) {s : TypeId} {x : Operand} {y : Opd} {f : Nat} {fs : Array Field} {fd : Field} {n : Option Nat} (hs : P.underlying s = some (.struct fs)) (hfd : fs[f]? = some fd) (hn : shapeT P fd.type = some n)
    (hx : cOpd x = some y) (hv : vcOp P (.field fd.offset n y) t H K) :
    GoodRes1 P ρ H K w ((do pure (Next.value (← Instr.field s (a.eval x) f)) : Sem Next).run P w) := by
  simp only [vcOp, evK_eq] at hv
  have hb := h.bel hx
  unfold vcField at hv
  split at hv
  · rename_i l e
    rw [e] at hb
    simp only [below] at hb
    have hl : (V.val ρ (ev t y)) = .agg (valL ρ l).toArray := by rw [e]; rfl
    split at hv
    · split at hv
      · rename_i v hvl
        refine GoodRes1.val ?_ (Here.here ((belowL_eq _ _).1 hb v (List.mem_of_getElem? hvl)) hv)
        rw [h.eq hx, hl]
        simp [Instr.field, run_und hs, hfd, asAgg, part, run_isAgg (shape_none hn).1, valL_eq, hvl]
      · exact hv.elim
    · rename_i m
      split at hv
      · rename_i l' hc
        obtain ⟨c1, c2⟩ := cut_spec hc
        refine GoodRes1.val ?_ (Here.here (sv := .agg l') (by simp only [below]; rw [belowL_eq] at hb ⊢; exact fun v hv => hb v (cut_mem hc v hv)) hv)
        rw [h.eq hx, hl]
        simp [Instr.field, asAgg, part, V.val, run_und hs, hfd, run_isAgg (shape_some hn).1, run_size (shape_some hn).2]
        have hm : m ≠ 0 := fun e0 => shape_zero (e0 ▸ hn)
        apply List.ext_getElem?
        intro j
        by_cases hj : j < m
        · rw [List.getElem?_take_of_lt (by omega), List.getElem?_drop]
          simp only [valL_eq, List.getElem?_map, c2 j hj]
        · have e1 : (valL ρ l').length ≤ j := by rw [valL_eq, List.length_map]; omega
          rw [List.getElem?_eq_none e1, List.getElem?_eq_none (by simp; omega)]
      · exact hv.elim
  · exact hv.elim

theorem s_iaddr (h : At P ρ H g w t a) {ty el : TypeId} {x i : Operand} {y j : Opd} {sz : Nat} (len : Option Nat) (hs : P.underlying ty = some (match len with | some n => .array n el | none => .slice el)) (hn : sizeT P el = some sz) (h1 : sz ≠ 0) (h2 : ∀ n, len = some n → 1 < n)
    (hx : cOpd x = some y) (hj : cOpd i = some j) (hv : vcOp P (.iaddr sz len y j) t H K) :
    GoodRes1 P ρ H K w ((do pure (Next.value (← Instr.indexAt ty (a.eval x) (a.eval i))) : Sem Next).run P w) := by
  simp only [vcOp, evK_eq] at hv
  have hb := h.bel hx
  have arr : ∀ (k off n : Nat) (ik : IntKind) (iv : Int) (sv : SV), len = some n → V.val ρ (ev t y) = .pointer (some ⟨(ρ k).getD 0, off, none⟩) → V.val ρ (ev t j) = .int ik iv → (0 ≤ iv ∧ iv < n) →
      V.val ρ sv = .pointer (some ⟨(ρ k).getD 0, off + iv.toNat * sz, none⟩) → below H.length sv = true → K sv H →
      GoodRes1 P ρ H K w ((do pure (Next.value (← Instr.indexAt ty (a.eval x) (a.eval i))) : Sem Next).run P w) := by
    intro k off n ik iv sv e0 e1 e2 hr e3 hbl hk
    subst e0
    refine GoodRes1.val ?_ (Here.here hbl hk)
    rw [h.eq hx, h.eq hj, e1, e2, e3]
    simp [Instr.indexAt, asIntOf, run_und hs, Instr.sureAddr, hr, run_size hn, add_eq]
  unfold vcIaddr at hv
  split at hv
  · rename_i k off n e
    rw [e] at hb
    split at hv
    · rename_i ik iv e2
      cases hc : decide (0 ≤ iv) && decide (iv < n) with
      | false => simp [hc] at hv
      | true =>
        simp only [hc, cond_true] at hv
        exact arr k off n ik iv (.ptr k (off + iv.toNat * sz)) rfl (by rw [e]; rfl) (by rw [e2]; rfl) (by simpa using hc) rfl (by simpa [below] using hb) hv
    · rename_i ik iv _ e2
      exact arr k off n ik iv (.ptx k (off + iv.toNat * sz)) rfl (by rw [e]; rfl) (by rw [e2]; rfl) hv.1 rfl (by simpa [below] using hb) hv.2
    · exact hv.elim
  · rename_i k off n e
    rw [e] at hb
    split at hv
    · rename_i ik iv e2
      exact arr k off n ik iv (.ptx k (off + iv.toNat * sz)) rfl (by rw [e]; rfl) (by rw [e2]; rfl) hv.1 rfl (by simpa [below] using hb) hv.2
    · exact hv.elim
  · rename_i k off n c e
    rw [e] at hb
    split at hv
    · rename_i ik iv e2
      rw [objK_eq] at hv
      have key : ∀ (xs : List Value) (e' : TypeId), (obj H k = .arr xs e' ∨ obj H k = .ro xs e') → (0 ≤ iv ∧ iv < n ∧ off + n * sz ≤ xs.length) → K (.ptx k (off + iv.toNat * sz)) H →
          GoodRes1 P ρ H K w ((do pure (Next.value (← Instr.indexAt ty (a.eval x) (a.eval i))) : Sem Next).run P w) := by
        intro xs e' hk hr hkk
        rcases row_of h.s hk with rfl | ⟨b, fr, hb2, _⟩
        · exfalso
          obtain ⟨r1, r2, r3⟩ := hr
          have h4 : n * sz = 0 := by simp only [List.length_nil] at r3; omega
          rcases Nat.mul_eq_zero.1 h4 with h3 | h3 <;> omega
        · refine GoodRes1.val ?_ (Here.here (sv := .ptx k (off + iv.toNat * sz)) (by simpa [below] using hb) hkk)
          rw [h.eq hx, h.eq hj, e, e2]
          simp [V.val, hb2, Instr.indexAt, asIntOf, run_und hs, hr.1, hr.2.1, run_size hn, add_eq]
      split at hv
      · rename_i xs e' hk; exact key xs e' (.inl hk) hv.1 hv.2
      · rename_i xs e' hk; exact key xs e' (.inr hk) hv.1 hv.2
      · exact hv.elim
    · exact hv.elim
  · rename_i b off n c e
    split at hv
    · rename_i ik iv e2
      obtain ⟨hr, hv⟩ := hv
      refine GoodRes1.val ?_ (Here.here (sv := .raw (.pointer (some ⟨b, off + iv.toNat * sz, none⟩))) rfl hv)
      rw [h.eq hx, h.eq hj, e, e2]
      simp [V.val, Instr.indexAt, asIntOf, run_und hs, hr.1, hr.2, run_size hn, add_eq]
    · exact hv.elim
  · rename_i b off n e
    split at hv
    · rename_i ik iv e2
      obtain ⟨hr, hv⟩ := hv
      refine GoodRes1.val ?_ (Here.here (sv := .raw (.pointer (some ⟨b, off + iv.toNat * sz, none⟩))) rfl hv)
      rw [h.eq hx, h.eq hj, e, e2]
      simp [V.val, Instr.indexAt, asIntOf, run_und hs, Instr.sureAddr, hr.1, hr.2, run_size hn, add_eq]
    · exact hv.elim
  · exact hv.elim
end
end Go.V

namespace Go.V
open Go

/-! ### '==' on aggregates -/
def eq1V : FC → Value → Value → Option Bool
  | .i, .int k a, .int k' b => if k = k' then some (decide (a = b)) else none
  | .s, .string a, .string b => some (a == b)
  | .b, .bool a, .bool b => some (a == b)
  | _, _, _ => none
def eqV : List FC → List Value → List Value → Option Bool
  | [], [], [] => some true
  | c :: cl, x :: l, y :: m => match eq1V c x y, eqV cl l m with
    | some a, some b => some (a && b)
    | _, _ => none
  | _, _, _ => none
theorem eqV_len : ∀ {cl : List FC} {xs ys : List Value} {b : Bool}, eqV cl xs ys = some b → xs.length = cl.length ∧ ys.length = cl.length
  | [], [], [], _, _ => ⟨rfl, rfl⟩
  | c :: cl, x :: l, y :: m, b, h => by
    simp only [eqV] at h
    split at h
    · rename_i h1 h2
      obtain ⟨e1, e2⟩ := eqV_len h2
      exact ⟨by simp [e1], by simp [e2]⟩
    · cases h
  | [], [], _ :: _, _, h => by simp [eqV] at h
  | [], _ :: _, _, _, h => by simp [eqV] at h
  | _ :: _, [], _, _, h => by simp [eqV] at h
  | _ :: _, _ :: _, [], _, h => by simp [eqV] at h
theorem eqV_append : ∀ {c1 c2 : List FC} {xs ys : List Value} {b : Bool}, eqV (c1 ++ c2) xs ys = some b →
    ∃ b1 b2, eqV c1 (xs.take c1.length) (ys.take c1.length) = some b1 ∧ eqV c2 (xs.drop c1.length) (ys.drop c1.length) = some b2 ∧ b = (b1 && b2)
  | [], c2, xs, ys, b, h => ⟨true, b, by simp [eqV], by simpa using h, by simp⟩
  | c :: c1, c2, x :: l, y :: m, b, h => by
    simp only [List.cons_append, eqV] at h
    split at h
    · rename_i a b' h1 h2
      obtain ⟨b1, b2, e1, e2, e3⟩ := eqV_append h2
      cases h
      refine ⟨a && b1, b2, ?_, by simpa using e2, by rw [e3, Bool.and_assoc]⟩
      simp [eqV, h1, e1]
    · cases h
  | c :: c1, c2, [], _, b, h => by simp [eqV] at h
  | c :: c1, c2, _ :: _, [], b, h => by simp [eqV] at h

section
variable {P : Program} {w : World}

def mkV (P : Program) (t : TypeId) (xs : List Value) : Value := if isAggT P t = some true then .agg xs.toArray else xs.headD undef

theorem cls_isAgg {d : Nat} {t : TypeId} {cl : List FC} (h : clsT P d t = some cl) : ∃ b, isAggT P t = some b ∧ (b = false → ∃ c, cl = [c]) := by
  cases d with
  | zero => simp [clsT] at h
  | succ d =>
    unfold clsT at h
    cases hu : P.underlying t with
    | none => simp [hu] at h
    | some k =>
      cases k <;> simp only [hu] at h <;> simp [isAggT, hu] <;> first | (cases h; done) | skip
      all_goals simp at h
      all_goals exact ⟨_, h.symm⟩

theorem run_part {t : TypeId} {sz off : Nat} {cs : Array Value} {b : Bool} (ha : isAggT P t = some b) (hs : sizeT P t = some sz) (hb : b = false → sz = 1) (hl : b = false → off + sz ≤ cs.size) :
    (part t cs off).run P w = .ok (mkV P t ((cs.toList.drop off).take sz)) w := by
  cases b with
  | true =>
    simp only [part, Sem.run_bind, run_isAgg ha, Result.andThen_ok, if_true, run_size hs, Sem.run_pure, mkV, ha]
    congr 2
    apply Array.ext'
    simp [List.extract]
  | false =>
    obtain rfl := hb rfl
    have hlt : off < cs.size := by have := hl rfl; omega
    have hd : cs.toList.drop off = cs[off] :: cs.toList.drop (off + 1) := by rw [List.drop_eq_getElem_cons (by simpa using hlt)]; simp
    simp only [part, Sem.run_bind, run_isAgg ha, Result.andThen_ok, mkV, ha]
    rw [hd]; simp [hlt]

theorem run_eq_fields {d e : Nat} (ih : ∀ t cl, clsT P d t = some cl → ∀ xs ys b (w : World), eqV cl xs ys = some b → (Op.equalIn (d + e) t (mkV P t xs) (mkV P t ys)).run P w = .ok b w) (xs ys : Array Value) :
    ∀ (fs : List Field) (off : Nat) (cl : List FC) (b : Bool) (w : World), fieldsCls P (clsT P d) off fs = some cl → eqV cl (xs.toList.drop off) (ys.toList.drop off) = some b →
      (Op.eqFields (d + e) xs ys fs).run P w = .ok b w
  | [], off, cl, b, w, hf, hb => by
    simp [fieldsCls] at hf; subst hf
    cases hx : xs.toList.drop off <;> cases hy : ys.toList.drop off <;> simp [hx, hy, eqV] at hb
    subst hb; simp [Op.eqFields]
  | f :: fs, off, cl, b, w, hf, hb => by
    unfold fieldsCls at hf
    split at hf
    · rename_i cf sz h1 h2
      split at hf
      · rename_i h3
        obtain ⟨h4, h5, h6⟩ := h3
        split at hf
        · rename_i cr h7
          cases hf
          obtain ⟨b1, b2, e1, e2, e3⟩ := eqV_append hb
          obtain ⟨l1, l2⟩ := eqV_len e1
          obtain ⟨bb, g1, g2⟩ := cls_isAgg h1
          have hsz : bb = false → sz = 1 := fun h => by obtain ⟨c, rfl⟩ := g2 h; simpa using h6.symm
          have hlx : bb = false → off + sz ≤ xs.size := by
            intro hbb; have := hsz hbb; have := l1; simp at this; omega
          have hly : bb = false → off + sz ≤ ys.size := by
            intro hbb; have := hsz hbb; have := l2; simp at this; omega
          subst h5
          simp only [Op.eqFields, h4, ne_eq, not_false_eq_true, if_true, Sem.run_bind, run_part g1 h2 hsz hlx, run_part g1 h2 hsz hly, Result.andThen_ok]
          rw [h6] at e1
          rw [ih f.type cf h1 _ _ b1 w e1]
          rw [h6, List.drop_drop, List.drop_drop] at e2
          have := run_eq_fields ih xs ys fs (f.offset + sz) cr b2 w h7 e2
          cases b1
          · simp [e3]
          · simp [e3, this]
        · cases hf
      · cases hf
    · cases hf

theorem run_eq_items {d e sz : Nat} {el : TypeId} {c : List FC} (hc : clsT P d el = some c) (hsz : sizeT P el = some sz) (hl : c.length = sz)
    (ih : ∀ xs ys b (w : World), eqV c xs ys = some b → (Op.equalIn (d + e) el (mkV P el xs) (mkV P el ys)).run P w = .ok b w) (xs ys : Array Value) :
    ∀ (n m : Nat) (b : Bool), n * sz ≤ xs.size → n * sz ≤ ys.size → m ≤ n → eqV (List.flatten (List.replicate m c)) ((xs.toList.drop ((n - m) * sz)).take (m * sz)) ((ys.toList.drop ((n - m) * sz)).take (m * sz)) = some b →
      (Op.eqItems (d + e) el sz xs ys ((List.range' (n - m) m))).run P w = .ok b w
  | n, 0, b, _, _, _, h => by simp [eqV] at h; subst h; simp [Op.eqItems]
  | n, m + 1, b, hx, hy, hm, h => by
    rw [List.replicate_succ, List.flatten_cons] at h
    obtain ⟨b1, b2, e1, e2, e3⟩ := eqV_append h
    obtain ⟨bb, g1, g2⟩ := cls_isAgg hc
    have hsz1 : bb = false → sz = 1 := fun h => by obtain ⟨c', rfl⟩ := g2 h; simpa using hl.symm
    have hmul : (n - (m + 1)) * sz + (m + 1) * sz = n * sz := by rw [← Nat.add_mul]; congr 1; omega
    have hmul2 : (m + 1) * sz = m * sz + sz := Nat.succ_mul _ _
    have hlx : (n - (m + 1)) * sz + sz ≤ xs.size := by omega
    have hly : (n - (m + 1)) * sz + sz ≤ ys.size := by omega
    rw [hl, List.take_take, List.take_take, Nat.min_eq_left (by omega)] at e1
    rw [hl, List.drop_take, List.drop_take, List.drop_drop, List.drop_drop] at e2
    have e4 : (n - (m + 1)) * sz + sz = (n - m) * sz := by rw [← Nat.succ_mul]; congr 1; omega
    rw [e4, show (m + 1) * sz - sz = m * sz by omega] at e2
    have hr := run_eq_items hc hsz hl ih xs ys n m b2 hx hy (by omega) e2
    rw [List.range'_succ, show n - (m + 1) + 1 = n - m by omega]
    simp only [Op.eqItems, Sem.run_bind, run_part g1 hsz hsz1 (fun _ => hlx), run_part g1 hsz hsz1 (fun _ => hly), Result.andThen_ok, ih _ _ b1 w e1]
    cases b1
    · simp [e3]
    · simp [e3, hr]

theorem run_eq_cls (e : Nat) : ∀ (d : Nat) (t : TypeId) (cl : List FC), clsT P d t = some cl → ∀ (xs ys : List Value) (b : Bool) (w : World), eqV cl xs ys = some b →
    (Op.equalIn (d + e) t (mkV P t xs) (mkV P t ys)).run P w = .ok b w
  | 0, _, _, h, _, _, _, _, _ => by simp [clsT] at h
  | d + 1, t, cl, h, xs, ys, b, w, hb => by
    rw [show d + 1 + e = (d + e) + 1 by omega]
    unfold clsT at h
    cases hu : P.underlying t with
    | none => simp [hu] at h
    | some k =>
      cases k <;> simp only [hu] at h <;> try (cases h; done)
      case int q =>
        cases h
        obtain ⟨l1, l2⟩ := eqV_len hb
        match xs, ys, l1, l2, hb with
        | [x], [y], _, _, hb =>
          cases x <;> cases y <;> simp [eqV, eq1V] at hb
          rename_i k a _ k' a' _
          by_cases hk : k = k'
          · subst hk; simp at hb; simp [mkV, isAggT, hu, run_equalIn_int w _ t k q a a' hu, ← hb]; rfl
          · simp [hk] at hb
      case string =>
        cases h
        obtain ⟨l1, l2⟩ := eqV_len hb
        match xs, ys, l1, l2, hb with
        | [x], [y], _, _, hb =>
          cases x <;> cases y <;> simp [eqV, eq1V] at hb
          simp [mkV, isAggT, hu, run_equalIn_string w _ t _ _ hu, ← hb, beq_toListBytes]
      case bool =>
        cases h
        obtain ⟨l1, l2⟩ := eqV_len hb
        match xs, ys, l1, l2, hb with
        | [x], [y], _, _, hb =>
          cases x <;> cases y <;> simp [eqV, eq1V] at hb
          simp [mkV, isAggT, hu, run_equalIn_bool' w _ t _ _ hu, ← hb]
      case array n el =>
        split at h
        · rename_i c sz hc hsz
          split at h
          · rename_i hl
            cases h
            have hinfo : ∃ i, P.info? el = some i ∧ i.size = sz := by
              unfold sizeT at hsz
              cases hi : P.info? el with
              | none => simp [hi] at hsz
              | some i => exact ⟨i, rfl, by simpa [hi] using hsz⟩
            obtain ⟨i, hi, his⟩ := hinfo
            obtain ⟨l1, l2⟩ := eqV_len hb
            have hlen : (List.flatten (List.replicate n c)).length = n * sz := by simp [hl]
            have hm : isAggT P t = some true := by simp [isAggT, hu]
            simp only [mkV, hm, if_true]
            rw [run_equalIn_array w (d + e) _ _ hu hi]
            have hce : P.cellsOf el = sz := by simp [Program.cellsOf, hi, his]
            rw [hce, List.range_eq_range']
            have := run_eq_items (w := w) (e := e) hc hsz hl (fun xs ys b w hb => run_eq_cls e d el c hc xs ys b w hb) xs.toArray ys.toArray n n b (by simp; omega) (by simp; omega) (Nat.le_refl _) (by
              simp only [Nat.sub_self, Nat.zero_mul, List.drop_zero]
              rw [List.take_of_length_le (by omega), List.take_of_length_le (by omega)]; exact hb)
            simpa using this
          · cases h
        · cases h
      case struct fs =>
        split at h
        · cases h
        · rename_i hst
          have hm : isAggT P t = some true := by simp [isAggT, hu]
          simp only [mkV, hm, if_true]
          have hf : P.fieldsOf t = fs := by simp [Program.fieldsOf, hu]
          rw [run_equalIn_struct w (d + e) t _ _ (by rw [hf]; exact hu) (by simpa using hst), hf]
          exact run_eq_fields (fun t cl h xs ys b w hb => run_eq_cls e d t cl h xs ys b w hb) _ _ fs.toList 0 cl b w h (by simpa using hb)

theorem eqOne_val (ρ : Rho) {c : FC} {x y : SV} {b : Bool} (h : eqOne c x y = some b) : eq1V c (val ρ x) (val ρ y) = some b := by
  unfold eqOne at h
  split at h <;> first | (cases h; done) | simp_all [val, eq1V]
  rename_i k a k' b'
  cases k <;> cases k' <;> simp_all

theorem eqCells_val (ρ : Rho) : ∀ {cl : List FC} {xs ys : List SV} {b : Bool}, eqCells cl xs ys = some b → eqV cl (valL ρ xs) (valL ρ ys) = some b
  | [], [], [], b, h => by simpa [eqCells, eqV, valL] using h
  | [c], [x], [y], b, h => by
    simp only [eqCells] at h
    simp [valL, eqV, eqOne_val ρ h]
  | c :: c' :: cl, x :: l, y :: m, b, h => by
    simp only [eqCells] at h
    split at h
    · rename_i h1 h2
      cases h
      have := eqCells_val ρ h2
      simp only [valL] at this ⊢
      simp only [eqV, eqOne_val ρ h1, this]
    · cases h
  | [c], x :: x' :: l, y :: m, b, h => by simp [eqCells] at h
  | [c], [x], y :: y' :: m, b, h => by simp [eqCells] at h
  | [], [], _ :: _, _, h => by simp [eqCells] at h
  | [], _ :: _, _, _, h => by simp [eqCells] at h
  | _ :: _, [], _, _, h => by simp [eqCells] at h
  | _ :: _, _ :: _, [], _, h => by simp [eqCells] at h
end
end Go.V

namespace Go.V
open Go
set_option linter.unusedSectionVars false
variable [Mode]

section
variable {P : Program} {ρ : Rho} {H : List SO} {g : Fr} {w : World} {K : SV → List SO → Prop} {t : List SV} {a : Act} {o : Oper}

/-- What a binary operation comes to: a value, in the world at hand. -/
def Bins (P : Program) (ρ : Rho) (w : World) (op : BinOp) (ty : TypeId) (x y : SV) (K : SV → Prop) : Prop :=
  ∃ sv, (∀ n, below n sv = true) ∧ K sv ∧ (binOp op ty (val ρ x) (val ρ y)).run P w = .ok (val ρ sv) w ∧
    ∀ x' y', (eqGuard op ty x' y' (val ρ x) (val ρ y)).run P w = .ok () w

theorem eqGuard_scalar {op : BinOp} {ty : TypeId} {x y : Operand} {u v : Value} (h : (match u, v with | .nilIface, .nilIface => false | .agg _, .agg _ => false | _, _ => true) = true) :
    (eqGuard op ty x y u v).run P w = .ok () w := by
  unfold eqGuard
  cases u <;> cases v <;> simp at h ⊢ <;> split <;> simp

theorem bins_int {op : BinOp} {ty : TypeId} {k : IntKind} {x y : Int} {Kv : SV → Prop} (hv : vcInt op k x y Kv) : Bins P ρ w op ty (.raw (.int k x)) (.raw (.int k y)) Kv := by
  have hg : ∀ x' y', (eqGuard op ty x' y' (.int k x) (.int k y)).run P w = .ok () w := fun _ _ => eqGuard_scalar rfl
  unfold vcInt at hv
  split at hv
  case h_1 => obtain ⟨c, h1, h2⟩ := hv; exact ⟨_, fun _ => rfl, h2, by simp [val, binOp, Op.intArith, h1], hg⟩
  case h_2 => obtain ⟨c, h1, h2⟩ := hv; exact ⟨_, fun _ => rfl, h2, by simp [val, binOp, Op.intArith, h1], hg⟩
  case h_3 => obtain ⟨c, h1, h2⟩ := hv; exact ⟨_, fun _ => rfl, h2, by simp [val, binOp, Op.intArith, h1], hg⟩
  case h_4 => obtain ⟨h0, c, h1, h2⟩ := hv; exact ⟨_, fun _ => rfl, h2, by simp [val, binOp, Op.intDiv, h0, h1], hg⟩
  case h_5 => obtain ⟨h0, c, h1, h2⟩ := hv; exact ⟨_, fun _ => rfl, h2, by simp [val, binOp, Op.intDiv, h0, h1], hg⟩
  case h_6 => obtain ⟨c, h1, h2⟩ := hv; exact ⟨_, fun _ => rfl, h2, by simp only [val, binOp, Op.intBits]; simp [← h1, intBits], hg⟩
  case h_7 => obtain ⟨c, h1, h2⟩ := hv; exact ⟨_, fun _ => rfl, h2, by simp only [val, binOp, Op.intBits]; simp [← h1, intBits], hg⟩
  case h_8 => obtain ⟨c, h1, h2⟩ := hv; exact ⟨_, fun _ => rfl, h2, by simp only [val, binOp, Op.intBits]; simp [← h1, intBits], hg⟩
  case h_9 => obtain ⟨c, h1, h2⟩ := hv; exact ⟨_, fun _ => rfl, h2, by simp only [val, binOp, Op.intBits]; simp [← h1, intBits], hg⟩
  case h_10 => exact ⟨_, fun _ => rfl, hv, by simp [val, binOp, Op.intCmp]; rfl, hg⟩
  case h_11 => exact ⟨_, fun _ => rfl, hv, by simp [val, binOp, Op.intCmp, bne]; rfl, hg⟩
  case h_12 => exact ⟨_, fun _ => rfl, hv, by simp [val, binOp, Op.intCmp], hg⟩
  case h_13 => exact ⟨_, fun _ => rfl, hv, by simp [val, binOp, Op.intCmp], hg⟩
  case h_14 => exact ⟨_, fun _ => rfl, hv, by simp [val, binOp, Op.intCmp], hg⟩
  case h_15 => exact ⟨_, fun _ => rfl, hv, by simp [val, binOp, Op.intCmp], hg⟩
  case h_16 => exact hv.elim

theorem bins_eq {op : BinOp} {ty : TypeId} {x y : SV} {b : Bool} {Kv : SV → Prop} (hb : (Op.equal ty (val ρ x) (val ρ y)).run P w = .ok b w)
    (hshape : ∀ op', op' = .eql ∨ op' = .neq → binOp op' ty (val ρ x) (val ρ y) = (if op' = .eql then do pure (.bool (← Op.equal ty (val ρ x) (val ρ y))) else do pure (.bool (!(← Op.equal ty (val ρ x) (val ρ y))))))
    (hg : ∀ op' x' y', op' = .eql ∨ op' = .neq → (eqGuard op' ty x' y' (val ρ x) (val ρ y)).run P w = .ok () w) (hk : vcEqB op b Kv ∨ vcEq op b Kv) : Bins P ρ w op ty x y Kv := by
  have key : ∀ (op' : BinOp), op = op' → (op' = .eql ∨ op' = .neq) → ∀ sv, val ρ sv = .bool (if op' = .eql then b else !b) → (∀ n, below n sv = true) → Kv sv → Bins P ρ w op ty x y Kv := by
    intro op' e ho sv hs hbl hkk
    subst e
    refine ⟨sv, hbl, hkk, ?_, fun x' y' => hg op x' y' ho⟩
    rw [hshape op ho, hs]
    rcases ho with rfl | rfl <;> simp [hb]
  rcases hk with hk | hk
  · unfold vcEqB at hk
    split at hk
    · exact key .eql rfl (.inl rfl) _ rfl (fun _ => rfl) hk
    · exact key .neq rfl (.inr rfl) _ rfl (fun _ => rfl) hk
    · exact hk.elim
  · unfold vcEq at hk
    split at hk
    · exact key .eql rfl (.inl rfl) _ rfl (fun _ => rfl) hk
    · exact key .neq rfl (.inr rfl) _ rfl (fun _ => rfl) hk
    · exact key .eql rfl (.inl rfl) _ rfl (fun _ => rfl) hk
    · exact key .neq rfl (.inr rfl) _ rfl (fun _ => rfl) hk
    · exact hk.elim

def BinSpec (P : Program) (ty : TypeId) (x y : Operand) : BK → Prop
  | .b => P.underlying ty = some .bool
  | .p => ∃ e n, P.underlying ty = some (.pointer e) ∧ sizeT P e = some (n + 1)
  | .sl => ∃ e, P.underlying ty = some (.slice e)
  | .mp => ∃ k e, P.underlying ty = some (.map k e)
  | .ifn => (∃ ms, P.underlying ty = some (.interface ms)) ∧ (x = .const .nilIface ∨ y = .const .nilIface)
  | .agg cl => isAggT P ty = some true ∧ P.eqGuardType P.depth ty = false ∧ clsT P 9999 ty = some cl
  | .no => True

theorem binKind_spec (op : BinOp) (ty : TypeId) (x y : Operand) : BinSpec P ty x y (binKind P op ty x y) := by
  unfold binKind
  split
  · cases hu : P.underlying ty with
    | none => trivial
    | some d =>
      cases d <;> simp only [] <;> try trivial
      case pointer e =>
        split
        · rename_i n hn; exact ⟨e, n, hu, hn⟩
        · trivial
      case slice e => exact ⟨_, hu⟩
      case map k e => exact ⟨_, _, hu⟩
      case interface ms =>
        split
        · exact ⟨⟨_, hu⟩, .inl rfl⟩
        · exact ⟨⟨_, hu⟩, .inr rfl⟩
        · trivial
      case struct fs =>
        split
        · trivial
        · rename_i hg
          split
          · rename_i cl hc; exact ⟨by simp [isAggT, hu], by simpa using hg, hc⟩
          · trivial
      case array n e =>
        split
        · trivial
        · rename_i hg
          split
          · rename_i cl hc; exact ⟨by simp [isAggT, hu], by simpa using hg, hc⟩
          · trivial
  · trivial

omit [Mode] in
theorem mkV_agg {ty : TypeId} (h : isAggT P ty = some true) (l : List Value) : mkV P ty l = .agg l.toArray := by simp [mkV, h]

theorem sound_bin (hS : St ρ H g w) {op : BinOp} {ty : TypeId} {x y : Operand} {u v : SV} {Kv : SV → Prop} (hv : vcBin op (binKind P op ty x y) u v H Kv) (hx : val ρ u = a.eval x) (hy : val ρ v = a.eval y) :
    ∃ sv, (∀ n, below n sv = true) ∧ Kv sv ∧ (binOp op ty (val ρ u) (val ρ v)).run P w = .ok (val ρ sv) w ∧ (eqGuard op ty x y (val ρ u) (val ρ v)).run P w = .ok () w := by
  have fin : Bins P ρ w op ty u v Kv → ∃ sv, (∀ n, below n sv = true) ∧ Kv sv ∧ (binOp op ty (val ρ u) (val ρ v)).run P w = .ok (val ρ sv) w ∧ (eqGuard op ty x y (val ρ u) (val ρ v)).run P w = .ok () w := by
    rintro ⟨sv, h1, h2, h3, h4⟩; exact ⟨sv, h1, h2, h3, h4 x y⟩
  cases hbk : binKind P op ty x y <;> rw [hbk] at hv <;> simp only [vcBin] at hv
  case no =>
    apply fin
    split at hv
    · rename_i k p k' q
      split at hv
      · obtain ⟨h0, c, h1, h2⟩ := hv
        exact ⟨_, fun _ => rfl, h2, by simp [val, binOp, Op.shift, h1, show ¬ q < 0 by omega], fun _ _ => eqGuard_scalar rfl⟩
      · obtain ⟨h0, c, h1, h2⟩ := hv
        exact ⟨_, fun _ => rfl, h2, by simp [val, binOp, Op.shift, h1, show ¬ q < 0 by omega], fun _ _ => eqGuard_scalar rfl⟩
      · split at hv
        · rename_i hk; subst hk; exact bins_int hv
        · exact hv.elim
    · rename_i p q
      have hg : ∀ x' y', (eqGuard op ty x' y' (.string p) (.string q)).run P w = .ok () w := fun _ _ => eqGuard_scalar rfl
      split at hv
      · refine ⟨_, fun _ => rfl, hv.2, ?_, hg⟩
        simp only [val, binOp, Op.stringOp]
        have : ¬ ((p.size + q.size : Nat) : Int) > IntKind.i64.max := by
          have h1 := hv.1
          have e : IntKind.i64.max = 9223372036854775807 := by decide
          rw [e]; omega
        rw [if_neg this]; rfl
      all_goals first
        | exact hv.elim
        | exact ⟨_, fun _ => rfl, hv, by simp [val, binOp, Op.stringOp], hg⟩
    · exact hv.elim
  case b =>
    have hu : P.underlying ty = some .bool := by have := binKind_spec (P := P) op ty x y; rwa [hbk] at this
    apply fin
    split at hv
    · rename_i p q hp hq
      refine bins_eq (b := p == q) (by rw [asB_val hp, asB_val hq]; exact run_equal_bool w ty p q hu) ?_ ?_ (.inl hv)
      · intro op' ho; rw [asB_val hp, asB_val hq]; rcases ho with rfl | rfl <;> rfl
      · intro op' x' y' _; rw [asB_val hp, asB_val hq]; exact eqGuard_scalar rfl
    · exact hv.elim
  case p =>
    obtain ⟨e, n, hu, hsz⟩ : ∃ e n, P.underlying ty = some (.pointer e) ∧ sizeT P e = some (n + 1) := by have := binKind_spec (P := P) op ty x y; rwa [hbk] at this
    apply fin
    have eq1 : ∀ p q : Option Addr, (p = none ∨ q = none) → (Op.equal ty (.pointer p) (.pointer q)).run P w = .ok (p.isNone && q.isNone) w := by
      intro p q hpq
      have gen : ∀ d, (Op.equalIn (d + 1) ty (.pointer p) (.pointer q)).run P w = .ok (p.isNone && q.isNone) w := by
        intro d; cases p <;> cases q <;> simp at hpq <;> simp [Op.equalIn, run_und hu]
      exact gen 9999
    have sh : ∀ p q : Option Addr, ∀ op', op' = .eql ∨ op' = .neq → binOp op' ty (.pointer p) (.pointer q) = (if op' = .eql then do pure (.bool (← Op.equal ty (.pointer p) (.pointer q))) else do pure (.bool (!(← Op.equal ty (.pointer p) (.pointer q))))) := by
      intro p q op' ho; rcases ho with rfl | rfl <;> rfl
    split at hv
    · exact bins_eq (b := false) (eq1 _ _ (.inr rfl)) (sh _ _) (fun _ _ _ _ => eqGuard_scalar rfl) (.inr hv)
    · exact bins_eq (b := false) (eq1 _ _ (.inl rfl)) (sh _ _) (fun _ _ _ _ => eqGuard_scalar rfl) (.inr hv)
    · exact bins_eq (b := true) (eq1 _ _ (.inl rfl)) (sh _ _) (fun _ _ _ _ => eqGuard_scalar rfl) (.inr hv)
    · rename_i k o k' o'
      cases hk : k == k' with
      | false => simp [hk] at hv
      | true =>
        simp [hk] at hv
        have hk' : k = k' := by simpa using hk
        subst hk'
        refine bins_eq (b := o == o') ?_ (sh _ _) (fun _ _ _ _ => eqGuard_scalar rfl) (.inr hv)
        have gen : ∀ d (b : Nat), (Op.equalIn (d + 1) ty (.pointer (some ⟨b, o, none⟩)) (.pointer (some ⟨b, o', none⟩))).run P w = .ok (o == o') w := by
          intro d b
          by_cases h : o = o'
          · subst h; simp [Op.equalIn, run_und hu, run_size hsz, sameAddr]
          · have e1 : ((⟨b, o, none⟩ : Addr) == ⟨b, o', none⟩) = false := beq_false_of_ne (by simp [h])
            have e2 : (o == o') = false := beq_false_of_ne h
            simp [Op.equalIn, run_und hu, run_size hsz, sameAddr, e1, e2]
        exact gen 9999 _
    · exact bins_eq (b := false) (eq1 _ _ (.inr rfl)) (sh _ _) (fun _ _ _ _ => eqGuard_scalar rfl) (.inr hv)
    · exact bins_eq (b := false) (eq1 _ _ (.inl rfl)) (sh _ _) (fun _ _ _ _ => eqGuard_scalar rfl) (.inr hv)
    · exact hv.elim
  case agg cl =>
    obtain ⟨h1, h2, h3⟩ : isAggT P ty = some true ∧ P.eqGuardType P.depth ty = false ∧ clsT P 9999 ty = some cl := by have := binKind_spec (P := P) op ty x y; rwa [hbk] at this
    apply fin
    split at hv
    · rename_i l m
      split at hv
      · rename_i b hb
        refine bins_eq (b := b) ?_ ?_ ?_ (.inl hv)
        · have := run_eq_cls (P := P) 1 9999 ty cl h3 _ _ b w (eqCells_val ρ hb)
          rw [mkV_agg h1, mkV_agg h1] at this
          exact this
        · intro op' ho; rcases ho with rfl | rfl <;> rfl
        · intro op' x' y' ho
          rcases ho with rfl | rfl <;> simp [val, eqGuard, h2]
      · exact hv.elim
    · exact hv.elim
  case ifn =>
    obtain ⟨⟨ms, hu⟩, hn⟩ : (∃ ms, P.underlying ty = some (.interface ms)) ∧ (x = .const .nilIface ∨ y = .const .nilIface) := by have := binKind_spec (P := P) op ty x y; rwa [hbk] at this
    have gen1 : ∀ d t z, (Op.equalIn (d + 1) ty (.iface t z) .nilIface).run P w = .ok false w := by intro d t z; simp [Op.equalIn, run_und hu]
    have gen2 : ∀ d t z, (Op.equalIn (d + 1) ty .nilIface (.iface t z)).run P w = .ok false w := by intro d t z; simp [Op.equalIn, run_und hu]
    have gen3 : ∀ d, (Op.equalIn (d + 1) ty .nilIface .nilIface).run P w = .ok true w := by intro d; simp [Op.equalIn, run_und hu]
    have hg : ∀ u v : Value, ((∃ t z, u = .iface t z) ∨ (∃ t z, v = .iface t z)) → ∀ op' x' y', (eqGuard op' ty x' y' u v).run P w = .ok () w := by
      rintro u v (⟨t, z, rfl⟩ | ⟨t, z, rfl⟩) op' x' y' <;> refine eqGuard_scalar ?_
      · cases v <;> rfl
      · cases u <;> rfl
    split at hv
    · apply fin
      exact bins_eq (b := false) (gen1 9999 _ _) (by intro op' ho; rcases ho with rfl | rfl <;> rfl) (fun op' x' y' _ => hg _ _ (.inl ⟨_, _, rfl⟩) op' x' y') (.inr hv)
    · apply fin
      exact bins_eq (b := false) (gen2 9999 _ _) (by intro op' ho; rcases ho with rfl | rfl <;> rfl) (fun op' x' y' _ => hg _ _ (.inr ⟨_, _, rfl⟩) op' x' y') (.inr hv)
    · apply fin
      exact bins_eq (b := false) (gen1 9999 _ _) (by intro op' ho; rcases ho with rfl | rfl <;> rfl) (fun op' x' y' _ => hg _ _ (.inl ⟨_, _, rfl⟩) op' x' y') (.inr hv)
    · apply fin
      exact bins_eq (b := false) (gen2 9999 _ _) (by intro op' ho; rcases ho with rfl | rfl <;> rfl) (fun op' x' y' _ => hg _ _ (.inr ⟨_, _, rfl⟩) op' x' y') (.inr hv)
    · have hg2 : (eqGuard op ty x y .nilIface .nilIface).run P w = .ok () w := by
        unfold eqGuard
        rcases hn with rfl | rfl <;> split <;> simp
      have heq : (Op.equal ty .nilIface .nilIface).run P w = .ok true w := gen3 9999
      unfold vcEq at hv
      split at hv
      · exact ⟨.kb true, fun _ => rfl, hv, by simp [val, binOp, heq], hg2⟩
      · rename_i hh; cases hh
      · rename_i hh; cases hh
      · exact ⟨.kb false, fun _ => rfl, hv, by simp [val, binOp, heq], hg2⟩
      · exact hv.elim
    · exact hv.elim
  case sl =>
    obtain ⟨e, hu⟩ : ∃ e, P.underlying ty = some (.slice e) := by have := binKind_spec (P := P) op ty x y; rwa [hbk] at this
    apply fin
    have eq1 : ∀ (p : Option Addr) n c n' c', (Op.equal ty (.slice p n c) (.slice none n' c')).run P w = .ok p.isNone w := by
      intro p n c n' c'
      have gen : ∀ d, (Op.equalIn (d + 1) ty (.slice p n c) (.slice none n' c')).run P w = .ok p.isNone w := by intro d; cases p <;> simp [Op.equalIn, run_und hu]
      exact gen 9999
    split at hv
    · exact bins_eq (b := true) (eq1 _ _ _ _ _) (by intro op' ho; rcases ho with rfl | rfl <;> rfl) (fun _ _ _ _ => eqGuard_scalar rfl) (.inr hv)
    · rename_i k o n c n' c'
      rw [objK_eq] at hv
      have key : ∀ xs e', (obj H k = .arr xs e' ∨ obj H k = .ro xs e') → (∀ b : Bool, (xs ≠ [] → b = false) → vcEqB op b Kv) → Bins P ρ w op ty (.sl k o n c) (.raw (.slice none n' c')) Kv := by
        intro xs e' hk h
        refine bins_eq (b := (ρ k).isNone) (by simp only [val]; rw [eq1]; simp) (by intro op' ho; rcases ho with rfl | rfl <;> rfl) (fun _ _ _ _ => eqGuard_scalar rfl) (.inl (h _ ?_))
        intro hne
        rcases row_of hS hk with h1 | ⟨b, fr, h1, _⟩
        · exact absurd h1 hne
        · simp [h1]
      split at hv
      · rename_i xs e' hk; exact key xs e' (.inl hk) hv
      · rename_i xs e' hk; exact key xs e' (.inr hk) hv
      · exact hv.elim
    · exact bins_eq (b := false) (eq1 _ _ _ _ _) (by intro op' ho; rcases ho with rfl | rfl <;> rfl) (fun _ _ _ _ => eqGuard_scalar rfl) (.inr hv)
    · exact hv.elim
  case mp =>
    obtain ⟨k0, e, hu⟩ : ∃ k e, P.underlying ty = some (.map k e) := by have := binKind_spec (P := P) op ty x y; rwa [hbk] at this
    apply fin
    have eq1 : ∀ (p : Option Nat), (Op.equal ty (.map p) (.map none)).run P w = .ok p.isNone w := by
      intro p
      have gen : ∀ d, (Op.equalIn (d + 1) ty (.map p) (.map none)).run P w = .ok p.isNone w := by intro d; cases p <;> simp [Op.equalIn, run_und hu]
      exact gen 9999
    split at hv
    · exact bins_eq (b := true) (eq1 _) (by intro op' ho; rcases ho with rfl | rfl <;> rfl) (fun _ _ _ _ => eqGuard_scalar rfl) (.inr hv)
    · rename_i k
      rw [objK_eq] at hv
      split at hv
      · rename_i es c hk
        have hk' : H[k]? = some (.map es c) := by rw [← hk]; exact obj_some (by simp [hk])
        obtain ⟨b, hb, _⟩ := hS.ent k _ hk'
        exact bins_eq (b := false) (by simp only [val]; rw [eq1]; simp [hb]) (by intro op' ho; rcases ho with rfl | rfl <;> rfl) (fun _ _ _ _ => eqGuard_scalar rfl) (.inr hv)
      · exact hv.elim
    · exact hv.elim

theorem s_bin (h : At P ρ H g w t a) {op : BinOp} {ty : TypeId} {x y : Operand} {x' y' : Opd} (hx : cOpd x = some x') (hy : cOpd y = some y') (hv : vcOp P (.bin op (binKind P op ty x y) x' y') t H K) :
    GoodRes1 P ρ H K w ((do pure (Next.value (← (do eqGuard op ty x y (a.eval x) (a.eval y); binOp op ty (a.eval x) (a.eval y)))) : Sem Next).run P w) := by
  simp only [vcOp, evK_eq] at hv
  obtain ⟨sv, h1, h2, h3, h4⟩ := sound_bin (a := a) h.s hv (h.eq hx).symm (h.eq hy).symm
  rw [h.eq hx, h.eq hy]
  exact GoodRes1.val (by simp [h4, h3]) (Here.here (h1 _) h2)
end
end Go.V

