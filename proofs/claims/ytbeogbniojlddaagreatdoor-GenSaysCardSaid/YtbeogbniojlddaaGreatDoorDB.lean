/- Part of the proof that the statement named in the last file holds: lemmas of the prover's own. No conditions. -/
import Derived.Test.YtbeogbniojlddaaGreatDoorDA
import Derived.Test.YtbeogbniojlddaaGreatDoorVD
namespace Go.Proofs
open Go Go.V Go.Lib
set_option maxRecDepth 100000
set_option linter.unusedVariables false

/-! ### Steps -/
/-- A step. -/
structure ST where
  kind : Int
  rep : Int
  n : Int
  seen : Nat → Int
  reds : Int
  name : ByteArray
  user : ByteArray
  ar : Int
  an : Int
  br : Int
  bn : Int
  amount : Int
  funds : Int
abbrev stcells (s : ST) : List SV := [iv s.kind, iv s.rep, iv s.n, iv (s.seen 0), iv (s.seen 1), iv (s.seen 2), iv (s.seen 3), iv (s.seen 4), iv (s.seen 5), iv (s.seen 6), iv s.reds, .raw (.string s.name), .raw (.string s.user), iv s.ar, iv s.an, iv s.br, iv s.bn, iv s.amount, iv s.funds]
def userK (k : Int) : Bool := decide (k = 2) || (decide (k = 4) || (decide (k = 5) || decide (k = 6)))
def auctK (k : Int) : Bool := decide (k = 2) || decide (k = 7)
def amntK (k : Int) : Bool := decide (k = 2) || (decide (k = 4) || decide (k = 6))
abbrev es : ByteArray := ByteArray.mk #[]
set_option maxHeartbeats 2000000 in
theorem s_needs (k : Int) : Ctr Tryz.prog F_auct_needs [iv k] [] (fun x H => x = .tup [bv (decide (k = 1)), bv (userK k), bv (auctK k), bv (decide (k = 3)), bv (amntK k), bv (decide (k = 6))] ∧ H = []) := by
  have fin : ∀ a b c d e f : Bool, (a = decide (k = 1) ∧ b = userK k ∧ c = auctK k ∧ d = decide (k = 3) ∧ e = amntK k ∧ f = decide (k = 6)) →
      VRet 0 (.tup [bv a, bv b, bv c, bv d, bv e, bv f]) [] (fun x H => x = .tup [bv (decide (k = 1)), bv (userK k), bv (auctK k), bv (decide (k = 3)), bv (amntK k), bv (decide (k = 6))] ∧ H = []) := by
    rintro a b c d e f ⟨rfl, rfl, rfl, rfl, rfl, rfl⟩
    exact VRet.mk [] _ [] ⟨by rfl, rfl, rfl⟩ ⟨rfl, rfl⟩
  refine i_auct_needs.spec follows ?_
  repeat' (refine And.intro (fun _ => ?_) (fun _ => ?_))
  all_goals (refine fin _ _ _ _ _ _ ?_; simp_all [userK, auctK, amntK])
end Go.Proofs

namespace Go.Proofs
open Go Go.V Go.Lib
set_option maxRecDepth 100000
set_option linter.unusedVariables false

def wordB (t : ByteArray) (need : Bool) : Bool := (need && goodName t) || (!need && (t.toList == es.toList))
theorem s_word (h : Nat → Option Obj) (hu : Uni h) (t : ByteArray) (ht : t.size ≤ 4611686018427387904) (need : Bool) :
    Ctr Tryz.prog F_auct_word [.raw (.string t), bv need] [.heap h] (fun x H => x = bv (wordB t need) ∧ H = [.heap h]) := by
  have fin : ∀ b : Bool, b = wordB t need → VRet 1 (bv b) [.heap h] (fun x H => x = bv (wordB t need) ∧ H = [.heap h]) := by
    rintro b rfl
    exact VRet.mk [0] _ [.heap h] ⟨rfl, rfl, rfl⟩ ⟨rfl, rfl⟩
  refine i_auct_word.spec follows ?_
  refine And.intro (fun h1 => ?_) (fun h1 => ?_)
  · refine VCall.mk [0] (s_name_Good h hu t ht) ⟨rfl, rfl, rfl⟩ ?_
    rintro _ _ ⟨rfl, rfl⟩
    repeat' (refine And.intro (fun _ => ?_) (fun _ => ?_))
    all_goals (refine fin _ ?_; simp_all [wordB])
  · repeat' (refine And.intro (fun _ => ?_) (fun _ => ?_))
    all_goals (refine fin _ ?_; simp_all [wordB])
def pointB (r n : Int) (need : Bool) : Bool := (need && isDot r n) || (!need && (decide (r = 0) && decide (n = 0)))
theorem s_point (r n : Int) (need : Bool) :
    Ctr Tryz.prog F_auct_point [.agg (dcells r n), bv need] [] (fun x H => x = bv (pointB r n need) ∧ H = []) := by
  have fin : ∀ (b : Bool) (l : List SO), b = pointB r n need → VRet 0 (bv b) l (fun x H => x = bv (pointB r n need) ∧ H = []) := by
    rintro b l rfl
    exact VRet.mk [] _ [] ⟨rfl, rfl, rfl⟩ ⟨rfl, rfl⟩
  refine i_auct_point.spec follows ?_
  refine And.intro (fun h1 => ?_) (fun h1 => ?_)
  · refine VCall.mk [] (s_vec_Dot r n) ⟨rfl, rfl, rfl⟩ ?_
    rintro _ _ ⟨rfl, rfl⟩
    repeat' (refine And.intro (fun _ => ?_) (fun _ => ?_))
    all_goals (refine fin _ _ ?_; simp_all [pointB])
  · repeat' (refine And.intro (fun _ => ?_) (fun _ => ?_))
    all_goals (refine fin _ _ ?_; simp_all [pointB])
def numB (n lo hi : Int) (need : Bool) : Bool := (need && (decide (lo ≤ n) && decide (n ≤ hi))) || (!need && decide (n = 0))
theorem s_number (n lo hi : Int) (need : Bool) :
    Ctr Tryz.prog F_auct_number [iv n, iv lo, iv hi, bv need] [] (fun x H => x = bv (numB n lo hi need) ∧ H = []) := by
  have fin : ∀ (b : Bool) (l : List SO), b = numB n lo hi need → VRet 0 (bv b) l (fun x H => x = bv (numB n lo hi need) ∧ H = []) := by
    rintro b l rfl
    exact VRet.mk [] _ [] ⟨rfl, rfl, rfl⟩ ⟨rfl, rfl⟩
  refine i_auct_number.spec follows ?_
  repeat' (refine And.intro (fun _ => ?_) (fun _ => ?_))
  all_goals (refine fin _ _ ?_; simp_all [numB] <;> omega)
def redT (s : ST) : Bool := decide (5 ≤ s.kind) && decide (s.kind ≤ 7)
theorem s_Red (s : ST) : Ctr Tryz.prog F_auct_Red [.agg (stcells s)] [] (fun x H => x = bv (redT s) ∧ H = []) := by
  have fin : ∀ (b : Bool) (l : List SO), b = redT s → VRet 0 (bv b) l (fun x H => x = bv (redT s) ∧ H = []) := by
    rintro b l rfl
    exact VRet.mk [] _ [] ⟨rfl, rfl, rfl⟩ ⟨rfl, rfl⟩
  refine i_auct_Red.spec follows ?_
  repeat' (refine And.intro (fun _ => ?_) (fun _ => ?_))
  all_goals (refine fin _ _ ?_; simp_all [redT] <;> intros <;> omega)
end Go.Proofs

namespace Go.Proofs
open Go Go.V Go.Lib
set_option maxRecDepth 100000
set_option linter.unusedVariables false

def partT (s : ST) : Bool := wordB s.name (decide (s.kind = 1)) && (wordB s.user (userK s.kind) && (pointB s.ar s.an (auctK s.kind) && (pointB s.br s.bn (decide (s.kind = 3)) && (numB s.amount 1 1000000000 (amntK s.kind) && numB s.funds 0 1125899906842624 (decide (s.kind = 6))))))
def headT (s : ST) : Bool := decide (1 ≤ s.kind) && (decide (s.kind ≤ 7) && (isDot s.rep s.n && (vgoodB s.seen && (decide (0 ≤ s.reds) && decide (s.reds ≤ 1000)))))
def goodT (s : ST) : Bool := headT s && ((redT s || decide (s.seen s.rep.toNat = s.n - 1)) && partT s)
theorem stcells_seen (s : ST) {n : Int} (h : 0 ≤ n ∧ n < 7) : (stcells s)[0 + 3 + n.toNat * 1]? = some (iv (s.seen n.toNat)) := by
  have h7 : n.toNat < 7 := by omega
  generalize n.toNat = k at h7
  match k, h7 with
  | 0, _ => rfl | 1, _ => rfl | 2, _ => rfl | 3, _ => rfl | 4, _ => rfl | 5, _ => rfl | 6, _ => rfl
theorem s_Good (h : Nat → Option Obj) (hu : Uni h) (s : ST) (h1 : s.name.size ≤ 4611686018427387904) (h2 : s.user.size ≤ 4611686018427387904) :
    Ctr Tryz.prog F_auct_Good [.agg (stcells s)] [.heap h] (fun x H => x = bv (goodT s) ∧ H = [.heap h]) := by
  have fin : ∀ (b : Bool) (l : List SO), b = goodT s → VRet 1 (bv b) (.heap h :: l) (fun x H => x = bv (goodT s) ∧ H = [.heap h]) := by
    rintro b l rfl
    exact VRet.mk [0] _ [.heap h] ⟨rfl, rfl, rfl⟩ ⟨rfl, rfl⟩
  refine i_auct_Good.spec follows ?_
  have bad : ∀ l : List SO, headT s = false → VRet 1 (bv false) (.heap h :: l) (fun x H => x = bv (goodT s) ∧ H = [.heap h]) := fun l hb => fin _ _ (by simp [goodT, hb])
  refine And.intro (fun k1 => ?_) (fun k1 => bad _ (by simp at k1; simp [headT]; omega))
  refine And.intro (fun k2 => ?_) (fun k2 => bad _ (by simp at k2; simp [headT]; omega))
  refine VCall.mk [] (s_vec_Dot s.rep s.n) ⟨rfl, rfl, rfl⟩ ?_
  rintro _ _ ⟨rfl, rfl⟩
  refine And.intro (fun k3 => ?_) (fun k3 => bad _ (by simp at k3; simp [headT, k3]))
  refine VCall.mk [] (s_vec_Good s.seen) ⟨rfl, rfl, rfl⟩ ?_
  rintro _ _ ⟨rfl, rfl⟩
  refine And.intro (fun k4 => ?_) (fun k4 => bad _ (by simp at k4; simp [headT, k4]))
  refine And.intro (fun k5 => ?_) (fun k5 => bad _ (by simp at k5; simp [headT]; omega))
  refine And.intro (fun k6 => bad _ (by simp at k6; simp [headT]; omega)) (fun k6 => ?_)
  have k1 : 1 ≤ s.kind := by simpa using k1
  have k2 : s.kind ≤ 7 := by simpa using k2
  have k3 : isDot s.rep s.n = true := by simpa using k3
  have k4 : vgoodB s.seen = true := by simpa using k4
  have k5 : 0 ≤ s.reds := by simpa using k5
  have k6 : s.reds ≤ 1000 := by simpa using k6
  have hh : headT s = true := by simp [headT, k1, k2, k3, k4, k5, k6]
  have hdot : (0 ≤ s.rep ∧ s.rep < 7) ∧ 1 ≤ s.n ∧ s.n ≤ 1099511627776 := by
    simp only [isDot, isRep, Bool.and_eq_true, decide_eq_true_eq] at k3; omega
  refine VCall.mk [] (s_Red s) ⟨rfl, rfl, rfl⟩ ?_
  rintro _ _ ⟨rfl, rfl⟩
  refine And.intro (fun r1 => ?_) (fun r1 => ?_)
  · have hw : IntKind.i64.wrap (s.n - 1) = s.n - 1 := wrap64 (by omega)
    refine And.intro hdot.1 (Exists.intro _ (And.intro (stcells_seen s hdot.1) ?_))
    refine Exists.intro _ (And.intro hw ?_)
    have r1 : redT s = false := by simpa using r1
    refine And.intro (fun r2 => fin _ _ (by simp at r2; simp [goodT, r1, r2])) (fun r2 => ?_)
    have hg : goodT s = partT s := by simp at r2; simp [goodT, hh, r2]
    refine VCall.mk [] (s_needs s.kind) ⟨rfl, rfl, rfl⟩ ?_
    rintro _ _ ⟨rfl, rfl⟩
    refine VCall.mk [0] (s_word h hu s.name h1 _) ⟨rfl, rfl, rfl⟩ ?_
    rintro _ _ ⟨rfl, rfl⟩
    refine And.intro (fun p1 => ?_) (fun p1 => fin _ _ (by rw [hg, partT, p1]; rfl))
    refine VCall.mk [0] (s_word h hu s.user h2 _) ⟨rfl, rfl, rfl⟩ ?_
    rintro _ _ ⟨rfl, rfl⟩
    refine And.intro (fun p2 => ?_) (fun p2 => fin _ _ (by rw [hg, partT, p1, p2]; rfl))
    refine VCall.mk [] (s_point s.ar s.an _) ⟨rfl, rfl, rfl⟩ ?_
    rintro _ _ ⟨rfl, rfl⟩
    refine And.intro (fun p3 => ?_) (fun p3 => fin _ _ (by rw [hg, partT, p1, p2, p3]; rfl))
    refine VCall.mk [] (s_point s.br s.bn _) ⟨rfl, rfl, rfl⟩ ?_
    rintro _ _ ⟨rfl, rfl⟩
    refine And.intro (fun p4 => ?_) (fun p4 => fin _ _ (by rw [hg, partT, p1, p2, p3, p4]; rfl))
    refine VCall.mk [] (s_number s.amount 1 1000000000 _) ⟨rfl, rfl, rfl⟩ ?_
    rintro _ _ ⟨rfl, rfl⟩
    refine And.intro (fun p5 => ?_) (fun p5 => fin _ _ (by rw [hg, partT, p1, p2, p3, p4, p5]; rfl))
    refine VCall.mk [] (s_number s.funds 0 1125899906842624 _) ⟨rfl, rfl, rfl⟩ ?_
    rintro _ _ ⟨rfl, rfl⟩
    exact fin _ _ (by rw [hg, partT, p1, p2, p3, p4, p5]; rfl)
  · have r1 : redT s = true := by simpa using r1
    have hg : goodT s = partT s := by simp [goodT, hh, r1]
    refine VCall.mk [] (s_needs s.kind) ⟨rfl, rfl, rfl⟩ ?_
    rintro _ _ ⟨rfl, rfl⟩
    refine VCall.mk [0] (s_word h hu s.name h1 _) ⟨rfl, rfl, rfl⟩ ?_
    rintro _ _ ⟨rfl, rfl⟩
    refine And.intro (fun p1 => ?_) (fun p1 => fin _ _ (by rw [hg, partT, p1]; rfl))
    refine VCall.mk [0] (s_word h hu s.user h2 _) ⟨rfl, rfl, rfl⟩ ?_
    rintro _ _ ⟨rfl, rfl⟩
    refine And.intro (fun p2 => ?_) (fun p2 => fin _ _ (by rw [hg, partT, p1, p2]; rfl))
    refine VCall.mk [] (s_point s.ar s.an _) ⟨rfl, rfl, rfl⟩ ?_
    rintro _ _ ⟨rfl, rfl⟩
    refine And.intro (fun p3 => ?_) (fun p3 => fin _ _ (by rw [hg, partT, p1, p2, p3]; rfl))
    refine VCall.mk [] (s_point s.br s.bn _) ⟨rfl, rfl, rfl⟩ ?_
    rintro _ _ ⟨rfl, rfl⟩
    refine And.intro (fun p4 => ?_) (fun p4 => fin _ _ (by rw [hg, partT, p1, p2, p3, p4]; rfl))
    refine VCall.mk [] (s_number s.amount 1 1000000000 _) ⟨rfl, rfl, rfl⟩ ?_
    rintro _ _ ⟨rfl, rfl⟩
    refine And.intro (fun p5 => ?_) (fun p5 => fin _ _ (by rw [hg, partT, p1, p2, p3, p4, p5]; rfl))
    refine VCall.mk [] (s_number s.funds 0 1125899906842624 _) ⟨rfl, rfl, rfl⟩ ?_
    rintro _ _ ⟨rfl, rfl⟩
    exact fin _ _ (by rw [hg, partT, p1, p2, p3, p4, p5]; rfl)
end Go.Proofs

namespace Go.Proofs
open Go Go.V Go.Lib
set_option maxRecDepth 100000
set_option linter.unusedVariables false

/-! ### Houses -/
abbrev stcl (s : ST) : List Value := [.int .i64 s.kind, .int .i64 s.rep, .int .i64 s.n, .int .i64 (s.seen 0), .int .i64 (s.seen 1), .int .i64 (s.seen 2), .int .i64 (s.seen 3), .int .i64 (s.seen 4), .int .i64 (s.seen 5), .int .i64 (s.seen 6), .int .i64 s.reds, .string s.name, .string s.user, .int .i64 s.ar, .int .i64 s.an, .int .i64 s.br, .int .i64 s.bn, .int .i64 s.amount, .int .i64 s.funds]
def encST (s : ST) : Value := .agg (stcl s).toArray
def zeroT' : ST := ⟨0, 0, 0, fun _ => 0, 0, es, es, 0, 0, 0, 0, 0, 0⟩
/-- How an auction ended. -/
structure OC where
  br : Int
  bn : Int
  user : ByteArray
  amount : Int
abbrev occells (o : OC) : List SV := [iv o.br, iv o.bn, .raw (.string o.user), iv o.amount]
def encO (o : OC) : Value := .agg #[.int .i64 o.br, .int .i64 o.bn, .string o.user, .int .i64 o.amount]
def zeroO : OC := ⟨0, 0, es, 0⟩
abbrev encT (x : ByteArray) : Value := .string x
abbrev encB (b : Bool) : Value := .bool b
abbrev encN (n : Int) : Value := .int .i64 n
theorem keyT_Str {mt et : TypeId} (h : Tryz.prog.underlying mt = some (.map T_string et)) : KeyT Tryz.prog mt et encT where
  ex := by
    have h1 : clsT Tryz.prog 2 T_string = some [.s] := by kernel_rfl
    have h2 : isAggT Tryz.prog T_string = some false := by kernel_rfl
    refine ⟨T_string, 2, _, h, by omega, by omega, h1, fun a => ⟨[.string a], by simp [mkV, h2], rfl, fun b ys hb hl => ?_⟩⟩
    match ys, hl with
    | [y], _ =>
      have hy : y = .string b := by simpa [mkV, h2] using hb.symm
      subst hy
      refine ⟨a == b, by simp [eqV, eq1V], ?_⟩
      cases a with | mk x => cases b with | mk z =>
        show (x == z) = true ↔ _
        simp
  bits := fun a => by
    cases a with | mk x =>
      show (x == x) = true
      exact beq_self_eq_true x
abbrev MB := List ((Int × Int) × ST × Nat)
abbrev MU := List (ByteArray × Bool × Nat)
abbrev MD := List (ByteArray × Int × Nat)
abbrev MC := List ((Int × Int) × OC × Nat)
structure HL where
  v : Nat → Int
  bs : MB
  bc : Nat
  us : MU
  uc : Nat
  ds : MD
  dc : Nat
  cs : MC
  cc : Nat
  red : List ST
def HL.new : HL := ⟨fun _ => 0, [], 0, [], 0, [], 0, [], 0, []⟩
abbrev hoH (x : HL) (rx : List Value) (ro rc : Nat) : List SO := [.cells (vcells x.v ++ [.mp 1, .sl 5 ro x.red.length rc, .mp 2, .mp 3, .mp 4]) T_auct_House,
  .map (ents encD encST x.bs) x.bc, .map (ents encT encB x.us) x.uc, .map (ents encT encN x.ds) x.dc, .map (ents encD encO x.cs) x.cc, .arr rx T_auct_Step]
theorem s_New : Ctr Tryz.prog F_auct_New [] [] (fun r H => r = .ptr 0 0 ∧ H = hoH HL.new [] 0 0) := by
  refine i_auct_New.spec follows ?_
  refine VRet.nil T_auct_Step [] [(4, 8)] ⟨rfl, rfl⟩ ?_
  exact VRet.mk [4, 0, 1, 2, 3, 5] (.ptr 0 0) (hoH HL.new [] 0 0) ⟨rfl, rfl, rfl⟩ ⟨rfl, rfl⟩
theorem kB : KeyT Tryz.prog T_map_api_Dot_auct_Step T_auct_Step encD := keyT_Dot (by kernel_rfl)
theorem kU : KeyT Tryz.prog T_map_string_bool T_bool encT := keyT_Str (by kernel_rfl)
theorem kD : KeyT Tryz.prog T_map_string_int64 T_int64 encT := keyT_Str (by kernel_rfl)
theorem kC : KeyT Tryz.prog T_map_api_Dot_auct_outcome T_auct_outcome encD := keyT_Dot (by kernel_rfl)
theorem lookB (ms : MB) (d : Int × Int) : LookupIs Tryz.prog T_map_api_Dot_auct_Step (ents encD encST ms) (encD d) (encST ((MP.get ms d).getD zeroT')) ((MP.get ms d).isSome) := by
  have := lookup_is (encv := encST) kB (z := encST zeroT') (by kernel_rfl) ms d
  cases h : MP.get ms d <;> rw [h] at this <;> exact this
theorem lookU (ms : MU) (d : ByteArray) : LookupIs Tryz.prog T_map_string_bool (ents encT encB ms) (encT d) (encB ((MP.get ms d).getD false)) ((MP.get ms d).isSome) := by
  have := lookup_is (encv := encB) kU (z := encB false) (by kernel_rfl) ms d
  cases h : MP.get ms d <;> rw [h] at this <;> exact this
theorem lookD (ms : MD) (d : ByteArray) : LookupIs Tryz.prog T_map_string_int64 (ents encT encN ms) (encT d) (encN ((MP.get ms d).getD 0)) ((MP.get ms d).isSome) := by
  have := lookup_is (encv := encN) kD (z := encN 0) (by kernel_rfl) ms d
  cases h : MP.get ms d <;> rw [h] at this <;> exact this
theorem lookC (ms : MC) (d : Int × Int) : LookupIs Tryz.prog T_map_api_Dot_auct_outcome (ents encD encO ms) (encD d) (encO ((MP.get ms d).getD zeroO)) ((MP.get ms d).isSome) := by
  have := lookup_is (encv := encO) kC (z := encO zeroO) (by kernel_rfl) ms d
  cases h : MP.get ms d <;> rw [h] at this <;> exact this
/-! ### Blue steps -/
def blueE (x : HL) (s : ST) : Int :=
  bif !goodT s || redT s then 1 else bif has x.v s.rep s.n then 5 else
  bif !decide (s.n = x.v s.rep.toNat + 1) || (!leB s.seen x.v || decide ((x.red.length : Int) < s.reds)) then 8 else 0
def blueN (x : HL) (s : ST) : HL := bif decide (blueE x s = 0) then { x with v := upv x.v s.rep.toNat (x.v s.rep.toNat + 1), bs := MP.put x.bs (s.rep, s.n) s x.bc, bc := if (MP.get x.bs (s.rep, s.n)).isSome then x.bc else x.bc + 1 } else x
theorem s_Blue (h : Nat → Option Obj) (hu : Uni h) (x : HL) (hv : ∀ i, i < 7 → 0 ≤ x.v i ∧ x.v i ≤ 1099511627776) (rx : List Value) (ro rc : Nat) (s : ST) (h1 : s.name.size ≤ 4611686018427387904) (h2 : s.user.size ≤ 4611686018427387904) :
    Ctr Tryz.prog F_auct_House_Blue [.ptr 0 0, .agg (stcells s)] (hoH x rx ro rc ++ [.heap h]) (fun r H => r = iv (blueE x s) ∧ H = hoH (blueN x s) rx ro rc ++ [.heap h]) := by
  have fin : ∀ (e : Int) (l : List SO), e ≠ 0 → blueE x s = e → VRet 7 (iv e) (hoH x rx ro rc ++ .heap h :: l) (fun r H => r = iv (blueE x s) ∧ H = hoH (blueN x s) rx ro rc ++ [.heap h]) := by
    intro e l he hb
    refine VRet.mk [0, 1, 2, 3, 4, 5, 6] (iv e) (hoH x rx ro rc ++ [.heap h]) ⟨rfl, rfl, rfl⟩ ⟨by rw [hb], ?_⟩
    rw [blueN, hb, show decide (e = 0) = false by simpa using he]; rfl
  refine i_auct_House_Blue.spec follows ?_
  refine VCall.mk [6] (s_Good h hu s h1 h2) ⟨rfl, rfl, rfl⟩ ?_
  rintro _ _ ⟨rfl, rfl⟩
  refine And.intro (fun k1 => ?_) (fun k1 => fin 1 _ (by decide) (by simp at k1; simp [blueE, k1]))
  have k1 : goodT s = true := by simpa using k1
  refine VCall.mk [] (s_Red s) ⟨rfl, rfl, rfl⟩ ?_
  rintro _ _ ⟨rfl, rfl⟩
  refine And.intro (fun k2 => fin 1 _ (by decide) (by simp [blueE, k2])) (fun k2 => ?_)
  refine VCall.mk [] (s_vec_Has x.v s.rep s.n) ⟨rfl, rfl, rfl⟩ ?_
  rintro _ _ ⟨rfl, rfl⟩
  refine And.intro (fun k3 => fin 5 _ (by decide) (by simp [blueE, k1, k2, k3])) (fun k3 => ?_)
  have hdot : (0 ≤ s.rep ∧ s.rep < 7) ∧ 1 ≤ s.n ∧ s.n ≤ 1099511627776 := by
    simp only [goodT, headT, isDot, isRep, Bool.and_eq_true, decide_eq_true_eq] at k1; omega
  have hvr := hv s.rep.toNat (by omega)
  have hw : IntKind.i64.wrap (x.v s.rep.toNat + 1) = x.v s.rep.toNat + 1 := wrap64 (by omega)
  refine And.intro hdot.1 (Exists.intro _ (And.intro (vcells_get' x.v hdot.1 _) ?_))
  refine Exists.intro _ (And.intro hw ?_)
  refine And.intro (fun k4 => ?_) (fun k4 => fin 8 _ (by decide) (by simp at k4; simp [blueE, k1, k2, k3, k4]))
  refine VCall.mk [] (s_vec_Le s.seen x.v) ⟨rfl, rfl, rfl⟩ ?_
  rintro _ _ ⟨rfl, rfl⟩
  have k4 : decide (s.n = x.v s.rep.toNat + 1) = true := by simpa using k4
  refine And.intro (fun k5 => ?_) (fun k5 => fin 8 _ (by decide) (by have k5 : leB s.seen x.v = false := by simpa using k5
                                                                     rw [blueE, k1, k2, k3, k4, k5]; rfl))
  have k5 : leB s.seen x.v = true := by simpa using k5
  refine And.intro (fun k6 => fin 8 _ (by decide) (by rw [blueE, k1, k2, k3, k4, k5, show decide ((x.red.length : Int) < s.reds) = true from k6]; rfl)) (fun k6 => ?_)
  have hb : blueE x s = 0 := by rw [blueE, k1, k2, k3, k4, k5, show decide ((x.red.length : Int) < s.reds) = false from k6]; rfl
  have hN : blueN x s = { x with v := upv x.v s.rep.toNat (x.v s.rep.toNat + 1), bs := MP.put x.bs (s.rep, s.n) s x.bc, bc := if (MP.get x.bs (s.rep, s.n)).isSome then x.bc else x.bc + 1 } := by rw [blueN, hb]; rfl
  refine And.intro hdot.1 (Exists.intro _ (And.intro (vcells_get' x.v hdot.1 _) ?_))
  refine Exists.intro _ (And.intro hw ?_)
  refine And.intro hdot.1 (Exists.intro _ (And.intro (vcells_put x.v (x.v s.rep.toNat + 1) hdot.1 _) ?_))
  refine Exists.intro _ (Exists.intro _ (And.intro (update_is (encv := encST) kB x.bs x.bc (s.rep, s.n) s) ?_))
  refine VRet.mk [0, 1, 2, 3, 4, 5, 6] (iv 0) (hoH { x with v := upv x.v s.rep.toNat (x.v s.rep.toNat + 1), bs := MP.put x.bs (s.rep, s.n) s x.bc, bc := if (MP.get x.bs (s.rep, s.n)).isSome then x.bc else x.bc + 1 } rx ro rc ++ [.heap h]) ⟨rfl, rfl, rfl⟩ ⟨by rw [hb], by rw [hN]⟩
end Go.Proofs

namespace Go.Proofs
open Go Go.V Go.Lib
set_option maxRecDepth 100000
set_option linter.unusedVariables false

/-! ### Rows of dots -/
abbrev dcl (d : Int × Int) : List Value := [.int .i64 d.1, .int .i64 d.2]
theorem cmpD_lt {x y : Int × Int} : cmpD x y < 0 ↔ x.1 < y.1 ∨ (x.1 = y.1 ∧ x.2 < y.2) := by
  simp only [cmpD, orI, cmpI]
  by_cases h1 : x.1 < y.1
  · simp [h1]
  · by_cases h2 : y.1 < x.1
    · simp [h1, h2]; omega
    · by_cases h3 : x.2 < y.2
      · simp [h1, h2, h3]; omega
      · by_cases h4 : y.2 < x.2
        · simp [h1, h2, h3, h4]
        · simp [h1, h2, h3, h4]
theorem ltOf_cmpD {x y : Int × Int} : ltOf cmpD x y = true ↔ x.1 < y.1 ∨ (x.1 = y.1 ∧ x.2 < y.2) := by
  simp only [ltOf, decide_eq_true_iff]; exact cmpD_lt
theorem swo_cmpD : Sort.SWO (ltOf cmpD) where
  irrefl := fun x => by rw [Bool.eq_false_iff, Ne, ltOf_cmpD]; omega
  trans := fun x y z => by rw [ltOf_cmpD, ltOf_cmpD, ltOf_cmpD]; omega
  ntrans := fun x y z => by rw [Bool.eq_false_iff, Bool.eq_false_iff, Bool.eq_false_iff, Ne, Ne, Ne, ltOf_cmpD, ltOf_cmpD, ltOf_cmpD]; omega
theorem Ctr.weak [V.Mode] {P : Program} {f : FuncId} {args : List SV} {H : List SO} {Post Post' : SV → List SO → Prop} (h : Ctr P f args H Post) (hp : ∀ v H', Post v H' → Post' v H') : Ctr P f args H Post' := by
  intro ρ g w h1 h2
  refine Calls.mono (h ρ g w h1 h2) ?_
  rintro e w' ⟨ρ', v, H', h3, h4, h5, h6, h7, h8⟩
  exact ⟨ρ', v, H', h3, h4, h5, h6, h7, hp _ _ h8⟩
theorem s_SortFunc (d : List (Int × Int)) (xs : List Value) (o c : Nat) (hr : RowG dcl 2 xs o c d) (hl : d.length ≤ 1000000) : Ctr Tryz.prog F_slices_SortFunc_sl_api_Dot_api_Dot [.sl 0 o d.length c, .fn F_dots_Order []] [.arr xs T_api_Dot]
    (fun x H => ∃ d' xs', x = .tup [] ∧ H = [.arr xs' T_api_Dot] ∧ d'.Perm d ∧ d'.Pairwise (fun a b => ¬ cmpD b a < 0) ∧ RowG dcl 2 xs' o c d') := by
  obtain ⟨h1, h2, h3⟩ := hr
  have h := sortK_ctr Tryz.sortDot Tryz.sortDot_agg Tryz.sortDot_size (cells := dcl) (fun _ => rfl) (by omega) (fun _ => rfl) cmpD swo_cmpD (gq := F_dots_Order) (by kernel_rfl)
    (fun x y => @Ctr.weak strictM _ _ _ _ _ _ (@s_dots_Order strictM x.1 x.2 y.1 y.2) (fun v H' h => h.1)) (H := [.arr xs T_api_Dot]) (j := 0) (off := o) (cap := c) (xs := xs) (e := T_api_Dot) rfl d h3 (by omega) (by omega)
  refine Ctr.weak h ?_
  rintro v H' ⟨rfl, d', hp, hs, rfl⟩
  have hl := hp.length_eq
  have hf : (d'.flatMap dcl).length = d'.length * 2 := flatMap_len (f := dcl) (k := 2) (fun _ => rfl) d'
  refine ⟨d', _, rfl, rfl, hp, ?_, by omega, by rw [rowSet_len (by omega)]; omega, ?_⟩
  · refine hs.imp fun {a b} h => ?_
    simpa [ltOf] using h
  · rw [← hf]; exact rowSet_cut (by omega)
abbrev MG := List ((Int × Int) × Bool × Nat)
theorem kG : KeyT Tryz.prog T_map_api_Dot_bool T_bool encD := keyT_Dot (by kernel_rfl)
theorem lookG (ms : MG) (d : Int × Int) : LookupIs Tryz.prog T_map_api_Dot_bool (ents encD encB ms) (encD d) (encB ((MP.get ms d).getD false)) ((MP.get ms d).isSome) := by
  have := lookup_is (encv := encB) kG (z := encB false) (by kernel_rfl) ms d
  cases h : MP.get ms d <;> rw [h] at this <;> exact this
def inG (gm : MG) (d : Int × Int) : Bool := (MP.get gm d).getD false
theorem s_bids_1 (gm : MG) (gc : Nat) (d : Int × Int) : Ctr Tryz.prog F_auct_House_bids_1 [.agg (dcells d.1 d.2), .ptr 0 0] [.cells [.mp 1] T_map_api_Dot_bool, .map (ents encD encB gm) gc] (fun x H => x = bv (inG gm d) ∧ H = [.cells [.mp 1] T_map_api_Dot_bool, .map (ents encD encB gm) gc]) := by
  refine i_auct_House_bids_1.spec follows ?_
  refine Exists.intro (bv (inG gm d)) (Exists.intro _ (Exists.intro _ (And.intro (lookG gm d) (And.intro rfl ?_))))
  exact VRet.mk [0, 1] (bv (inG gm d)) [.cells [.mp 1] T_map_api_Dot_bool, .map (ents encD encB gm) gc] ⟨rfl, rfl, rfl⟩ ⟨rfl, rfl⟩
structure DXD where
  e : List (Int × Int)
  xs : List Value
  i : Nat
  j : Nat
theorem s_IndexG (gm : MG) (gc : Nat) (d : List (Int × Int)) (xs : List Value) (o c : Nat) (hr : RowG dcl 2 xs o c d) (hl : d.length ≤ 1000000) :
    Ctr Tryz.prog F_slices_IndexFunc_sl_api_Dot_api_Dot [.sl 0 o d.length c, .fn F_auct_House_bids_1 [.ptr 1 0]] [.arr xs T_api_Dot, .cells [.mp 2] T_map_api_Dot_bool, .map (ents encD encB gm) gc]
    (fun x H => (∃ i : Nat, ∃ hi : i < d.length, x = iv i ∧ inG gm d[i] = true ∧ (∀ j (hj : j < d.length), j < i → inG gm d[j] = false) ∧ H = [.arr xs T_api_Dot, .cells [.mp 2] T_map_api_Dot_bool, .map (ents encD encB gm) gc]) ∨ (x = iv (-1) ∧ (∀ j (hj : j < d.length), inG gm d[j] = false) ∧ H = [.arr xs T_api_Dot, .cells [.mp 2] T_map_api_Dot_bool, .map (ents encD encB gm) gc])) := by
  have hcl : ∀ x, (dcl x).length = 2 := fun _ => rfl
  refine i_slices_IndexFunc_sl_api_Dot_api_Dot.spec follows ?_
  refine VLoop.mk Nat (fun i => [(0, .sl 0 o d.length c), (1, .fn F_auct_House_bids_1 [.ptr 1 0]), (6, .sl 0 o d.length c), (7, iv d.length), (8, iv i)]) (fun i => [.arr xs T_api_Dot, .cells [.mp 2] T_map_api_Dot_bool, .map (ents encD encB gm) gc])
    (fun i => i ≤ d.length ∧ ∀ j (hj : j < d.length), j < i → inG gm d[j] = false) (fun i => d.length - i) 0 [0, 1, 2] ⟨⟨Nat.zero_le _, fun j _ hj => by omega⟩, rfl, rfl, rfl⟩ ?_
  rintro i ⟨hi, hb⟩ g
  refine And.intro (fun h => ?_) (fun h => ?_)
  · have h := of_decide_eq_true h
    have hil : i < d.length := by omega
    have hw : IntKind.i64.wrap ((i : Int) + 1) = ((i + 1 : Nat) : Int) := wrap64 (by omega)
    have hc := hr.cut hcl hil
    have hroom : o + d.length * 2 ≤ xs.length := by have := hr.2.1; have := Nat.mul_le_mul_right 2 hr.1; omega
    refine And.intro ⟨Int.natCast_nonneg i, h, hroom⟩ (Exists.intro _ (And.intro (by rw [Int.toNat_natCast]; exact hc) ?_))
    refine And.intro (by kernel_rfl) ?_
    refine VCall.mk [1, 2] (s_bids_1 gm gc d[i]) ⟨rfl, rfl, rfl⟩ ?_
    rintro _ _ ⟨rfl, rfl⟩
    refine And.intro (fun h2 => ?_) (fun h2 => ?_)
    · exact VRet.mk [0, 1, 2] (iv i) [.arr xs T_api_Dot, .cells [.mp 2] T_map_api_Dot_bool, .map (ents encD encB gm) gc] ⟨rfl, rfl, rfl⟩ (.inl ⟨i, hil, rfl, h2, hb, rfl⟩)
    · refine Exists.intro _ (And.intro hw ?_)
      refine Exists.intro (i + 1) (Exists.intro [0, 1, 2] (And.intro ⟨⟨hil, fun j hj hji => ?_⟩, by omega⟩ ⟨rfl, rfl, rfl⟩))
      by_cases e : j = i
      · subst e; exact h2
      · exact hb j hj (by omega)
  · have h := of_decide_eq_false h
    exact VRet.mk [0, 1, 2] (iv (-1)) [.arr xs T_api_Dot, .cells [.mp 2] T_map_api_Dot_bool, .map (ents encD encB gm) gc] ⟨rfl, rfl, rfl⟩ (.inr ⟨rfl, fun j hj => hb j hj (by omega), rfl⟩)
theorem s_DeleteG (gm : MG) (gc : Nat) (d : List (Int × Int)) (xs : List Value) (o c : Nat) (hr : RowG dcl 2 xs o c d) (hl : d.length ≤ 1000000) :
    Ctr Tryz.prog F_slices_DeleteFunc_sl_api_Dot_api_Dot [.sl 0 o d.length c, .fn F_auct_House_bids_1 [.ptr 1 0]] [.arr xs T_api_Dot, .cells [.mp 2] T_map_api_Dot_bool, .map (ents encD encB gm) gc]
    (fun x H => ∃ d' xs', d' = d.filter (fun y => !(inG gm y)) ∧ x = .sl 0 o d'.length c ∧ H = [.arr xs' T_api_Dot, .cells [.mp 2] T_map_api_Dot_bool, .map (ents encD encB gm) gc] ∧ RowG dcl 2 xs' o c d') := by
  have hcl : ∀ x, (dcl x).length = 2 := fun _ => rfl
  refine i_slices_DeleteFunc_sl_api_Dot_api_Dot.spec follows ?_
  refine VCall.mk [0, 1, 2] (s_IndexG gm gc d xs o c hr hl) ⟨rfl, rfl, rfl⟩ ?_
  rintro _ _ (⟨i0, hi0, rfl, hp0, hb0, rfl⟩ | ⟨rfl, hb, rfl⟩)
  rotate_left 1
  · refine And.intro (fun _ => ?_) (fun h => absurd (of_decide_eq_false h) (by simp))
    have hd : d.filter (fun y => !(inG gm y)) = d := by
      rw [List.filter_eq_self]
      intro x hx
      obtain ⟨j, hj, rfl⟩ := List.mem_iff_getElem.1 hx
      simp [hb j hj]
    refine VRet.mk [0, 1, 2] (.sl 0 o d.length c) [.arr xs T_api_Dot, .cells [.mp 2] T_map_api_Dot_bool, .map (ents encD encB gm) gc] ⟨rfl, rfl, rfl⟩ ⟨d, xs, hd.symm, rfl, rfl, hr⟩
  have hn1 : ¬ ((i0 : Int) = -1) := by omega
  refine And.intro (fun h => absurd (of_decide_eq_true h) hn1) (fun _ => ?_)
  have hw0 : IntKind.i64.wrap ((i0 : Int) + 1) = ((i0 + 1 : Nat) : Int) := wrap64 (by omega)
  refine Exists.intro _ (And.intro hw0 ?_)
  refine VLoop.mk DXD (fun x => [(0, .sl 0 o d.length c), (1, .fn F_auct_House_bids_1 [.ptr 1 0]), (5, iv x.i), (6, iv x.j)]) (fun x => [.arr x.xs T_api_Dot, .cells [.mp 2] T_map_api_Dot_bool, .map (ents encD encB gm) gc])
    (fun x => Sieve d (fun y => !(inG gm y)) x.e x.i x.j ∧ RowG dcl 2 x.xs o c x.e ∧ x.i < x.j) (fun x => d.length - x.j) ⟨d, xs, i0, i0 + 1⟩ [0, 1, 2]
    ⟨⟨Sieve.start hi0 (by simp [hp0]) (fun j hj hji => by simp [hb0 j hj hji]), hr, Nat.lt_succ_self _⟩, rfl, rfl, rfl⟩ ?_
  rintro ⟨e, ys, i, j⟩ ⟨hS, hR, hij⟩ g
  simp only at hS hR hij
  have hroom : o + d.length * 2 ≤ ys.length := by have := hR.2.1; have := Nat.mul_le_mul_right 2 hR.1; rw [hS.len] at this; omega
  refine And.intro (fun h => ?_) (fun h => ?_)
  · have h := of_decide_eq_true h
    have hjl : j < d.length := by simp only at h; omega
    have hjl' : j < e.length := by rw [hS.len]; exact hjl
    have hge := hS.get hjl
    have hc := hR.cut hcl hjl'
    rw [hge] at hc
    have hwj : IntKind.i64.wrap ((j : Int) + 1) = ((j + 1 : Nat) : Int) := wrap64 (by omega)
    have hwi : IntKind.i64.wrap ((i : Int) + 1) = ((i + 1 : Nat) : Int) := wrap64 (by omega)
    refine And.intro ⟨Int.natCast_nonneg j, h, hroom⟩ (Exists.intro _ (And.intro (by rw [Int.toNat_natCast]; exact hc) ?_))
    refine And.intro (by kernel_rfl) ?_
    refine VCall.mk [1, 2] (s_bids_1 gm gc d[j]) ⟨rfl, rfl, rfl⟩ ?_
    rintro _ _ ⟨rfl, rfl⟩
    refine And.intro (fun h2 => ?_) (fun h2 => ?_)
    · have h2 : inG gm d[j] = false := by simpa using h2
      have hil : i < e.length := by omega
      obtain ⟨zs, hz1, hz2, hz3⟩ := hR.set hcl (by omega) hil d[j]
      refine And.intro ⟨Int.natCast_nonneg i, by have := hS.len; show (i : Int) < (d.length : Nat); omega, hroom⟩ (Exists.intro _ (And.intro (by rw [Int.toNat_natCast]; exact hz1) ?_))
      refine Exists.intro _ (And.intro hwi ?_)
      refine Exists.intro _ (And.intro hwj ?_)
      exact Exists.intro ⟨e.set i d[j], zs, i + 1, j + 1⟩ (Exists.intro [0, 1, 2] (And.intro ⟨⟨hS.keep hjl (by simp [h2]), hz2, by simp only; omega⟩, by simp only; omega⟩ ⟨rfl, rfl, rfl⟩))
    · have h2 : inG gm d[j] = true := by simpa using h2
      refine Exists.intro _ (And.intro hwj ?_)
      exact Exists.intro ⟨e, ys, i, j + 1⟩ (Exists.intro [0, 1, 2] (And.intro ⟨⟨hS.drop hjl (by simp [h2]), hR, by simp only; omega⟩, by simp only; omega⟩ ⟨rfl, rfl, rfl⟩))
  · have h := of_decide_eq_false h
    have hj : j = d.length := by have := hS.le; simp only at h; omega
    subst hj
    have hi := hS.le.1
    have hlen := hS.len
    have hlx := hR.2.1
    have hcc := hR.1
    have hmul := Nat.mul_le_mul_right 2 hR.1
    refine And.intro ⟨Int.natCast_nonneg i, by show (i : Int) ≤ (d.length : Nat); omega⟩ (Exists.intro _ (And.intro rfl ?_))
    rw [Int.toNat_natCast]
    refine And.intro ⟨rfl, rfl, ?_⟩ ?_
    · have hlx' : o + c * 2 ≤ ys.length := hlx
      rw [hlen] at hmul hcc
      have hsub : (d.length - i) * 2 ≤ c * 2 - i * 2 := by rw [← Nat.sub_mul]; exact Nat.mul_le_mul_right _ (by omega)
      have him : i * 2 ≤ c * 2 := Nat.mul_le_mul_right _ (by omega)
      show (if c = i then o else o + i * 2) + (d.length - i) * 2 ≤ ys.length
      by_cases hci : c = i
      · rw [if_pos hci]
        subst hci
        omega
      · rw [if_neg hci]; omega
    intro ws hws
    refine And.intro ⟨Int.natCast_nonneg i, by show (i : Int) ≤ (c : Nat); omega⟩ ?_
    rw [Int.toNat_natCast]
    have hdone := hS.done
    have hnum : i = (d.filter fun y => !(inG gm y)).length := by rw [← hdone, List.length_take]; omega
    have hR2 := hR.cutDown hcl i
    rw [hdone] at hR2
    have hR3 : RowG dcl 2 ws o c (d.filter fun y => !(inG gm y)) := by
      refine hR2.same hws.1 fun t ht => hws.2 t (.inl ?_)
      rw [← hnum] at ht
      show t < (if c = i then o else o + i * 2)
      by_cases hci : c = i
      · exfalso
        have h1 : i < d.length := hij
        have h2 : e.length ≤ c := hcc
        rw [hlen] at h2
        omega
      · rw [if_neg hci]; exact ht
    refine VRet.mk [0, 1, 2] (.sl 0 o i c) [.arr ws T_api_Dot, .cells [.mp 2] T_map_api_Dot_bool, .map (ents encD encB gm) gc] ⟨rfl, rfl, rfl⟩ ⟨_, ws, rfl, ?_, rfl, hR3⟩
    rw [← hnum]
end Go.Proofs

namespace Go.Proofs
open Go Go.V Go.Lib
set_option maxRecDepth 100000
set_option linter.unusedVariables false

/-! ### Bids -/
def ltDD (a b : Int × Int) : Prop := a.1 < b.1 ∨ (a.1 = b.1 ∧ a.2 < b.2)
def bidE (a : Int × Int) (sv : Nat → Int) (e : (Int × Int) × ST × Nat) : Bool := has sv e.1.1 e.1.2 && (decide (e.2.1.kind = 2) && (decide (e.2.1.ar = a.1) && decide (e.2.1.an = a.2)))
def canE (sv : Nat → Int) (d : Int × Int) (e : (Int × Int) × ST × Nat) : Bool := has sv e.1.1 e.1.2 && (decide (e.2.1.kind = 3) && (decide (e.2.1.br = d.1) && decide (e.2.1.bn = d.2)))
/-- An auction's bids that one has seen and no cancel that one has seen cancels. -/
structure BidsL (bs : MB) (a : Int × Int) (sv : Nat → Int) (l : List (Int × Int)) : Prop where
  srt : l.Pairwise ltDD
  mem : ∀ d, d ∈ l ↔ (∃ e, e ∈ bs ∧ e.1 = d ∧ bidE a sv e = true) ∧ ¬ ∃ e, e ∈ bs ∧ canE sv d e = true
theorem inj_of_nodup {α β : Type} {f : α → β} : ∀ {l : List α}, (l.map f).Nodup → ∀ {x y : α}, x ∈ l → y ∈ l → f x = f y → x = y
  | [], _, _, _, h, _, _ => by simp at h
  | z :: l, hn, x, y, hx, hy, e => by
    simp only [List.map_cons, List.nodup_cons] at hn
    rcases List.mem_cons.1 hx with h1 | h1 <;> rcases List.mem_cons.1 hy with h2 | h2
    · rw [h1, h2]
    · exact absurd (List.mem_map.2 ⟨y, h2, by rw [← e, h1]⟩) hn.1
    · exact absurd (List.mem_map.2 ⟨x, h1, by rw [e, h2]⟩) hn.1
    · exact inj_of_nodup hn.2 h1 h2 e
theorem nodup_map_on {α β : Type} {f : α → β} {l : List α} (hl : l.Nodup) (hi : ∀ x y, x ∈ l → y ∈ l → f x = f y → x = y) : (l.map f).Nodup := by
  refine List.pairwise_map.2 (List.Pairwise.imp_of_mem (fun {x y} hx hy hxy e => hxy (hi x y hx hy e)) hl)
theorem bidsL_of {bs pre : MB} {a : Int × Int} {sv : Nat → Int} {gm : MG} (hsub : ∀ y, y ∈ pre → y ∈ bs) (hall : ∀ y, y ∈ bs → y ∈ pre) (hnd : (bs.map (·.1)).Nodup) (hpn : pre.Nodup)
    (hg : ∀ d, inG gm d = pre.any (canE sv d)) {d' : List (Int × Int)} (hp : d'.Perm ((pre.filter (bidE a sv)).map (·.1))) (hs : d'.Pairwise fun a b => ¬ cmpD b a < 0) : BidsL bs a sv (d'.filter fun y => !inG gm y) where
  srt := by
    have hn : d'.Nodup := hp.nodup_iff.2 (nodup_map_on (hpn.filter _) fun x y hx hy e => inj_of_nodup hnd (hsub _ (List.mem_filter.1 hx).1) (hsub _ (List.mem_filter.1 hy).1) e)
    refine List.Pairwise.filter _ ?_
    refine List.Pairwise.imp_of_mem ?_ (List.pairwise_and_iff.2 ⟨hs, hn⟩)
    rintro ⟨a1, a2⟩ ⟨b1, b2⟩ _ _ ⟨h1, h2⟩
    rw [cmpD_lt] at h1
    unfold ltDD
    simp only [ne_eq, Prod.mk.injEq] at h1 h2 ⊢
    omega
  mem := fun d => by
    rw [List.mem_filter, hp.mem_iff, List.mem_map, hg]
    constructor
    · rintro ⟨⟨e, he, rfl⟩, h2⟩
      have he := List.mem_filter.1 he
      refine ⟨⟨e, hsub _ he.1, rfl, he.2⟩, ?_⟩
      rintro ⟨e', h3, h4⟩
      have : pre.any (canE sv e.1) = true := List.any_eq_true.2 ⟨e', hall _ h3, h4⟩
      rw [this] at h2; cases h2
    · rintro ⟨⟨e, h1, rfl, h2⟩, h3⟩
      refine ⟨⟨e, List.mem_filter.2 ⟨hall _ h1, h2⟩, rfl⟩, ?_⟩
      cases hq : pre.any (canE sv e.1) with
      | false => rfl
      | true =>
        obtain ⟨e', h4, h5⟩ := List.any_eq_true.1 hq
        exact absurd ⟨e', hsub _ h4, h5⟩ h3
structure BDX where
  pre : MB
  seen : List Nat
  gm : MG
  gc : Nat
  l : List (Int × Int)
  n : Nat
  xs : List Value
  o : Nat
  c : Nat
abbrev bdH (x : HL) (rx : List Value) (ro rc : Nat) (a : Int × Int) (sv : Nat → Int) (y : BDX) : List SO :=
  hoH x rx ro rc ++ [.cells (dcells a.1 a.2) T_api_Dot, .cells (vcells sv) T_vec_Vec, .map (ents encD encB y.gm) y.gc, .cells [.mp 8] T_map_api_Dot_bool, .iter (some 1) x.bc y.seen x.bc, .arr y.xs T_api_Dot]
structure BDI (bs : MB) (a : Int × Int) (sv : Nat → Int) (y : BDX) : Prop where
  been : Been bs y.pre y.seen
  hn : y.n = y.l.length
  row : RowG dcl 2 y.xs y.o y.c y.l
  hl : y.l = (y.pre.filter (bidE a sv)).map (·.1)
  hg : ∀ d, inG y.gm d = y.pre.any (canE sv d)
theorem s_bids (x : HL) (hok : MOK x.bs x.bc) (hnd : (x.bs.map (·.1)).Nodup) (hb : x.bs.length ≤ 1000000) (rx : List Value) (ro rc : Nat) (a : Int × Int) (sv : Nat → Int) :
    Ctr Tryz.prog F_auct_House_bids [.ptr 0 0, .agg (dcells a.1 a.2), .agg (vcells sv)] (hoH x rx ro rc)
      (fun r H => ∃ l xs o c, r = .sl 6 o l.length c ∧ H = hoH x rx ro rc ++ [.arr xs T_api_Dot] ∧ RowG dcl 2 xs o c l ∧ BidsL x.bs a sv l ∧ l.length ≤ x.bs.length) := by
  refine i_auct_House_bids.spec follows ?_
  refine VLoop.nil T_api_Dot [8] [] ⟨rfl, rfl⟩ ?_
  refine VLoop.mk BDX (fun y => [(4, .ptr 6 0), (5, .ptr 7 0), (7, .ptr 9 0), (8, .sl 11 y.o y.n y.c), (16, .ptr 10 0)]) (fun y => bdH x rx ro rc a sv y) (BDI x.bs a sv) (fun y => x.bs.length - y.pre.length) ⟨[], [], [], 0, [], 0, [], 0, 0⟩ [0, 1, 2, 3, 4, 5, 6, 7, 8, 9, 10, 11]
    ⟨⟨Been.nil _, rfl, ⟨Nat.le_refl _, by simp, by simp⟩, rfl, fun d => rfl⟩, rfl, rfl, rfl⟩ ?_
  rintro ⟨pre, seen, gm, gc, l, n, xs, o, c⟩ ⟨h1, hn, hr, hl, hg⟩ g
  simp only at h1 hn hr hl hg
  refine And.intro ⟨fun e he => ?_, Nat.le_refl _⟩ (And.intro (fun hall => ?_) (fun e he hns => ?_))
  · obtain ⟨y, hy, rfl⟩ := List.mem_map.1 he
    exact hok.1 y hy
  · have hsub : ∀ y, y ∈ x.bs → y ∈ pre := fun y hy => h1.all hok.2 hy (hall _ (List.mem_map.2 ⟨y, hy, rfl⟩))
    have hpn : pre.Nodup := by have := h1.nd; rw [h1.eq] at this; exact nodup_of_map _ this
    have hpl : pre.length ≤ x.bs.length := by classical exact nodup_len hpn h1.sub
    have hll : l.length ≤ pre.length := by rw [hl, List.length_map]; exact List.length_filter_le _ _
    subst hn
    refine VCall.mk [11] (s_SortFunc l xs o c hr (by omega)) ⟨rfl, rfl, rfl⟩ ?_
    rintro _ _ ⟨d', xs', rfl, rfl, hp, hs, hr'⟩
    have hdl := hp.length_eq
    have hD := s_DeleteG gm gc d' xs' o c hr' (by omega)
    rw [hdl] at hD
    refine VCall.mk [11, 9, 8] hD ⟨rfl, rfl, rfl⟩ ?_
    rintro _ _ ⟨d2, ws, hd2, rfl, rfl, hr2⟩
    have hfin := bidsL_of h1.sub hsub hnd hpn hg (hl ▸ hp) hs
    rw [← hd2] at hfin
    have hlen2 : d2.length ≤ x.bs.length := by rw [hd2]; have := List.length_filter_le (fun y => !inG gm y) d'; omega
    exact VRet.mk [0, 1, 2, 3, 4, 5, 11] (.sl 6 o d2.length c) (hoH x rx ro rc ++ [.arr ws T_api_Dot]) ⟨rfl, rfl, rfl⟩ ⟨d2, ws, o, c, rfl, rfl, hr2, hfin, hlen2⟩
  · obtain ⟨y, hy, rfl⟩ := List.mem_map.1 he
    have hns : y.2.2 ∉ seen := hns
    have hlen : x.bs.length - (pre ++ [y]).length < x.bs.length - pre.length := by classical exact h1.len hy hns
    have hmore := h1.more hy hns
    refine Exists.intro y.2.2 (Exists.intro (ent encD encST y) (And.intro (last_snoc _ _) (And.intro (find_ents hok.2 hy) (And.intro rfl ?_))))
    refine VCall.mk [] (s_vec_Has sv y.1.1 y.1.2) ⟨rfl, rfl, rfl⟩ ?_
    rintro _ _ ⟨rfl, rfl⟩
    have hf : ∀ {b : Bool}, bidE a sv y = b → ((pre ++ [y]).filter (bidE a sv)).map (·.1) = bif b then (pre.filter (bidE a sv)).map (·.1) ++ [y.1] else (pre.filter (bidE a sv)).map (·.1) := by
      rintro b rfl
      rw [List.filter_append, List.map_append]
      cases hq : bidE a sv y <;> simp [hq]
    have hc : ∀ d, (pre ++ [y]).any (canE sv d) = (pre.any (canE sv d) || canE sv d y) := fun d => by simp
    have skip : bidE a sv y = false → (∀ d, canE sv d y = false) → BDI x.bs a sv ⟨pre ++ [y], seen ++ [y.2.2], gm, gc, l, n, xs, o, c⟩ := fun hq hk => ⟨hmore, hn, hr, by rw [hf hq]; exact hl, fun d => by rw [hc, hk, Bool.or_false]; exact hg d⟩
    refine And.intro (fun k1 => ?_) (fun k1 => ?_)
    · have k1 : has sv y.1.1 y.1.2 = false := by simpa using k1
      exact Exists.intro ⟨pre ++ [y], seen ++ [y.2.2], gm, gc, l, n, xs, o, c⟩ (Exists.intro [0, 1, 2, 3, 4, 5, 6, 7, 8, 9, 10, 11] (And.intro ⟨skip (by simp [bidE, k1]) (fun d => by simp [canE, k1]), hlen⟩ ⟨rfl, rfl, rfl⟩))
    · have k1 : has sv y.1.1 y.1.2 = true := by simpa using k1
      refine And.intro (fun k2 => ?_) (fun k2 => ?_)
      · have k2 : y.2.1.kind = 3 := of_decide_eq_true k2
        refine Exists.intro _ (Exists.intro _ (And.intro (update_is (encv := encB) kG gm gc (y.2.1.br, y.2.1.bn) true) ?_))
        refine Exists.intro ⟨pre ++ [y], seen ++ [y.2.2], MP.put gm (y.2.1.br, y.2.1.bn) true gc, if (MP.get gm (y.2.1.br, y.2.1.bn)).isSome then gc else gc + 1, l, n, xs, o, c⟩ (Exists.intro [0, 1, 2, 3, 4, 5, 6, 7, 8, 9, 10, 11] (And.intro ⟨⟨hmore, hn, hr, by rw [hf (b := false) (by simp [bidE, k2])]; exact hl, fun d => ?_⟩, hlen⟩ ⟨rfl, rfl, rfl⟩))
        simp only
        rw [hc, ← hg, inG, inG, get_put]
        by_cases e : d = (y.2.1.br, y.2.1.bn)
        · subst e; simp [canE, k1, k2]
        · rw [if_neg e]
          have : canE sv d y = false := by
            simp only [canE, k1, k2, Bool.true_and]
            obtain ⟨d1, d2⟩ := d
            simp only [Prod.mk.injEq, not_and] at e
            simp
            intro e1 e2
            exact e e1.symm e2.symm
          rw [this, Bool.or_false]
      have k2 : ¬ y.2.1.kind = 3 := of_decide_eq_false k2
      have hk : ∀ d, canE sv d y = false := fun d => by simp [canE, k2]
      refine And.intro (fun k3 => ?_) (fun k3 => ?_)
      · have k3 : y.2.1.kind = 2 := of_decide_eq_true k3
        refine And.intro (fun k4 => ?_) (fun k4 => ?_)
        · have k4 : y.2.1.ar = a.1 ∧ y.2.1.an = a.2 := by simpa using k4
          have hq : bidE a sv y = true := by simp [bidE, k1, k3, k4]
          have hnb : (n + 1) * 16 ≤ 1099511627776 := by
            have h3 : l.length ≤ pre.length := by rw [hl, List.length_map]; exact List.length_filter_le _ _
            omega
          refine And.intro ⟨⟨by rw [hn]; exact hr.1, hr.2.1, rfl⟩, ⟨rfl, rfl⟩, hnb⟩ ?_
          intro xs' o' c' hz
          exact Exists.intro ⟨pre ++ [y], seen ++ [y.2.2], gm, gc, l ++ [y.1], n + 1, xs', o', c'⟩ (Exists.intro [0, 1, 2, 3, 4, 5, 6, 7, 8, 9, 10, 15] (And.intro ⟨⟨hmore, by simp only; rw [hn, List.length_append]; rfl, RowG.snoc hr hn hz.1 hz.2.1 hz.2.2, by rw [hf hq, hl]; rfl, fun d => by rw [hc, hk, Bool.or_false]; exact hg d⟩, hlen⟩ ⟨rfl, rfl, rfl⟩))
        · have k4 : bidE a sv y = false := by simp only [bidE, k4, Bool.and_false]
          exact Exists.intro ⟨pre ++ [y], seen ++ [y.2.2], gm, gc, l, n, xs, o, c⟩ (Exists.intro [0, 1, 2, 3, 4, 5, 6, 7, 8, 9, 10, 11] (And.intro ⟨skip k4 hk, hlen⟩ ⟨rfl, rfl, rfl⟩))
      · have k3 : ¬ y.2.1.kind = 2 := of_decide_eq_false k3
        exact Exists.intro ⟨pre ++ [y], seen ++ [y.2.2], gm, gc, l, n, xs, o, c⟩ (Exists.intro [0, 1, 2, 3, 4, 5, 6, 7, 8, 9, 10, 11] (And.intro ⟨skip (by simp [bidE, k3]) hk, hlen⟩ ⟨rfl, rfl, rfl⟩))
end Go.Proofs

namespace Go.Proofs
open Go Go.V Go.Lib
set_option maxRecDepth 100000
set_option linter.unusedVariables false

/-! ### The best of some bids -/
def amt (bs : MB) (d : Int × Int) : Int := ((MP.get bs d).getD zeroT').amount
def cmpB (bs : MB) (a b : Int × Int) : Int := orI [cmpI (amt bs a) (amt bs b), cmpD b a]
theorem s_best_1 (x : HL) (rx : List Value) (ro rc : Nat) (a b : Int × Int) :
    Ctr Tryz.prog F_auct_House_best_1 [.agg (dcells a.1 a.2), .agg (dcells b.1 b.2), .ptr 6 0] (hoH x rx ro rc ++ [.cells [.ptr 0 0] T_p_auct_House])
      (fun r H => r = iv (cmpB x.bs a b) ∧ H = hoH x rx ro rc ++ [.cells [.ptr 0 0] T_p_auct_House]) := by
  refine i_auct_House_best_1.spec follows ?_
  refine Exists.intro (.agg (stcells ((MP.get x.bs (a.1, a.2)).getD zeroT'))) (Exists.intro _ (Exists.intro _ (And.intro (lookB x.bs (a.1, a.2)) (And.intro rfl ?_))))
  refine Exists.intro (.agg (stcells ((MP.get x.bs (b.1, b.2)).getD zeroT'))) (Exists.intro _ (Exists.intro _ (And.intro (lookB x.bs (b.1, b.2)) (And.intro rfl ?_))))
  refine VCall.mk [] (s_Compare_int64 _ _) ⟨rfl, rfl, rfl⟩ ?_
  rintro _ _ ⟨rfl, rfl⟩
  refine And.intro rfl (And.intro rfl ?_)
  refine VCall.mk [] (s_dots_Order b.1 b.2 a.1 a.2) ⟨rfl, rfl, rfl⟩ ?_
  rintro _ _ ⟨rfl, rfl⟩
  refine VCall.mk [9] (s_Or_int [cmpI (amt x.bs (a.1, a.2)) (amt x.bs (b.1, b.2)), cmpD (b.1, b.2) (a.1, a.2)] 2 (by simp)) ⟨rfl, rfl, rfl⟩ ?_
  rintro _ _ ⟨rfl, rfl⟩
  exact VRet.mk [0, 1, 2, 3, 4, 5, 6] (iv (cmpB x.bs a b)) (hoH x rx ro rc ++ [.cells [.ptr 0 0] T_p_auct_House]) ⟨rfl, rfl, rfl⟩ ⟨rfl, rfl⟩
/-- One bid is better than another. -/
def gtB (bs : MB) (a b : Int × Int) : Prop := amt bs b < amt bs a ∨ (amt bs a = amt bs b ∧ ltDD a b)
theorem cmpB_gt {bs : MB} {a b : Int × Int} : cmpB bs a b > 0 ↔ gtB bs a b := by
  unfold cmpB gtB ltDD
  generalize amt bs a = p
  generalize amt bs b = q
  simp only [orI, cmpI, cmpD]
  by_cases h1 : p < q
  · simp [h1]; omega
  · by_cases h2 : q < p
    · simp [h1, h2]
    · by_cases h3 : b.1 < a.1
      · simp [h1, h2, h3]; omega
      · by_cases h4 : a.1 < b.1
        · simp [h1, h2, h3, h4]; omega
        · by_cases h5 : b.2 < a.2
          · simp [h1, h2, h3, h4, h5]; omega
          · by_cases h6 : a.2 < b.2
            · simp [h1, h2, h3, h4, h5, h6]; omega
            · simp [h1, h2, h3, h4, h5, h6]
theorem gtB_keep {bs : MB} {a b c : Int × Int} (h1 : gtB bs b c) (h2 : ¬ gtB bs a c) : ¬ gtB bs a b := by
  unfold gtB ltDD at *; omega
theorem gtB_irr {bs : MB} {a : Int × Int} : ¬ gtB bs a a := by unfold gtB ltDD; omega
structure MXX where
  i : Nat
  m : Int × Int
theorem s_MaxFunc (x : HL) (rx : List Value) (ro rc : Nat) (d : List (Int × Int)) (xs : List Value) (o c : Nat) (hr : RowG dcl 2 xs o c d) (h0 : 0 < d.length) (hl : d.length ≤ 1000000) :
    Ctr Tryz.prog F_slices_MaxFunc_sl_api_Dot_api_Dot [.sl 7 o d.length c, .fn F_auct_House_best_1 [.ptr 6 0]] (hoH x rx ro rc ++ [.cells [.ptr 0 0] T_p_auct_House, .arr xs T_api_Dot])
      (fun r H => ∃ m, m ∈ d ∧ (∀ e, e ∈ d → ¬ gtB x.bs e m) ∧ r = .agg (dcells m.1 m.2) ∧ H = hoH x rx ro rc ++ [.cells [.ptr 0 0] T_p_auct_House, .arr xs T_api_Dot]) := by
  have hcl : ∀ x, (dcl x).length = 2 := fun _ => rfl
  have hroom : o + d.length * 2 ≤ xs.length := by have := hr.2.1; have := Nat.mul_le_mul_right 2 hr.1; omega
  refine i_slices_MaxFunc_sl_api_Dot_api_Dot.spec follows ?_
  refine And.intro (fun h => absurd (of_decide_eq_true h) (by omega)) (fun _ => ?_)
  refine And.intro ⟨by omega, by omega, hroom⟩ (Exists.intro _ (And.intro (hr.cut hcl h0) ?_))
  refine VLoop.mk MXX (fun y => [(0, .sl 7 o d.length c), (1, .fn F_auct_House_best_1 [.ptr 6 0]), (4, .ptr 8 0), (5, .ptr 9 0), (6, iv y.i)]) (fun y => hoH x rx ro rc ++ [.cells [.ptr 0 0] T_p_auct_House, .arr xs T_api_Dot, .cells (dcells 0 0) T_api_Dot, .cells (dcells y.m.1 y.m.2) T_api_Dot])
    (fun y => 1 ≤ y.i ∧ y.i ≤ d.length ∧ y.m ∈ d ∧ ∀ j (hj : j < d.length), j < y.i → ¬ gtB x.bs d[j] y.m) (fun y => d.length - y.i) ⟨1, d[0]⟩ [0, 1, 2, 3, 4, 5, 6, 7, 8, 9] ⟨⟨Nat.le_refl _, by simp only; omega, by simp, fun j hj hj1 => ?_⟩, rfl, rfl, rfl⟩ ?_
  · simp only at hj1
    have : j = 0 := by omega
    subst this
    exact gtB_irr
  rintro ⟨i, m⟩ ⟨hi1, hi, hm, hb⟩ g
  simp only at hi1 hi hm hb
  refine And.intro (fun h => ?_) (fun h => ?_)
  · have h : (i : Int) < (d.length : Nat) := of_decide_eq_true h
    have hil : i < d.length := by omega
    have hw : IntKind.i64.wrap ((i : Int) + 1) = ((i + 1 : Nat) : Int) := wrap64 (by omega)
    have hc := hr.cut hcl hil
    refine And.intro ⟨Int.natCast_nonneg i, h, hroom⟩ (Exists.intro _ (And.intro (by rw [Int.toNat_natCast]; exact hc) ?_))
    refine And.intro (by kernel_rfl) ?_
    refine VCall.mk [0, 1, 2, 3, 4, 5, 6] (s_best_1 x rx ro rc d[i] m) ⟨rfl, rfl, rfl⟩ ?_
    rintro _ _ ⟨rfl, rfl⟩
    refine And.intro (fun h2 => ?_) (fun h2 => ?_)
    · have h2 : gtB x.bs d[i] m := cmpB_gt.1 (of_decide_eq_true h2)
      refine And.intro ⟨Int.natCast_nonneg i, h, hroom⟩ (Exists.intro _ (And.intro (by rw [Int.toNat_natCast]; exact hc) ?_))
      refine Exists.intro _ (And.intro hw ?_)
      refine Exists.intro ⟨i + 1, d[i]⟩ (Exists.intro [0, 1, 2, 3, 4, 5, 6, 7, 8, 9] (And.intro ⟨⟨by simp only; omega, hil, by simp, fun j hj hji => ?_⟩, by simp only; omega⟩ ⟨rfl, rfl, rfl⟩))
      simp only at hji ⊢
      by_cases e : j = i
      · subst e; exact gtB_irr
      · exact gtB_keep h2 (hb j hj (by omega))
    · have h2 : ¬ gtB x.bs d[i] m := fun k => (of_decide_eq_false h2) (cmpB_gt.2 k)
      refine Exists.intro _ (And.intro hw ?_)
      refine Exists.intro ⟨i + 1, m⟩ (Exists.intro [0, 1, 2, 3, 4, 5, 6, 7, 8, 9] (And.intro ⟨⟨by simp only; omega, hil, hm, fun j hj hji => ?_⟩, by simp only; omega⟩ ⟨rfl, rfl, rfl⟩))
      simp only at hji ⊢
      by_cases e : j = i
      · subst e; exact h2
      · exact hb j hj (by omega)
  · have h : ¬ (i : Int) < (d.length : Nat) := of_decide_eq_false h
    refine VRet.mk [0, 1, 2, 3, 4, 5, 6, 7] (.agg (dcells m.1 m.2)) (hoH x rx ro rc ++ [.cells [.ptr 0 0] T_p_auct_House, .arr xs T_api_Dot]) ⟨rfl, rfl, rfl⟩ ⟨m, hm, fun e he => ?_, rfl, rfl⟩
    obtain ⟨j, hj, rfl⟩ := List.mem_iff_getElem.1 he
    exact hb j hj (by omega)
end Go.Proofs

namespace Go.Proofs
open Go Go.V Go.Lib
set_option maxRecDepth 100000
set_option linter.unusedVariables false

/-- The best of a row of bids; none of none. -/
def BestO (bs : MB) (d : List (Int × Int)) (m : Option (Int × Int)) : Prop := match m with
  | none => d = []
  | some m => m ∈ d ∧ ∀ e, e ∈ d → ¬ gtB bs e m
def bestV : Option (Int × Int) → SV
  | none => .tup [.agg (dcells 0 0), bv false]
  | some m => .tup [.agg (dcells m.1 m.2), bv true]
theorem s_best (x : HL) (rx : List Value) (ro rc : Nat) (d : List (Int × Int)) (xs : List Value) (o c : Nat) (hr : RowG dcl 2 xs o c d) (hl : d.length ≤ 1000000) :
    Ctr Tryz.prog F_auct_House_best [.ptr 0 0, .sl 6 o d.length c] (hoH x rx ro rc ++ [.arr xs T_api_Dot])
      (fun r H => ∃ m, BestO x.bs d m ∧ r = bestV m ∧ H = hoH x rx ro rc ++ [.arr xs T_api_Dot]) := by
  refine i_auct_House_best.spec follows ?_
  refine And.intro (fun h => ?_) (fun h => ?_)
  · have h0 : d.length = 0 := by have := of_decide_eq_true h; omega
    exact VRet.mk [0, 1, 2, 3, 4, 5, 6] (.tup [.agg (dcells 0 0), bv false]) (hoH x rx ro rc ++ [.arr xs T_api_Dot]) ⟨rfl, rfl, rfl⟩ ⟨none, List.length_eq_zero_iff.1 h0, rfl, rfl⟩
  · have h0 : 0 < d.length := by have := of_decide_eq_false h; omega
    refine VCall.mk [0, 1, 2, 3, 4, 5, 7, 6] (s_MaxFunc x rx ro rc d xs o c hr h0 hl) ⟨rfl, rfl, rfl⟩ ?_
    rintro _ _ ⟨m, h1, h2, rfl, rfl⟩
    exact VRet.mk [0, 1, 2, 3, 4, 5, 6] (.tup [.agg (dcells m.1 m.2), bv true]) (hoH x rx ro rc ++ [.arr xs T_api_Dot]) ⟨rfl, rfl, rfl⟩ ⟨some m, ⟨h1, h2⟩, rfl, rfl⟩
def usr (bs : MB) (d : Int × Int) : ByteArray := ((MP.get bs d).getD zeroT').user
/-- Is who made a bid registered? -/
def regB (x : HL) (d : Int × Int) : Bool := (MP.get x.us (foldB (usr x.bs d))).getD false
theorem s_ends_1 (h : Nat → Option Obj) (hu : CaseH h) (x : HL) (hs : ∀ d, (usr x.bs d).size ≤ 100000000) (rx : List Value) (ro rc : Nat) (d : Int × Int) :
    Ctr Tryz.prog F_auct_House_ends_1 [.agg (dcells d.1 d.2), .ptr 0 0] [.cells [.ptr 1 0] T_p_auct_House, .cells (vcells x.v ++ [.mp 2, .sl 6 ro x.red.length rc, .mp 3, .mp 4, .mp 5]) T_auct_House, .map (ents encD encST x.bs) x.bc, .map (ents encT encB x.us) x.uc, .map (ents encT encN x.ds) x.dc, .map (ents encD encO x.cs) x.cc, .arr rx T_auct_Step, .heap h]
      (fun r H => r = bv (!regB x d) ∧ H = [.cells [.ptr 1 0] T_p_auct_House, .cells (vcells x.v ++ [.mp 2, .sl 6 ro x.red.length rc, .mp 3, .mp 4, .mp 5]) T_auct_House, .map (ents encD encST x.bs) x.bc, .map (ents encT encB x.us) x.uc, .map (ents encT encN x.ds) x.dc, .map (ents encD encO x.cs) x.cc, .arr rx T_auct_Step, .heap h]) := by
  refine i_auct_House_ends_1.spec follows ?_
  refine Exists.intro (.agg (stcells ((MP.get x.bs (d.1, d.2)).getD zeroT'))) (Exists.intro _ (Exists.intro _ (And.intro (lookB x.bs (d.1, d.2)) (And.intro rfl ?_))))
  refine VCall.mk [7] (s_name_Fold h hu (usr x.bs d) (hs d)) ⟨rfl, rfl, rfl⟩ ?_
  rintro _ _ ⟨rfl, rfl⟩
  refine And.intro rfl (And.intro rfl (And.intro rfl ?_))
  refine Exists.intro (bv (regB x d)) (Exists.intro _ (Exists.intro _ (And.intro (lookU x.us (foldB (usr x.bs d))) (And.intro rfl ?_))))
  exact VRet.mk [0, 1, 2, 3, 4, 5, 6, 7] (bv (!regB x d)) [.cells [.ptr 1 0] T_p_auct_House, .cells (vcells x.v ++ [.mp 2, .sl 6 ro x.red.length rc, .mp 3, .mp 4, .mp 5]) T_auct_House, .map (ents encD encST x.bs) x.bc, .map (ents encT encB x.us) x.uc, .map (ents encT encN x.ds) x.dc, .map (ents encD encO x.cs) x.cc, .arr rx T_auct_Step, .heap h] ⟨rfl, rfl, rfl⟩ ⟨rfl, rfl⟩
structure OutL (x : HL) (s : ST) (o : OC) : Prop where
  ex : ∃ l m, BidsL x.bs (s.ar, s.an) s.seen l ∧ BestO x.bs (l.filter (regB x)) m ∧ o = match m with
    | none => zeroO
    | some m => ⟨m.1, m.2, usr x.bs m, amt x.bs m⟩
theorem s_IndexE (h0 : Nat → Option Obj) (hu : CaseH h0) (hh : HL) (hs : ∀ d, (usr hh.bs d).size ≤ 100000000) (rx : List Value) (ro rc : Nat) (d : List (Int × Int)) (xs : List Value) (o c : Nat) (hr : RowG dcl 2 xs o c d) (hl : d.length ≤ 1000000) :
    Ctr Tryz.prog F_slices_IndexFunc_sl_api_Dot_api_Dot [.sl 0 o d.length c, .fn F_auct_House_ends_1 [.ptr 1 0]] [.arr xs T_api_Dot, .cells [.ptr 2 0] T_p_auct_House, .cells (vcells hh.v ++ [.mp 3, .sl 7 ro hh.red.length rc, .mp 4, .mp 5, .mp 6]) T_auct_House, .map (ents encD encST hh.bs) hh.bc, .map (ents encT encB hh.us) hh.uc, .map (ents encT encN hh.ds) hh.dc, .map (ents encD encO hh.cs) hh.cc, .arr rx T_auct_Step, .heap h0]
    (fun x H => (∃ i : Nat, ∃ hi : i < d.length, x = iv i ∧ (!regB hh d[i]) = true ∧ (∀ j (hj : j < d.length), j < i → (!regB hh d[j]) = false) ∧ H = [.arr xs T_api_Dot, .cells [.ptr 2 0] T_p_auct_House, .cells (vcells hh.v ++ [.mp 3, .sl 7 ro hh.red.length rc, .mp 4, .mp 5, .mp 6]) T_auct_House, .map (ents encD encST hh.bs) hh.bc, .map (ents encT encB hh.us) hh.uc, .map (ents encT encN hh.ds) hh.dc, .map (ents encD encO hh.cs) hh.cc, .arr rx T_auct_Step, .heap h0]) ∨ (x = iv (-1) ∧ (∀ j (hj : j < d.length), (!regB hh d[j]) = false) ∧ H = [.arr xs T_api_Dot, .cells [.ptr 2 0] T_p_auct_House, .cells (vcells hh.v ++ [.mp 3, .sl 7 ro hh.red.length rc, .mp 4, .mp 5, .mp 6]) T_auct_House, .map (ents encD encST hh.bs) hh.bc, .map (ents encT encB hh.us) hh.uc, .map (ents encT encN hh.ds) hh.dc, .map (ents encD encO hh.cs) hh.cc, .arr rx T_auct_Step, .heap h0])) := by
  have hcl : ∀ x, (dcl x).length = 2 := fun _ => rfl
  refine i_slices_IndexFunc_sl_api_Dot_api_Dot.spec follows ?_
  refine VLoop.mk Nat (fun i => [(0, .sl 0 o d.length c), (1, .fn F_auct_House_ends_1 [.ptr 1 0]), (6, .sl 0 o d.length c), (7, iv d.length), (8, iv i)]) (fun i => [.arr xs T_api_Dot, .cells [.ptr 2 0] T_p_auct_House, .cells (vcells hh.v ++ [.mp 3, .sl 7 ro hh.red.length rc, .mp 4, .mp 5, .mp 6]) T_auct_House, .map (ents encD encST hh.bs) hh.bc, .map (ents encT encB hh.us) hh.uc, .map (ents encT encN hh.ds) hh.dc, .map (ents encD encO hh.cs) hh.cc, .arr rx T_auct_Step, .heap h0])
    (fun i => i ≤ d.length ∧ ∀ j (hj : j < d.length), j < i → (!regB hh d[j]) = false) (fun i => d.length - i) 0 [0, 1, 2, 3, 4, 5, 6, 7, 8] ⟨⟨Nat.zero_le _, fun j _ hj => by omega⟩, rfl, rfl, rfl⟩ ?_
  rintro i ⟨hi, hb⟩ g
  refine And.intro (fun h => ?_) (fun h => ?_)
  · have h := of_decide_eq_true h
    have hil : i < d.length := by omega
    have hw : IntKind.i64.wrap ((i : Int) + 1) = ((i + 1 : Nat) : Int) := wrap64 (by omega)
    have hc := hr.cut hcl hil
    have hroom : o + d.length * 2 ≤ xs.length := by have := hr.2.1; have := Nat.mul_le_mul_right 2 hr.1; omega
    refine And.intro ⟨Int.natCast_nonneg i, h, hroom⟩ (Exists.intro _ (And.intro (by rw [Int.toNat_natCast]; exact hc) ?_))
    refine And.intro (by kernel_rfl) ?_
    refine VCall.mk [1, 2, 3, 4, 5, 6, 7, 8] (s_ends_1 h0 hu hh hs rx ro rc d[i]) ⟨rfl, rfl, rfl⟩ ?_
    rintro _ _ ⟨rfl, rfl⟩
    refine And.intro (fun h2 => ?_) (fun h2 => ?_)
    · exact VRet.mk [0, 1, 2, 3, 4, 5, 6, 7, 8] (iv i) [.arr xs T_api_Dot, .cells [.ptr 2 0] T_p_auct_House, .cells (vcells hh.v ++ [.mp 3, .sl 7 ro hh.red.length rc, .mp 4, .mp 5, .mp 6]) T_auct_House, .map (ents encD encST hh.bs) hh.bc, .map (ents encT encB hh.us) hh.uc, .map (ents encT encN hh.ds) hh.dc, .map (ents encD encO hh.cs) hh.cc, .arr rx T_auct_Step, .heap h0] ⟨rfl, rfl, rfl⟩ (.inl ⟨i, hil, rfl, h2, hb, rfl⟩)
    · refine Exists.intro _ (And.intro hw ?_)
      refine Exists.intro (i + 1) (Exists.intro [0, 1, 2, 3, 4, 5, 6, 7, 8] (And.intro ⟨⟨hil, fun j hj hji => ?_⟩, by omega⟩ ⟨rfl, rfl, rfl⟩))
      by_cases e : j = i
      · subst e; exact h2
      · exact hb j hj (by omega)
  · have h := of_decide_eq_false h
    exact VRet.mk [0, 1, 2, 3, 4, 5, 6, 7, 8] (iv (-1)) [.arr xs T_api_Dot, .cells [.ptr 2 0] T_p_auct_House, .cells (vcells hh.v ++ [.mp 3, .sl 7 ro hh.red.length rc, .mp 4, .mp 5, .mp 6]) T_auct_House, .map (ents encD encST hh.bs) hh.bc, .map (ents encT encB hh.us) hh.uc, .map (ents encT encN hh.ds) hh.dc, .map (ents encD encO hh.cs) hh.cc, .arr rx T_auct_Step, .heap h0] ⟨rfl, rfl, rfl⟩ (.inr ⟨rfl, fun j hj => hb j hj (by omega), rfl⟩)
theorem s_DeleteE (h0 : Nat → Option Obj) (hu : CaseH h0) (hh : HL) (hs : ∀ d, (usr hh.bs d).size ≤ 100000000) (rx : List Value) (ro rc : Nat) (d : List (Int × Int)) (xs : List Value) (o c : Nat) (hr : RowG dcl 2 xs o c d) (hl : d.length ≤ 1000000) :
    Ctr Tryz.prog F_slices_DeleteFunc_sl_api_Dot_api_Dot [.sl 0 o d.length c, .fn F_auct_House_ends_1 [.ptr 1 0]] [.arr xs T_api_Dot, .cells [.ptr 2 0] T_p_auct_House, .cells (vcells hh.v ++ [.mp 3, .sl 7 ro hh.red.length rc, .mp 4, .mp 5, .mp 6]) T_auct_House, .map (ents encD encST hh.bs) hh.bc, .map (ents encT encB hh.us) hh.uc, .map (ents encT encN hh.ds) hh.dc, .map (ents encD encO hh.cs) hh.cc, .arr rx T_auct_Step, .heap h0]
    (fun x H => ∃ d' xs', d' = d.filter (fun y => !((!regB hh y))) ∧ x = .sl 0 o d'.length c ∧ H = [.arr xs' T_api_Dot, .cells [.ptr 2 0] T_p_auct_House, .cells (vcells hh.v ++ [.mp 3, .sl 7 ro hh.red.length rc, .mp 4, .mp 5, .mp 6]) T_auct_House, .map (ents encD encST hh.bs) hh.bc, .map (ents encT encB hh.us) hh.uc, .map (ents encT encN hh.ds) hh.dc, .map (ents encD encO hh.cs) hh.cc, .arr rx T_auct_Step, .heap h0] ∧ RowG dcl 2 xs' o c d') := by
  have hcl : ∀ x, (dcl x).length = 2 := fun _ => rfl
  refine i_slices_DeleteFunc_sl_api_Dot_api_Dot.spec follows ?_
  refine VCall.mk [0, 1, 2, 3, 4, 5, 6, 7, 8] (s_IndexE h0 hu hh hs rx ro rc d xs o c hr hl) ⟨rfl, rfl, rfl⟩ ?_
  rintro _ _ (⟨i0, hi0, rfl, hp0, hb0, rfl⟩ | ⟨rfl, hb, rfl⟩)
  rotate_left 1
  · refine And.intro (fun _ => ?_) (fun h => absurd (of_decide_eq_false h) (by simp))
    have hd : d.filter (fun y => !((!regB hh y))) = d := by
      rw [List.filter_eq_self]
      intro x hx
      obtain ⟨j, hj, rfl⟩ := List.mem_iff_getElem.1 hx
      simp [hb j hj]
    refine VRet.mk [0, 1, 2, 3, 4, 5, 6, 7, 8] (.sl 0 o d.length c) [.arr xs T_api_Dot, .cells [.ptr 2 0] T_p_auct_House, .cells (vcells hh.v ++ [.mp 3, .sl 7 ro hh.red.length rc, .mp 4, .mp 5, .mp 6]) T_auct_House, .map (ents encD encST hh.bs) hh.bc, .map (ents encT encB hh.us) hh.uc, .map (ents encT encN hh.ds) hh.dc, .map (ents encD encO hh.cs) hh.cc, .arr rx T_auct_Step, .heap h0] ⟨rfl, rfl, rfl⟩ ⟨d, xs, hd.symm, rfl, rfl, hr⟩
  have hn1 : ¬ ((i0 : Int) = -1) := by omega
  refine And.intro (fun h => absurd (of_decide_eq_true h) hn1) (fun _ => ?_)
  have hw0 : IntKind.i64.wrap ((i0 : Int) + 1) = ((i0 + 1 : Nat) : Int) := wrap64 (by omega)
  refine Exists.intro _ (And.intro hw0 ?_)
  refine VLoop.mk DXD (fun x => [(0, .sl 0 o d.length c), (1, .fn F_auct_House_ends_1 [.ptr 1 0]), (5, iv x.i), (6, iv x.j)]) (fun x => [.arr x.xs T_api_Dot, .cells [.ptr 2 0] T_p_auct_House, .cells (vcells hh.v ++ [.mp 3, .sl 7 ro hh.red.length rc, .mp 4, .mp 5, .mp 6]) T_auct_House, .map (ents encD encST hh.bs) hh.bc, .map (ents encT encB hh.us) hh.uc, .map (ents encT encN hh.ds) hh.dc, .map (ents encD encO hh.cs) hh.cc, .arr rx T_auct_Step, .heap h0])
    (fun x => Sieve d (fun y => !((!regB hh y))) x.e x.i x.j ∧ RowG dcl 2 x.xs o c x.e ∧ x.i < x.j) (fun x => d.length - x.j) ⟨d, xs, i0, i0 + 1⟩ [0, 1, 2, 3, 4, 5, 6, 7, 8]
    ⟨⟨Sieve.start hi0 (by simp [hp0]) (fun j hj hji => by simp [hb0 j hj hji]), hr, Nat.lt_succ_self _⟩, rfl, rfl, rfl⟩ ?_
  rintro ⟨e, ys, i, j⟩ ⟨hS, hR, hij⟩ g
  simp only at hS hR hij
  have hroom : o + d.length * 2 ≤ ys.length := by have := hR.2.1; have := Nat.mul_le_mul_right 2 hR.1; rw [hS.len] at this; omega
  refine And.intro (fun h => ?_) (fun h => ?_)
  · have h := of_decide_eq_true h
    have hjl : j < d.length := by simp only at h; omega
    have hjl' : j < e.length := by rw [hS.len]; exact hjl
    have hge := hS.get hjl
    have hc := hR.cut hcl hjl'
    rw [hge] at hc
    have hwj : IntKind.i64.wrap ((j : Int) + 1) = ((j + 1 : Nat) : Int) := wrap64 (by omega)
    have hwi : IntKind.i64.wrap ((i : Int) + 1) = ((i + 1 : Nat) : Int) := wrap64 (by omega)
    refine And.intro ⟨Int.natCast_nonneg j, h, hroom⟩ (Exists.intro _ (And.intro (by rw [Int.toNat_natCast]; exact hc) ?_))
    refine And.intro (by kernel_rfl) ?_
    refine VCall.mk [1, 2, 3, 4, 5, 6, 7, 8] (s_ends_1 h0 hu hh hs rx ro rc d[j]) ⟨rfl, rfl, rfl⟩ ?_
    rintro _ _ ⟨rfl, rfl⟩
    refine And.intro (fun h2 => ?_) (fun h2 => ?_)
    · have h2 : (!regB hh d[j]) = false := by simpa using h2
      have hil : i < e.length := by omega
      obtain ⟨zs, hz1, hz2, hz3⟩ := hR.set hcl (by omega) hil d[j]
      refine And.intro ⟨Int.natCast_nonneg i, by have := hS.len; show (i : Int) < (d.length : Nat); omega, hroom⟩ (Exists.intro _ (And.intro (by rw [Int.toNat_natCast]; exact hz1) ?_))
      refine Exists.intro _ (And.intro hwi ?_)
      refine Exists.intro _ (And.intro hwj ?_)
      exact Exists.intro ⟨e.set i d[j], zs, i + 1, j + 1⟩ (Exists.intro [0, 1, 2, 3, 4, 5, 6, 7, 8] (And.intro ⟨⟨hS.keep hjl (by simp [h2]), hz2, by simp only; omega⟩, by simp only; omega⟩ ⟨rfl, rfl, rfl⟩))
    · have h2 : (!regB hh d[j]) = true := by simpa using h2
      refine Exists.intro _ (And.intro hwj ?_)
      exact Exists.intro ⟨e, ys, i, j + 1⟩ (Exists.intro [0, 1, 2, 3, 4, 5, 6, 7, 8] (And.intro ⟨⟨hS.drop hjl (by simp [h2]), hR, by simp only; omega⟩, by simp only; omega⟩ ⟨rfl, rfl, rfl⟩))
  · have h := of_decide_eq_false h
    have hj : j = d.length := by have := hS.le; simp only at h; omega
    subst hj
    have hi := hS.le.1
    have hlen := hS.len
    have hlx := hR.2.1
    have hcc := hR.1
    have hmul := Nat.mul_le_mul_right 2 hR.1
    refine And.intro ⟨Int.natCast_nonneg i, by show (i : Int) ≤ (d.length : Nat); omega⟩ (Exists.intro _ (And.intro rfl ?_))
    rw [Int.toNat_natCast]
    refine And.intro ⟨rfl, rfl, ?_⟩ ?_
    · have hlx' : o + c * 2 ≤ ys.length := hlx
      rw [hlen] at hmul hcc
      have hsub : (d.length - i) * 2 ≤ c * 2 - i * 2 := by rw [← Nat.sub_mul]; exact Nat.mul_le_mul_right _ (by omega)
      have him : i * 2 ≤ c * 2 := Nat.mul_le_mul_right _ (by omega)
      show (if c = i then o else o + i * 2) + (d.length - i) * 2 ≤ ys.length
      by_cases hci : c = i
      · rw [if_pos hci]
        subst hci
        omega
      · rw [if_neg hci]; omega
    intro ws hws
    refine And.intro ⟨Int.natCast_nonneg i, by show (i : Int) ≤ (c : Nat); omega⟩ ?_
    rw [Int.toNat_natCast]
    have hdone := hS.done
    have hnum : i = (d.filter fun y => !((!regB hh y))).length := by rw [← hdone, List.length_take]; omega
    have hR2 := hR.cutDown hcl i
    rw [hdone] at hR2
    have hR3 : RowG dcl 2 ws o c (d.filter fun y => !((!regB hh y))) := by
      refine hR2.same hws.1 fun t ht => hws.2 t (.inl ?_)
      rw [← hnum] at ht
      show t < (if c = i then o else o + i * 2)
      by_cases hci : c = i
      · exfalso
        have h1 : i < d.length := hij
        have h2 : e.length ≤ c := hcc
        rw [hlen] at h2
        omega
      · rw [if_neg hci]; exact ht
    refine VRet.mk [0, 1, 2, 3, 4, 5, 6, 7, 8] (.sl 0 o i c) [.arr ws T_api_Dot, .cells [.ptr 2 0] T_p_auct_House, .cells (vcells hh.v ++ [.mp 3, .sl 7 ro hh.red.length rc, .mp 4, .mp 5, .mp 6]) T_auct_House, .map (ents encD encST hh.bs) hh.bc, .map (ents encT encB hh.us) hh.uc, .map (ents encT encN hh.ds) hh.dc, .map (ents encD encO hh.cs) hh.cc, .arr rx T_auct_Step, .heap h0] ⟨rfl, rfl, rfl⟩ ⟨_, ws, rfl, ?_, rfl, hR3⟩
    rw [← hnum]
end Go.Proofs

namespace Go.Proofs
open Go Go.V Go.Lib
set_option maxRecDepth 100000
set_option linter.unusedVariables false

theorem s_ends (h : Nat → Option Obj) (hu : CaseH h) (x : HL) (hs : ∀ d, (usr x.bs d).size ≤ 100000000) (hok : MOK x.bs x.bc) (hnd : (x.bs.map (·.1)).Nodup) (hb : x.bs.length ≤ 1000000) (rx : List Value) (ro rc : Nat) (s : ST) :
    Ctr Tryz.prog F_auct_House_ends [.ptr 0 0, .agg (stcells s)] (hoH x rx ro rc ++ [.heap h])
      (fun r H => ∃ o, OutL x s o ∧ r = .agg (occells o) ∧ H = hoH x rx ro rc ++ [.heap h]) := by
  refine i_auct_House_ends.spec follows ?_
  refine VCall.mk [0, 1, 2, 3, 4, 5] (s_bids x hok hnd hb rx ro rc (s.ar, s.an) s.seen) ⟨rfl, rfl, rfl⟩ ?_
  rintro _ _ ⟨l, xs, o, c, rfl, rfl, hr, hL, hll⟩
  refine VCall.mk [10, 7, 0, 1, 2, 3, 4, 5, 6] (s_DeleteE h hu x hs rx ro rc l xs o c hr (by omega)) ⟨rfl, rfl, rfl⟩ ?_
  rintro _ _ ⟨d2, ws, hd2, rfl, rfl, hr2⟩
  have hd3 : d2 = l.filter (regB x) := by
    rw [hd2]; congr 1; funext y; simp
  have hd2l : d2.length ≤ 1000000 := by rw [hd3]; have := List.length_filter_le (regB x) l; omega
  refine VCall.mk [0, 1, 2, 3, 4, 5, 10] (s_best x rx ro rc d2 ws o c hr2 hd2l) ⟨rfl, rfl, rfl⟩ ?_
  rintro _ _ ⟨m, hm, rfl, rfl⟩
  rw [hd3] at hm
  cases m with
  | none =>
    refine And.intro (fun _ => ?_) (fun h => absurd h (by simp))
    exact VRet.mk [0, 1, 2, 3, 4, 5, 6] (.agg (occells zeroO)) (hoH x rx ro rc ++ [.heap h]) ⟨rfl, rfl, rfl⟩ ⟨zeroO, ⟨l, none, hL, hm, rfl⟩, rfl, rfl⟩
  | some m =>
    refine And.intro (fun h => absurd h (by simp)) (fun _ => ?_)
    refine Exists.intro (.agg (stcells ((MP.get x.bs (m.1, m.2)).getD zeroT'))) (Exists.intro _ (Exists.intro _ (And.intro (lookB x.bs (m.1, m.2)) (And.intro rfl ?_))))
    refine Exists.intro (.agg (stcells ((MP.get x.bs (m.1, m.2)).getD zeroT'))) (Exists.intro _ (Exists.intro _ (And.intro (lookB x.bs (m.1, m.2)) (And.intro rfl ?_))))
    exact VRet.mk [0, 1, 2, 3, 4, 5, 6] (.agg (occells ⟨m.1, m.2, usr x.bs m, amt x.bs m⟩)) (hoH x rx ro rc ++ [.heap h]) ⟨rfl, rfl, rfl⟩ ⟨⟨m.1, m.2, usr x.bs m, amt x.bs m⟩, ⟨l, some m, hL, hm, rfl⟩, rfl, rfl⟩
end Go.Proofs

