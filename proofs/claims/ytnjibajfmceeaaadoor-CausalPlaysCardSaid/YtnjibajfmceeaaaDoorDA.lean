/- Part of the proof that the statement named in the last file holds: lemmas of the prover's own. No conditions. -/
import Derived.Test.YtnjibajfmceeaaaDoorVD
import Derived.Test.YtnjibajfmceeaaaDoorK16
import Derived.Test.YtnjibajfmceeaaaDoorL16
import Derived.Laws.RangeAny
import Derived.Lib.RuneCount
namespace Go.Proofs
open Go Go.V
set_option maxRecDepth 100000
set_option linter.unusedVariables false
set_option linter.unusedSectionVars false
variable [V.Mode]

def isRep (n : Int) : Bool := decide (0 ≤ n ∧ n < 7)
theorem isRep_iff {n : Int} : isRep n = true ↔ 0 ≤ n ∧ n < 7 := by simp [isRep]
theorem isRep_not {n : Int} : isRep n = false ↔ ¬ (0 ≤ n ∧ n < 7) := by simp [isRep]
theorem s_vec_Rep (n : Int) : Ctr Tryd.prog F_vec_Rep [iv n] [] (fun v H => v = bv (isRep n) ∧ H = []) := by
  refine i_vec_Rep.spec follows ?_
  refine And.intro (fun h => ?_) (fun h => ?_)
  · refine VRet.mk [] (bv _) [] ⟨rfl, rfl, rfl⟩ ⟨?_, rfl⟩
    show bv _ = bv _
    have h := of_decide_eq_true h
    simp [isRep, h]
  · refine VRet.mk [] (bv _) [] ⟨rfl, rfl, rfl⟩ ⟨?_, rfl⟩
    show bv _ = bv _
    have h := of_decide_eq_false h
    simp [isRep, h]
def isDot (r n : Int) : Bool := isRep r && (decide (1 ≤ n) && decide (n ≤ 1099511627776))
theorem s_vec_Dot (r n : Int) : Ctr Tryd.prog F_vec_Dot [.agg (dcells r n)] [] (fun v H => v = bv (isDot r n) ∧ H = []) := by
  refine i_vec_Dot.spec follows ?_
  refine VCall.mk [] (s_vec_Rep _) ⟨rfl, rfl, rfl⟩ ?_
  rintro _ _ ⟨rfl, rfl⟩
  refine And.intro (fun h => ?_) (fun h => ?_)
  · refine And.intro (fun h2 => ?_) (fun h2 => ?_)
    · refine VRet.mk [] (bv _) [] ⟨rfl, rfl, rfl⟩ ⟨?_, rfl⟩
      show bv _ = bv _
      simp [isDot, h, h2]
    · refine VRet.mk [] (bv _) [] ⟨rfl, rfl, rfl⟩ ⟨?_, rfl⟩
      show bv _ = bv _
      simp [isDot, h, h2]
  · refine VRet.mk [] (bv _) [] ⟨rfl, rfl, rfl⟩ ⟨?_, rfl⟩
    show bv _ = bv _
    simp [isDot, h]
def has (v : Nat → Int) (r n : Int) : Bool := isRep r && (decide (1 ≤ n) && decide (n ≤ v r.toNat))
theorem s_vec_Has (v : Nat → Int) (r n : Int) : Ctr Tryd.prog F_vec_Has [.agg (vcells v), .agg (dcells r n)] [] (fun x H => x = bv (has v r n) ∧ H = []) := by
  refine i_vec_Has.spec follows ?_
  refine VCall.mk [] (s_vec_Rep _) ⟨rfl, rfl, rfl⟩ ?_
  rintro _ _ ⟨rfl, rfl⟩
  refine And.intro (fun h => ?_) (fun h => ?_)
  · refine And.intro (fun h2 => ?_) (fun h2 => ?_)
    · refine And.intro (isRep_iff.1 h) (Exists.intro _ (And.intro (vcells_get' v (isRep_iff.1 h) []) ?_))
      refine VRet.mk [] (bv _) [] ⟨rfl, rfl, rfl⟩ ⟨?_, rfl⟩
      show bv _ = bv _
      simp [has, h, h2]
    · refine VRet.mk [] (bv _) [] ⟨rfl, rfl, rfl⟩ ⟨?_, rfl⟩
      show bv _ = bv _
      simp [has, h, h2]
  · refine VRet.mk [] (bv _) [] ⟨rfl, rfl, rfl⟩ ⟨?_, rfl⟩
    show bv _ = bv _
    simp [has, h]
abbrev encD (d : Int × Int) : Value := .agg #[.int .i64 d.1, .int .i64 d.2]
theorem keyT_Dot {mt et : TypeId} (h : Tryd.prog.underlying mt = some (.map T_api_Dot et)) : KeyT Tryd.prog mt et encD where
  ex := by
    have h1 : clsT Tryd.prog 2 T_api_Dot = some [.i, .i] := by kernel_rfl
    have h2 : isAggT Tryd.prog T_api_Dot = some true := by kernel_rfl
    refine ⟨T_api_Dot, 2, _, h, by omega, by omega, h1, fun a => ⟨[.int .i64 a.1, .int .i64 a.2], by simp [mkV, h2], rfl, fun b ys hb hl => ?_⟩⟩
    have : ys = [.int .i64 b.1, .int .i64 b.2] := by
      simp only [mkV, h2, if_true] at hb
      injection hb with hb
      have := congrArg Array.toList hb
      simpa using this.symm
    subst this
    refine ⟨decide (a.1 = b.1) && decide (a.2 = b.2), by simp [eqV, eq1V], ?_⟩
    simp [Prod.ext_iff]
  bits := fun a => by simp [Instr.sameBits]
theorem s_isNaN_int (n : Int) : Ctr Tryd.prog F_cmp_isNaN_int [iv n] [] (fun v H => v = bv false ∧ H = []) := by
  refine i_cmp_isNaN_int.spec follows ?_
  refine VRet.mk [] (bv _) [] ⟨rfl, rfl, rfl⟩ ⟨?_, rfl⟩
  show bv _ = bv _
  simp
theorem s_isNaN_int64 (n : Int) : Ctr Tryd.prog F_cmp_isNaN_int64 [iv n] [] (fun v H => v = bv false ∧ H = []) := by
  refine i_cmp_isNaN_int64.spec follows ?_
  refine VRet.mk [] (bv _) [] ⟨rfl, rfl, rfl⟩ ⟨?_, rfl⟩
  show bv _ = bv _
  simp
def cmpI (a b : Int) : Int := if a < b then -1 else if b < a then 1 else 0
theorem s_Compare_int (a b : Int) : Ctr Tryd.prog F_cmp_Compare_int [iv a, iv b] [] (fun v H => v = iv (cmpI a b) ∧ H = []) := by
  refine i_cmp_Compare_int.spec follows ?_
  refine VCall.mk [] (s_isNaN_int a) ⟨rfl, rfl, rfl⟩ ?_
  rintro _ _ ⟨rfl, rfl⟩
  refine VCall.mk [] (s_isNaN_int b) ⟨rfl, rfl, rfl⟩ ?_
  rintro _ _ ⟨rfl, rfl⟩
  refine And.intro (fun h => Bool.noConfusion h) (fun _ => ?_)
  refine And.intro (fun h => Bool.noConfusion h) (fun _ => ?_)
  refine And.intro (fun h => ?_) (fun h => ?_)
  · refine VRet.mk [] (iv _) [] ⟨rfl, rfl, rfl⟩ ⟨?_, rfl⟩
    show iv _ = iv _
    have h := of_decide_eq_true h
    simp [cmpI, h]
  have h := of_decide_eq_false h
  refine And.intro (fun h2 => ?_) (fun h2 => ?_)
  · refine VRet.mk [] (iv _) [] ⟨rfl, rfl, rfl⟩ ⟨?_, rfl⟩
    show iv _ = iv _
    have h2 := of_decide_eq_true h2
    simp [cmpI, h, h2]
  · refine VRet.mk [] (iv _) [] ⟨rfl, rfl, rfl⟩ ⟨?_, rfl⟩
    show iv _ = iv _
    have h2 := of_decide_eq_false h2
    simp [cmpI, h, h2]
theorem s_Compare_int64 (a b : Int) : Ctr Tryd.prog F_cmp_Compare_int64 [iv a, iv b] [] (fun v H => v = iv (cmpI a b) ∧ H = []) := by
  refine i_cmp_Compare_int64.spec follows ?_
  refine VCall.mk [] (s_isNaN_int64 a) ⟨rfl, rfl, rfl⟩ ?_
  rintro _ _ ⟨rfl, rfl⟩
  refine VCall.mk [] (s_isNaN_int64 b) ⟨rfl, rfl, rfl⟩ ?_
  rintro _ _ ⟨rfl, rfl⟩
  refine And.intro (fun h => Bool.noConfusion h) (fun _ => ?_)
  refine And.intro (fun h => Bool.noConfusion h) (fun _ => ?_)
  refine And.intro (fun h => ?_) (fun h => ?_)
  · refine VRet.mk [] (iv _) [] ⟨rfl, rfl, rfl⟩ ⟨?_, rfl⟩
    show iv _ = iv _
    have h := of_decide_eq_true h
    simp [cmpI, h]
  have h := of_decide_eq_false h
  refine And.intro (fun h2 => ?_) (fun h2 => ?_)
  · refine VRet.mk [] (iv _) [] ⟨rfl, rfl, rfl⟩ ⟨?_, rfl⟩
    show iv _ = iv _
    have h2 := of_decide_eq_true h2
    simp [cmpI, h, h2]
  · refine VRet.mk [] (iv _) [] ⟨rfl, rfl, rfl⟩ ⟨?_, rfl⟩
    show iv _ = iv _
    have h2 := of_decide_eq_false h2
    simp [cmpI, h, h2]
def orI : List Int → Int
  | [] => 0
  | x :: l => if x ≠ 0 then x else orI l
theorem s_Or_int (l : List Int) (c : Nat) (hl : l.length < 1000000) : Ctr Tryd.prog F_cmp_Or_int [.sl 0 0 l.length c] [.arr (l.map (.int .i64)) T_int] (fun v H => v = iv (orI l) ∧ H = [.arr (l.map (.int .i64)) T_int]) := by
  refine i_cmp_Or_int.spec follows ?_
  refine VLoop.mk Nat (fun i => [(0, .sl 0 0 l.length c), (3, iv 0), (6, .sl 0 0 l.length c), (7, iv l.length), (8, iv i)]) (fun i => [.arr (l.map (.int .i64)) T_int])
    (fun i => i ≤ l.length ∧ orI l = orI (l.drop i)) (fun i => l.length - i) 0 [0] ⟨⟨Nat.zero_le _, rfl⟩, rfl, rfl, rfl⟩ ?_
  rintro i ⟨hi, ho⟩ g
  refine And.intro (fun h => ?_) (fun h => ?_)
  · have h := of_decide_eq_true h
    have hil : i < l.length := by omega
    have hg : (l.map (Value.int .i64))[0 + (i : Int).toNat * 1]? = some (.int .i64 l[i]) := by simp [hil]
    have hd : l.drop i = l[i] :: l.drop (i + 1) := (List.drop_eq_getElem_cons hil)
    have hw : IntKind.i64.wrap ((i : Int) + 1) = ((i + 1 : Nat) : Int) := wrap64 (by have := hl; omega)
    refine And.intro ⟨Int.natCast_nonneg i, h, by simp⟩ (Exists.intro _ (And.intro hg ?_))
    refine And.intro (fun h2 => ?_) (fun h2 => ?_)
    · refine VRet.mk [0] (iv _) [.arr (l.map (.int .i64)) T_int] ⟨rfl, rfl, rfl⟩ ⟨?_, rfl⟩
      show iv _ = iv _
      have h2 : l[i] ≠ 0 := by simpa using h2
      rw [ho, hd]; simp [orI, h2]
    · refine Exists.intro _ (And.intro hw ?_)
      refine Exists.intro (i + 1) (Exists.intro [0] (And.intro ⟨⟨hil, ?_⟩, by omega⟩ ⟨rfl, rfl, rfl⟩))
      have h2 : l[i] = 0 := by simpa using h2
      rw [ho, hd]; simp [orI, h2]
  · have h := of_decide_eq_false h
    refine VRet.mk [0] (iv _) [.arr (l.map (.int .i64)) T_int] ⟨rfl, rfl, rfl⟩ ⟨?_, rfl⟩
    show iv _ = iv _
    rw [ho, List.drop_eq_nil_of_le (by omega)]; rfl
def cmpD (x y : Int × Int) : Int := orI [cmpI x.1 y.1, cmpI x.2 y.2]
theorem s_dots_Order (a b c d : Int) : Ctr Tryd.prog F_dots_Order [.agg (dcells a b), .agg (dcells c d)] [] (fun v H => v = iv (cmpD (a, b) (c, d)) ∧ H = []) := by
  refine i_dots_Order.spec follows ?_
  refine VCall.mk [] (s_Compare_int a c) ⟨rfl, rfl, rfl⟩ ?_
  rintro _ _ ⟨rfl, rfl⟩
  refine And.intro rfl (And.intro rfl ?_)
  refine VCall.mk [] (s_Compare_int64 b d) ⟨rfl, rfl, rfl⟩ ?_
  rintro _ _ ⟨rfl, rfl⟩
  refine VCall.mk [2] (s_Or_int [cmpI a c, cmpI b d] 2 (by simp)) ⟨rfl, rfl, rfl⟩ ?_
  rintro _ _ ⟨rfl, rfl⟩
  exact VRet.mk [] (iv _) [] ⟨rfl, rfl, rfl⟩ ⟨rfl, rfl⟩
end Go.Proofs

namespace Go.Proofs
open Go Go.V
set_option maxRecDepth 100000
set_option linter.unusedVariables false
set_option linter.unusedSectionVars false
variable [V.Mode]

def leB (v w : Nat → Int) : Bool := (List.range 7).all fun i => decide (v i ≤ w i)
theorem leB_iff {v w : Nat → Int} : leB v w = true ↔ ∀ i, i < 7 → v i ≤ w i := by simp [leB]
theorem s_vec_Le (v w : Nat → Int) : Ctr Tryd.prog F_vec_Le [.agg (vcells v), .agg (vcells w)] [] (fun x H => x = bv (leB v w) ∧ H = []) := by
  refine i_vec_Le.spec follows ?_
  refine VLoop.mk Nat (fun i => [(2, .ptr 0 0), (3, .ptr 1 0), (6, iv i)]) (fun i => [.cells (vcells v) T_vec_Vec, .cells (vcells w) T_vec_Vec]) (fun i => i ≤ 7 ∧ ∀ j, j < i → v j ≤ w j) (fun i => 7 - i) 0 [0, 1]
    ⟨⟨by omega, fun j hj => by omega⟩, rfl, rfl, rfl⟩ ?_
  rintro i ⟨hi, hd⟩ g
  refine And.intro (fun h => ?_) (fun h => ?_)
  · have h := of_decide_eq_true h
    have hi7 : 0 ≤ (i : Int) ∧ (i : Int) < 7 := ⟨by omega, h⟩
    have hw : IntKind.i64.wrap ((i : Int) + 1) = ((i + 1 : Nat) : Int) := wrap64 (by omega)
    refine And.intro hi7 (Exists.intro _ (And.intro (vcells_get' v hi7 []) ?_))
    refine And.intro hi7 (Exists.intro _ (And.intro (vcells_get' w hi7 []) ?_))
    refine And.intro (fun h2 => ?_) (fun h2 => ?_)
    · have h2 := of_decide_eq_true h2
      refine VRet.mk [] (bv false) [] ⟨rfl, rfl, rfl⟩ ⟨?_, rfl⟩
      have : leB v w = false := by
        rw [Bool.eq_false_iff, Ne, leB_iff]
        intro hh
        have := hh i (by omega)
        rw [Int.toNat_natCast] at h2
        omega
      rw [this]
    · have h2 := of_decide_eq_false h2
      refine Exists.intro _ (And.intro hw ?_)
      refine Exists.intro (i + 1) (Exists.intro [0, 1] (And.intro ⟨⟨by omega, fun j hj => ?_⟩, by omega⟩ ⟨rfl, rfl, rfl⟩))
      rw [Int.toNat_natCast] at h2
      by_cases e : j = i
      · subst e; omega
      · exact hd j (by omega)
  · have h := of_decide_eq_false h
    have h7 : i = 7 := by omega
    subst h7
    refine VRet.mk [] (bv true) [] ⟨rfl, rfl, rfl⟩ ⟨?_, rfl⟩
    rw [leB_iff.2 hd]


def vgoodB (v : Nat → Int) : Bool := (List.range 7).all fun i => decide (0 ≤ v i) && decide (v i ≤ 1099511627776)
theorem vgoodB_iff {v : Nat → Int} : vgoodB v = true ↔ ∀ i, i < 7 → 0 ≤ v i ∧ v i ≤ 1099511627776 := by simp [vgoodB]
theorem vcells_getA (v : Nat → Int) {n : Int} (h : 0 ≤ n ∧ n < 7) : (vcells v)[n.toNat * 1]? = some (iv (v n.toNat)) := by
  have := vcells_get' v h []
  simpa using this
theorem s_vec_Good (v : Nat → Int) : Ctr Tryd.prog F_vec_Good [.agg (vcells v)] [] (fun x H => x = bv (vgoodB v) ∧ H = []) := by
  refine i_vec_Good.spec follows ?_
  refine VLoop.mk Nat (fun i => [(5, .agg (vcells v)), (6, iv i)]) (fun i => []) (fun i => i ≤ 7 ∧ ∀ j, j < i → 0 ≤ v j ∧ v j ≤ 1099511627776) (fun i => 7 - i) 0 []
    ⟨⟨by omega, fun j hj => by omega⟩, rfl, rfl, rfl⟩ ?_
  rintro i ⟨hi, hd⟩ g
  have bad : ∀ k, k < 7 → ¬ (0 ≤ v k ∧ v k ≤ 1099511627776) → vgoodB v = false := by
    intro k hk hn
    rw [Bool.eq_false_iff, Ne, vgoodB_iff]
    exact fun hh => hn (hh k hk)
  refine And.intro (fun h => ?_) (fun h => ?_)
  · have h := of_decide_eq_true h
    have hi7 : 0 ≤ (i : Int) ∧ (i : Int) < 7 := ⟨by omega, h⟩
    have hw : IntKind.i64.wrap ((i : Int) + 1) = ((i + 1 : Nat) : Int) := wrap64 (by omega)
    refine And.intro hi7 (Exists.intro _ (And.intro (vcells_getA v hi7) ?_))
    refine And.intro (fun h1 => ?_) (fun h1 => ?_)
    · have h1 := of_decide_eq_false h1
      refine And.intro (fun h2 => ?_) (fun h2 => ?_)
      · have h2 := of_decide_eq_true h2
        refine VRet.mk [] (bv false) [] ⟨rfl, rfl, rfl⟩ ⟨?_, rfl⟩
        rw [Int.toNat_natCast] at h2
        rw [bad i (by omega) (by omega)]
      · have h2 := of_decide_eq_false h2
        refine Exists.intro _ (And.intro hw ?_)
        refine Exists.intro (i + 1) (Exists.intro [] (And.intro ⟨⟨by omega, fun j hj => ?_⟩, by omega⟩ ⟨rfl, rfl, rfl⟩))
        by_cases hji : j = i
        · subst hji; rw [Int.toNat_natCast] at h1 h2; omega
        · exact hd j (by omega)
    · have h1 := of_decide_eq_true h1
      refine VRet.mk [] (bv false) [] ⟨rfl, rfl, rfl⟩ ⟨?_, rfl⟩
      rw [Int.toNat_natCast] at h1
      rw [bad i (by omega) (by omega)]
  · have h := of_decide_eq_false h
    have h7 : i = 7 := by omega
    subst h7
    refine VRet.mk [] (bv true) [] ⟨rfl, rfl, rfl⟩ ⟨?_, rfl⟩
    rw [vgoodB_iff.2 hd]
/-- A shadow. -/
structure SH where
  rep : Int
  n : Int
  seen : Nat → Int
  kind : Int
  key : ByteArray
  text : ByteArray
  by' : Int
  time : Int
abbrev shcells (s : SH) : List SV := [iv s.rep, iv s.n, iv (s.seen 0), iv (s.seen 1), iv (s.seen 2), iv (s.seen 3), iv (s.seen 4), iv (s.seen 5), iv (s.seen 6), iv s.kind, .raw (.string s.key), .raw (.string s.text), iv s.by', iv s.time]
def zeroS : SH := ⟨0, 0, fun _ => 0, 0, ByteArray.mk #[], ByteArray.mk #[], 0, 0⟩
def readyB (s : SH) (v : Nat → Int) : Bool := !has v s.rep s.n && leB s.seen v
theorem s_shadow_Ready (s : SH) (v : Nat → Int) : Ctr Tryd.prog F_shadow_Ready [.agg (shcells s), .agg (vcells v)] [] (fun x H => x = bv (readyB s v) ∧ H = []) := by
  refine i_shadow_Ready.spec follows ?_
  refine VCall.mk [] (s_vec_Has v s.rep s.n) ⟨rfl, rfl, rfl⟩ ?_
  rintro _ _ ⟨rfl, rfl⟩
  refine And.intro (fun h => ?_) (fun h => ?_)
  · refine VCall.mk [] (s_vec_Le s.seen v) ⟨rfl, rfl, rfl⟩ ?_
    rintro _ _ ⟨rfl, rfl⟩
    refine VRet.mk [] (bv _) [] ⟨rfl, rfl, rfl⟩ ⟨?_, rfl⟩
    have h : has v s.rep s.n = false := by simpa using h
    show bv _ = bv _
    rw [readyB, h]; rfl
  · refine VRet.mk [] (bv _) [] ⟨rfl, rfl, rfl⟩ ⟨?_, rfl⟩
    have h : has v s.rep s.n = true := by simpa using h
    show bv _ = bv _
    rw [readyB, h]; rfl
end Go.Proofs

namespace Go.Proofs
open Go Go.V Go.Lib
set_option maxRecDepth 100000
set_option linter.unusedVariables false
set_option linter.unusedSectionVars false

/-- From here on contracts do not count draws. -/
instance laxHere : V.Mode := laxM
abbrev Uni (h : Nat → Option Obj) : Prop := UniH Tryd.prog (Tryd.laysLetter_ren.g 8) (Tryd.laysDigit_ren.g 5) h
theorem s_IsLetter (h : Nat → Option Obj) (hu : Uni h) (r : Int) (hr : -2147483648 ≤ r ∧ r ≤ 2147483647) :
    Ctr Tryd.prog F_unicode_IsLetter [.raw (.int .i32 r)] [.heap h] (fun x H => x = bv (isLetterU r) ∧ H = [.heap h]) :=
  letter_ctr rfl Tryd.laysLetter (by kernel_rfl) hu r hr
theorem s_IsDigit (h : Nat → Option Obj) (hu : Uni h) (r : Int) (hr : -2147483648 ≤ r ∧ r ≤ 2147483647) :
    Ctr Tryd.prog F_unicode_IsDigit [.raw (.int .i32 r)] [.heap h] (fun x H => x = bv (isDigitU r) ∧ H = [.heap h]) :=
  digit_ctr rfl Tryd.laysDigit hu r hr
def otherB (r : Int) (first : Bool) : Bool := isLetterU r || (!first && (isDigitU r || decide (r = 45)))
theorem s_name_other (h : Nat → Option Obj) (hu : Uni h) (r : Int) (hr : -2147483648 ≤ r ∧ r ≤ 2147483647) (first : Bool) :
    Ctr Tryd.prog F_name_other [.raw (.int .i32 r), bv first] [.heap h] (fun x H => x = bv (otherB r first) ∧ H = [.heap h]) := by
  have fin : ∀ b : Bool, otherB r first = b → VRet 1 (bv b) [.heap h] (fun x H => x = bv (otherB r first) ∧ H = [.heap h]) := by
    intro b hb
    exact VRet.mk [0] (bv b) [.heap h] ⟨rfl, rfl, rfl⟩ ⟨by rw [hb], rfl⟩
  refine i_name_other.spec follows ?_
  refine VCall.mk [0] (s_IsLetter h hu r hr) ⟨rfl, rfl, rfl⟩ ?_
  rintro _ _ ⟨rfl, rfl⟩
  refine And.intro (fun h1 => ?_) (fun h1 => fin _ (by simp [otherB, h1]))
  refine And.intro (fun h2 => ?_) (fun h2 => fin _ (by simp at h2; simp [otherB, h1, h2]))
  have h2 : first = false := by simpa using h2
  refine VCall.mk [0] (s_IsDigit h hu r hr) ⟨rfl, rfl, rfl⟩ ?_
  rintro _ _ ⟨rfl, rfl⟩
  refine And.intro (fun h3 => ?_) (fun h3 => fin _ (by simp [otherB, h1, h2, h3]))
  refine fin _ ?_
  simp [otherB, h1, h2, h3]
/-- How many runes there are from a place on, if all may stand in a name. -/
def runesFrom (s : ByteArray) : Nat → Nat → Option Nat
  | 0, _ => some 0
  | f + 1, p => if p < s.size then (if otherB ((Utf8.decode s p).1 : Int) (decide ((p : Int) = 0)) then (runesFrom s f (p + (Utf8.decode s p).2)).map (· + 1) else none) else some 0
def goodName (s : ByteArray) : Bool := match runesFrom s (s.size + 1) 0 with
  | some n => decide ((n : Int) ≥ 1) && decide ((n : Int) ≤ 20)
  | none => false
structure NX where
  p : Nat
  n : Nat
theorem runesFrom_step {s : ByteArray} {f p : Nat} (hp : p < s.size) : runesFrom s (f + 1) p = (if otherB ((Utf8.decode s p).1 : Int) (decide ((p : Int) = 0)) then (runesFrom s f (p + (Utf8.decode s p).2)).map (· + 1) else none) := by
  rw [runesFrom, if_pos hp]
theorem s_name_Good (h : Nat → Option Obj) (hu : Uni h) (s : ByteArray) (hs : s.size ≤ 4611686018427387904) :
    Ctr Tryd.prog F_name_Good [.raw (.string s)] [.heap h] (fun x H => x = bv (goodName s) ∧ H = [.heap h]) := by
  refine i_name_Good.spec follows ?_
  refine VLoop.mk NX (fun x => [(3, iv x.n), (7, .ptr 1 0)]) (fun x => [.heap h, .siter s x.p])
    (fun x => x.n ≤ x.p ∧ (x.p < s.size ∨ x.n ≤ s.size) ∧ runesFrom s (s.size + 1) 0 = (runesFrom s (s.size + 1 - x.n) x.p).map (· + x.n)) (fun x => s.size - x.p) ⟨0, 0⟩ [0, 1]
    ⟨⟨Nat.le_refl _, .inr (Nat.zero_le _), by simp⟩, rfl, rfl, rfl⟩ ?_
  rintro ⟨p, n⟩ ⟨hnp, hn, hr⟩ g
  simp only at hnp hn hr
  refine And.intro (fun hp c wd hd => ?_) (fun hp => ?_)
  · simp only at hp hd
    have hc : c ≤ 2147483647 := by have := decide_eq_true (decode_le s p); rw [hd] at this; exact of_decide_eq_true this
    have hw1 : 1 ≤ wd := by have := decode_width_pos s p hp; rw [hd] at this; exact this
    refine VCall.mk [0] (s_name_other h hu (c : Int) (by omega) (decide ((p : Int) = 0))) ⟨rfl, rfl, rfl⟩ ?_
    rintro _ _ ⟨rfl, rfl⟩
    have hf : s.size + 1 - n = (s.size - n) + 1 := by omega
    rw [hf, runesFrom_step hp, hd] at hr
    refine And.intro (fun h1 => ?_) (fun h1 => ?_)
    · have h1 : otherB (c : Int) (decide ((p : Int) = 0)) = false := by simpa using h1
      refine VRet.mk [0] (bv false) [.heap h] ⟨rfl, rfl, rfl⟩ ⟨?_, rfl⟩
      rw [goodName, hr, h1]; rfl
    · have h1 : otherB (c : Int) (decide ((p : Int) = 0)) = true := by simpa using h1
      have hw : IntKind.i64.wrap ((n : Int) + 1) = ((n + 1 : Nat) : Int) := wrap64 (by omega)
      refine Exists.intro _ (And.intro hw ?_)
      refine Exists.intro ⟨p + wd, n + 1⟩ (Exists.intro [0, 1] (And.intro ⟨⟨by simp only; omega, .inr (by simp only; omega), ?_⟩, by simp only; omega⟩ ⟨rfl, rfl, rfl⟩))
      simp only
      rw [hr, h1, show s.size + 1 - (n + 1) = s.size - n by omega]
      simp only [if_true, Option.map_map]
      congr 1
      funext k
      simp only [Function.comp_apply]; omega
  · simp only at hp
    have he : runesFrom s (s.size + 1) 0 = some n := by
      rw [hr]
      have : runesFrom s (s.size + 1 - n) p = some 0 := by
        cases hk : s.size + 1 - n with
        | zero => rfl
        | succ k => rw [runesFrom, if_neg hp]
      rw [this]; simp
    have hg : goodName s = (decide ((n : Int) ≥ 1) && decide ((n : Int) ≤ 20)) := by rw [goodName, he]
    refine And.intro (fun h1 => ?_) (fun h1 => ?_)
    · refine VRet.mk [0] (bv (decide ((n : Int) ≤ 20))) [.heap h] ⟨rfl, rfl, rfl⟩ ⟨?_, rfl⟩
      rw [hg]; have h1 := of_decide_eq_true h1; simp [h1]
    · refine VRet.mk [0] (bv false) [.heap h] ⟨rfl, rfl, rfl⟩ ⟨?_, rfl⟩
      rw [hg]; have h1 := of_decide_eq_false h1; simp [h1]
end Go.Proofs

namespace Go.Proofs
open Go Go.V Go.Lib
set_option maxRecDepth 100000
set_option linter.unusedVariables false

def kindB (s : SH) : Bool :=
  bif decide (s.kind = 1) || decide (s.kind = 2) then decide (s.by' = 0) && decide (s.time = 0) else
  bif decide (s.kind = 3) then (s.text.toList == (ByteArray.mk #[]).toList) && decide (s.time = 0) else
  bif decide (s.kind = 4) then decide (s.by' = 0) else false
def goodS (s : SH) : Bool := isDot s.rep s.n && (vgoodB s.seen && (decide (s.seen s.rep.toNat = s.n - 1) && (goodName s.key && (!decide ((s.text.size : Int) > 100) && (!(decide (s.by' < -1099511627776) || (decide (s.by' > 1099511627776) || (decide (s.time < 0) || decide (s.time > 1099511627776)))) && kindB s)))))
theorem shcells_seen (s : SH) {n : Int} (h : 0 ≤ n ∧ n < 7) : (shcells s)[0 + 2 + n.toNat * 1]? = some (iv (s.seen n.toNat)) := by
  have h7 : n.toNat < 7 := by omega
  generalize n.toNat = k at h7
  match k, h7 with
  | 0, _ => rfl | 1, _ => rfl | 2, _ => rfl | 3, _ => rfl | 4, _ => rfl | 5, _ => rfl | 6, _ => rfl
theorem s_shadow_Good (h : Nat → Option Obj) (hu : Uni h) (s : SH) (hs : s.key.size ≤ 4611686018427387904) :
    Ctr Tryd.prog F_shadow_Good [.agg (shcells s)] [.heap h] (fun x H => x = bv (goodS s) ∧ H = [.heap h]) := by
  have bad : goodS s = false → (fun (x : SV) (H : List SO) => x = bv (goodS s) ∧ H = [SO.heap h]) (bv false) [.heap h] := fun hb => ⟨by rw [hb], rfl⟩
  have fin : ∀ b : Bool, goodS s = b → (fun (x : SV) (H : List SO) => x = bv (goodS s) ∧ H = [SO.heap h]) (bv b) [.heap h] := fun b hb => ⟨by rw [hb], rfl⟩
  have b1 : (!isDot s.rep s.n) = !false → goodS s = false := fun k => by have k : isDot s.rep s.n = false := by simpa using k
                                                                         simp [goodS, k]
  have b2 : (!vgoodB s.seen) = !false → goodS s = false := fun k => by have k : vgoodB s.seen = false := by simpa using k
                                                                       simp [goodS, k]
  have b4 : (!goodName s.key) = !false → goodS s = false := fun k => by have k : goodName s.key = false := by simpa using k
                                                                        simp [goodS, k]
  refine i_shadow_Good.spec follows ?_
  refine VCall.mk [] (s_vec_Dot s.rep s.n) ⟨rfl, rfl, rfl⟩ ?_
  rintro _ _ ⟨rfl, rfl⟩
  refine And.intro (fun k1 => ?_) (fun k1 => VRet.mk [0] (bv false) [.heap h] ⟨rfl, rfl, rfl⟩ (bad (b1 k1)))
  have k1 : isDot s.rep s.n = true := by simpa using k1
  refine VCall.mk [] (s_vec_Good s.seen) ⟨rfl, rfl, rfl⟩ ?_
  rintro _ _ ⟨rfl, rfl⟩
  refine And.intro (fun k2 => ?_) (fun k2 => VRet.mk [0] (bv false) [.heap h] ⟨rfl, rfl, rfl⟩ (bad (b2 k2)))
  have k2 : vgoodB s.seen = true := by simpa using k2
  have hdot : (0 ≤ s.rep ∧ s.rep < 7) ∧ 1 ≤ s.n ∧ s.n ≤ 1099511627776 := by
    simp only [isDot, isRep, Bool.and_eq_true, decide_eq_true_eq] at k1; omega
  have hw : IntKind.i64.wrap (s.n - 1) = s.n - 1 := wrap64 (by omega)
  have b3 : s.seen s.rep.toNat ≠ s.n - 1 → goodS s = false := fun k => by simp [goodS, k]
  refine And.intro hdot.1 (Exists.intro _ (And.intro (shcells_seen s hdot.1) ?_))
  refine Exists.intro _ (And.intro hw ?_)
  refine And.intro (fun k3 => ?_) (fun k3 => VRet.mk [0] (bv false) [.heap h] ⟨rfl, rfl, rfl⟩ (bad (b3 (by simpa using k3))))
  have k3 : s.seen s.rep.toNat = s.n - 1 := by simpa using k3
  refine VCall.mk [0] (s_name_Good h hu s.key hs) ⟨rfl, rfl, rfl⟩ ?_
  rintro _ _ ⟨rfl, rfl⟩
  refine And.intro (fun k4 => ?_) (fun k4 => VRet.mk [0] (bv false) [.heap h] ⟨rfl, rfl, rfl⟩ (bad (b4 k4)))
  have k4 : goodName s.key = true := by simpa using k4
  have b5 : decide ((s.text.size : Int) > 100) = true → goodS s = false := fun k => by simp only [goodS, k]; simp
  refine And.intro (fun k5 => VRet.mk [0] (bv false) [.heap h] ⟨rfl, rfl, rfl⟩ (bad (b5 k5))) (fun k5 => ?_)
  have k5 : decide ((s.text.size : Int) > 100) = false := k5
  have b6 : ∀ x, (decide (s.by' < -1099511627776) || (decide (s.by' > 1099511627776) || (decide (s.time < 0) || decide (s.time > 1099511627776)))) = x → x = true → goodS s = false := fun x hx k => by
    subst k; simp only [goodS, hx]; simp
  refine And.intro (fun k6 => ?_) (fun k6 => VRet.mk [0] (bv false) [.heap h] ⟨rfl, rfl, rfl⟩ (bad (b6 true (by simp only [k6]; simp) rfl)))
  refine And.intro (fun k7 => ?_) (fun k7 => VRet.mk [0] (bv false) [.heap h] ⟨rfl, rfl, rfl⟩ (bad (b6 true (by simp only [k7]; simp) rfl)))
  refine And.intro (fun k8 => ?_) (fun k8 => VRet.mk [0] (bv false) [.heap h] ⟨rfl, rfl, rfl⟩ (bad (b6 true (by simp only [k8]; simp) rfl)))
  refine And.intro (fun k9 => VRet.mk [0] (bv false) [.heap h] ⟨rfl, rfl, rfl⟩ (bad (b6 true (by simp only [k9]; simp) rfl))) (fun k9 => ?_)
  have hk : goodS s = kindB s := by
    simp only [goodS, k1, k2, k4, k5, decide_eq_true k3]
    rw [show (decide (s.by' < -1099511627776) || (decide (s.by' > 1099511627776) || (decide (s.time < 0) || decide (s.time > 1099511627776)))) = false by
      rw [show decide (s.by' < -1099511627776) = false from k6, show decide (s.by' > 1099511627776) = false from k7, show decide (s.time < 0) = false from k8, show decide (s.time > 1099511627776) = false from k9]; rfl]
    simp
  refine And.intro (fun q1 => ?_) (fun q1 => ?_)
  · refine And.intro (fun _ => ?_) (fun h => absurd (q1.symm.trans h) (by simp))
    refine And.intro (fun q2 => ?_) (fun q2 => ?_) <;>
    · refine VRet.mk [0] (bv _) [.heap h] ⟨rfl, rfl, rfl⟩ (fin _ ?_)
      rw [hk]; simp [kindB, q1, q2]
  refine And.intro (fun q2 => ?_) (fun q2 => ?_)
  · refine And.intro (fun q3 => ?_) (fun q3 => ?_) <;>
    · refine VRet.mk [0] (bv _) [.heap h] ⟨rfl, rfl, rfl⟩ (fin _ ?_)
      rw [hk]; simp [kindB, q1, q2, q3]
  refine And.intro (fun q3 => ?_) (fun q3 => ?_)
  · refine And.intro (fun q4 => ?_) (fun q4 => ?_)
    · refine VRet.mk [0] (bv _) [.heap h] ⟨rfl, rfl, rfl⟩ (fin _ ?_)
      have q4 : (s.text.toList == (ByteArray.mk #[]).toList) = true := q4
      rw [hk, kindB, q1, q2, q3, q4]; rfl
    · refine VRet.mk [0] (bv _) [.heap h] ⟨rfl, rfl, rfl⟩ (fin _ ?_)
      have q4 : (s.text.toList == (ByteArray.mk #[]).toList) = false := q4
      rw [hk, kindB, q1, q2, q3, q4]; rfl
  refine And.intro (fun q4 => ?_) (fun q4 => ?_) <;>
  · refine VRet.mk [0] (bv _) [.heap h] ⟨rfl, rfl, rfl⟩ (fin _ ?_)
    rw [hk]; simp [kindB, q1, q2, q3, q4]
end Go.Proofs

namespace Go.Proofs
open Go Go.V Go.Lib
set_option maxRecDepth 100000
set_option linter.unusedVariables false

abbrev shcl (s : SH) : List Value := [.int .i64 s.rep, .int .i64 s.n, .int .i64 (s.seen 0), .int .i64 (s.seen 1), .int .i64 (s.seen 2), .int .i64 (s.seen 3), .int .i64 (s.seen 4), .int .i64 (s.seen 5), .int .i64 (s.seen 6), .int .i64 s.kind, .string s.key, .string s.text, .int .i64 s.by', .int .i64 s.time]
def encS (s : SH) : Value := .agg (shcl s).toArray
abbrev SM := List ((Int × Int) × SH × Nat)
abbrev smap (ms : SM) (c : Nat) : SO := .map (ents encD encS ms) c
theorem kS : KeyT Tryd.prog T_map_api_Dot_shadow_Shadow T_shadow_Shadow encD := keyT_Dot (by kernel_rfl)
theorem lookS (ms : SM) (d : Int × Int) : LookupIs Tryd.prog T_map_api_Dot_shadow_Shadow (ents encD encS ms) (encD d) (encS ((MP.get ms d).getD zeroS)) ((MP.get ms d).isSome) := by
  have := lookup_is (encv := encS) kS (z := encS zeroS) (by kernel_rfl) ms d
  cases h : MP.get ms d <;> rw [h] at this <;> exact this
theorem s_New : Ctr Tryd.prog F_causal_New [] [] (fun x H => x = .ptr 0 0 ∧ H = [.cells (vcells (fun _ => 0) ++ [.mp 1, .sl 2 0 0 0]) T_causal_Buffer, smap [] 0, .arr [] T_shadow_Shadow]) := by
  refine i_causal_New.spec follows ?_
  refine VRet.nil T_shadow_Shadow [] [(1, 8)] ⟨rfl, rfl⟩ ?_
  exact VRet.mk [1, 0, 2] (.ptr 0 0) [.cells (vcells (fun _ => 0) ++ [.mp 1, .sl 2 0 0 0]) T_causal_Buffer, smap [] 0, .arr [] T_shadow_Shadow] ⟨rfl, rfl, rfl⟩ ⟨rfl, rfl⟩
abbrev bcells (v : Nat → Int) (o n c : Nat) : List SV := vcells v ++ [.mp 1, .sl 2 o n c]
abbrev bufH (v : Nat → Int) (ms : SM) (c : Nat) (ys : List Value) (o n cp : Nat) : List SO := [.cells (bcells v o n cp) T_causal_Buffer, smap ms c, .arr ys T_shadow_Shadow]
/-- The held one that is given out next, from a replica on. -/
def nextFrom (v : Nat → Int) (ms : SM) : Nat → Nat → Option SH
  | 0, _ => none
  | f + 1, i => match MP.get ms ((i : Int), v i + 1) with
    | some s => if readyB s v then some s else nextFrom v ms f (i + 1)
    | none => nextFrom v ms f (i + 1)
def nextS (v : Nat → Int) (ms : SM) : Option SH := nextFrom v ms 7 0
def nextR (v : Nat → Int) (ms : SM) : SV := match nextS v ms with
  | some s => .tup [.agg (shcells s), bv true]
  | none => .tup [.agg (shcells zeroS), bv false]
theorem s_next (v : Nat → Int) (ms : SM) (c : Nat) (ys : List Value) (o n cp : Nat) (hv : ∀ i, i < 7 → 0 ≤ v i ∧ v i ≤ 1099511627776) :
    Ctr Tryd.prog F_causal_Buffer_next [.ptr 0 0] (bufH v ms c ys o n cp) (fun x H => x = nextR v ms ∧ H = bufH v ms c ys o n cp) := by
  refine i_causal_Buffer_next.spec follows ?_
  refine VLoop.mk Nat (fun i => [(0, .ptr 0 0), (2, .ptr 3 0), (7, iv i)]) (fun i => bufH v ms c ys o n cp ++ [.cells (shcells zeroS) T_shadow_Shadow])
    (fun i => i ≤ 7 ∧ nextS v ms = nextFrom v ms (7 - i) i) (fun i => 7 - i) 0 [0, 1, 2, 3] ⟨⟨by omega, rfl⟩, rfl, rfl, rfl⟩ ?_
  rintro i ⟨hi, hn⟩ g
  refine And.intro (fun h => ?_) (fun h => ?_)
  rotate_left 1
  · have h := of_decide_eq_false h
    have h7 : i = 7 := by omega
    subst h7
    refine VRet.mk [0, 1, 2] (.tup [.agg (shcells zeroS), bv false]) (bufH v ms c ys o n cp) ⟨rfl, rfl, rfl⟩ ⟨?_, rfl⟩
    rw [nextR, hn]; rfl
  have h := of_decide_eq_true h
  have hi7 : 0 ≤ (i : Int) ∧ (i : Int) < 7 := ⟨by omega, h⟩
  have hvi := hv i (by omega)
  have hw : IntKind.i64.wrap ((i : Int) + 1) = ((i + 1 : Nat) : Int) := wrap64 (by omega)
  have hw2 : IntKind.i64.wrap (v (i : Int).toNat + 1) = v i + 1 := by rw [Int.toNat_natCast]; exact wrap64 (by omega)
  refine And.intro hi7 (Exists.intro _ (And.intro (vcells_get' v hi7 _) ?_))
  refine Exists.intro _ (And.intro hw2 ?_)
  have hpl : plain (.agg (shcells ((MP.get ms ((i : Int), v i + 1)).getD zeroS))) = some (encS ((MP.get ms ((i : Int), v i + 1)).getD zeroS)) := rfl
  refine Exists.intro (.agg (shcells ((MP.get ms ((i : Int), v i + 1)).getD zeroS))) (Exists.intro _ (Exists.intro _ (And.intro (lookS ms ((i : Int), v i + 1)) (And.intro hpl ?_))))
  refine And.intro rfl (And.intro rfl (And.intro rfl (And.intro (And.intro hi7 rfl) (And.intro (Exists.intro _ (And.intro (vcells_get' v hi7 _) rfl)) (And.intro rfl (And.intro ?_ ?_))))))
  · exact Exists.intro (.agg (shcells ((MP.get ms ((i : Int), v i + 1)).getD zeroS))) (Exists.intro _ (Exists.intro _ (And.intro (lookS ms ((i : Int), v i + 1)) (And.intro hpl rfl))))
  have h7i : 7 - i = (7 - (i + 1)) + 1 := by omega
  rw [h7i, nextFrom] at hn
  have inc : ∀ (b1 b2 : SO), nextS v ms = nextFrom v ms (7 - (i + 1)) (i + 1) → ∃ (x' : Nat), x' ≤ 7 ∧ nextS v ms = nextFrom v ms (7 - x') x' := fun _ _ h => ⟨i + 1, by omega, h⟩
  cases hg : MP.get ms ((i : Int), v i + 1) with
  | none =>
    simp only [hg] at hn
    refine And.intro (fun h => absurd h (by simp)) (fun _ => ?_)
    refine Exists.intro _ (And.intro hw ?_)
    exact Exists.intro (i + 1) (Exists.intro [0, 1, 2, 3] (And.intro ⟨⟨by omega, hn⟩, by omega⟩ ⟨rfl, rfl, rfl⟩))
  | some s =>
    simp only [hg] at hn
    refine And.intro (fun _ => ?_) (fun h => absurd h (by simp))
    refine VCall.mk [] (s_shadow_Ready s v) ⟨rfl, rfl, rfl⟩ ?_
    rintro _ _ ⟨rfl, rfl⟩
    refine And.intro (fun hr => ?_) (fun hr => ?_)
    · rw [hr] at hn
      refine VRet.mk [0, 1, 2] (.tup [.agg (shcells s), bv true]) (bufH v ms c ys o n cp) ⟨rfl, rfl, rfl⟩ ⟨?_, rfl⟩
      rw [nextR, hn]; rfl
    · rw [hr] at hn
      refine Exists.intro _ (And.intro hw ?_)
      exact Exists.intro (i + 1) (Exists.intro [0, 1, 2, 3] (And.intro ⟨⟨by omega, hn⟩, by omega⟩ ⟨rfl, rfl, rfl⟩))
end Go.Proofs

namespace Go.Proofs
open Go Go.V Go.Lib
set_option maxRecDepth 100000
set_option linter.unusedVariables false

structure BI (v : Nat → Int) (ms : SM) (c : Nat) : Prop where
  hv : ∀ i, i < 7 → 0 ≤ v i ∧ v i ≤ 1099511627776
  hk : ∀ d s, MP.get ms d = some s → d = (s.rep, s.n) ∧ goodS s = true
  nd : (ms.map (·.1)).Nodup
  ok : MOK ms c
theorem BI.nil : BI (fun _ => 0) [] 0 := ⟨fun _ _ => by simp, fun d s h => by simp [get_nil] at h, by simp, MOK.nil 0⟩
theorem nextFrom_some {v : Nat → Int} {ms : SM} {s : SH} : ∀ {f i : Nat}, nextFrom v ms f i = some s → ∃ j, i ≤ j ∧ j < i + f ∧ MP.get ms ((j : Int), v j + 1) = some s ∧ readyB s v = true
  | 0, i, h => by simp [nextFrom] at h
  | f + 1, i, h => by
    rw [nextFrom] at h
    have rest : nextFrom v ms f (i + 1) = some s → ∃ j, i ≤ j ∧ j < i + (f + 1) ∧ MP.get ms ((j : Int), v j + 1) = some s ∧ readyB s v = true := fun h => by
      obtain ⟨j, h1, h2, h3⟩ := nextFrom_some h; exact ⟨j, by omega, by omega, h3⟩
    cases hg : MP.get ms ((i : Int), v i + 1) with
    | none => rw [hg] at h; exact rest h
    | some t =>
      rw [hg] at h
      simp only at h
      split at h
      · rename_i hr; cases h; exact ⟨i, Nat.le_refl _, by omega, hg, hr⟩
      · exact rest h
theorem nextFrom_none {v : Nat → Int} {ms : SM} : ∀ {f i : Nat}, nextFrom v ms f i = none → ∀ j, i ≤ j → j < i + f → ∀ s, MP.get ms ((j : Int), v j + 1) = some s → readyB s v = false
  | 0, i, h, j, h1, h2, s, hs => by omega
  | f + 1, i, h, j, h1, h2, s, hs => by
    rw [nextFrom] at h
    by_cases e : j = i
    · subst e; rw [hs] at h; simp only at h
      split at h
      · cases h
      · rename_i hr; simpa using hr
    · refine nextFrom_none (f := f) (i := i + 1) ?_ j (by omega) (by omega) s hs
      cases hg : MP.get ms ((i : Int), v i + 1) with
      | none => rw [hg] at h; exact h
      | some t =>
        rw [hg] at h; simp only at h
        split at h
        · cases h
        · exact h
theorem goodS_iff {s : SH} (h : goodS s = true) : (0 ≤ s.rep ∧ s.rep < 7) ∧ (1 ≤ s.n ∧ s.n ≤ 1099511627776) ∧ s.seen s.rep.toNat = s.n - 1 := by
  simp only [goodS, Bool.and_eq_true, decide_eq_true_eq, isDot, isRep] at h
  omega
/-- What is given out step by step. -/
inductive Dr (v0 : Nat → Int) (ms0 : SM) : List SH → (Nat → Int) → SM → Prop
  | nil : Dr v0 ms0 [] v0 ms0
  | snoc {l : List SH} {v : Nat → Int} {ms : SM} {s : SH} : Dr v0 ms0 l v ms → nextS v ms = some s → Dr v0 ms0 (l ++ [s]) (upv v s.rep.toNat s.n) (MP.del ms (s.rep, s.n))
theorem BI.next {v : Nat → Int} {ms : SM} {c : Nat} (h : BI v ms c) {s : SH} (hs : nextS v ms = some s) : MP.get ms (s.rep, s.n) = some s ∧ goodS s = true ∧ readyB s v = true ∧ s.n = v s.rep.toNat + 1 ∧ BI (upv v s.rep.toNat s.n) (MP.del ms (s.rep, s.n)) c := by
  obtain ⟨j, _, hj, hg, hr⟩ := nextFrom_some hs
  obtain ⟨hd, hgd⟩ := h.hk _ _ hg
  have e1 : (j : Int) = s.rep := congrArg Prod.fst hd
  have e2 : v j + 1 = s.n := congrArg Prod.snd hd
  have ej : s.rep.toNat = j := by omega
  rw [hd] at hg
  refine ⟨hg, hgd, hr, by rw [ej]; exact e2.symm, ⟨fun i hi => ?_, fun d t ht => ?_, nodup_del h.nd _, h.ok.del _⟩⟩
  · unfold upv
    split
    · have := (goodS_iff hgd).2.1; omega
    · exact h.hv i hi
  · rw [get_del _ _ _ h.nd] at ht
    split at ht
    · cases ht
    · exact h.hk d t ht
def TakeNo (v : Nat → Int) (ms : SM) (s : SH) (e : Int) : Prop :=
  (goodS s = false ∧ e = 1) ∨ (goodS s = true ∧ ((MP.get ms (s.rep, s.n)).isSome = true ∨ has v s.rep s.n = true) ∧ e = 5) ∨
  (goodS s = true ∧ MP.get ms (s.rep, s.n) = none ∧ has v s.rep s.n = false ∧ 1000 ≤ ms.length ∧ e = 2)
def TakePost (h : Nat → Option Obj) (v : Nat → Int) (ms : SM) (c : Nat) (out : List SH) (s : SH) (x : SV) (H : List SO) : Prop :=
  (∃ e ys o cp, TakeNo v ms s e ∧ x = .tup [.raw (.slice none 0 0), iv e] ∧ H = bufH v ms c ys o out.length cp ++ [.heap h] ∧ RowG shcl 14 ys o cp out) ∨
  (∃ l v' ms' c' ys o cp zs o2 cp2, (goodS s = true ∧ MP.get ms (s.rep, s.n) = none ∧ has v s.rep s.n = false) ∧ Dr v (MP.put ms (s.rep, s.n) s c) l v' ms' ∧ nextS v' ms' = none ∧ BI v' ms' c' ∧ ms'.length + l.length ≤ ms.length + 1 ∧
    x = .tup [.sl 5 o2 l.length cp2, iv 0] ∧ H = [.cells (vcells v' ++ [.mp 1, .sl 4 o (out ++ l).length cp]) T_causal_Buffer, smap ms' c', .gone, .heap h, .arr ys T_shadow_Shadow, .arr zs T_shadow_Shadow] ∧ RowG shcl 14 ys o cp (out ++ l) ∧ RowG shcl 14 zs o2 cp2 l)
end Go.Proofs

namespace Go.Proofs
open Go Go.V Go.Lib
set_option maxRecDepth 100000
set_option linter.unusedVariables false

structure TKX where
  n : Nat
  l : List SH
  v : Nat → Int
  ms : SM
  zs : List Value
  o2 : Nat
  cp2 : Nat
theorem len_ents (ms : SM) : (ents encD encS ms).length = ms.length := by simp [ents]
theorem cellsOK_sh : ∀ l : List SH, cellsOK (l.flatMap shcl) = true
  | [] => rfl
  | s :: l => by
    have ih := cellsOK_sh l
    rw [List.flatMap_cons]
    simpa [cellsOK] using ih
theorem BI.put {v : Nat → Int} {ms : SM} {c : Nat} (h : BI v ms c) {s : SH} (hg : goodS s = true) (hn : MP.get ms (s.rep, s.n) = none) : BI v (MP.put ms (s.rep, s.n) s c) (if (MP.get ms (s.rep, s.n)).isSome then c else c + 1) := by
  refine ⟨h.hv, fun d t ht => ?_, nodup_put h.nd _ _ _, h.ok.put _ _⟩
  rw [get_put] at ht
  split at ht
  · rename_i e; cases ht; exact ⟨e, hg⟩
  · exact h.hk d t ht
theorem s_Take (h : Nat → Option Obj) (hu : Uni h) (v : Nat → Int) (ms : SM) (c : Nat) (ys : List Value) (o cp : Nat) (out : List SH) (hb : BI v ms c) (hr : RowG shcl 14 ys o cp out) (s : SH) (hs : s.key.size ≤ 4611686018427387904)
    (hm : ms.length ≤ 100000) (ho : out.length ≤ 100000) :
    Ctr Tryd.prog F_causal_Buffer_Take [.ptr 0 0, .agg (shcells s)] (bufH v ms c ys o out.length cp ++ [.heap h]) (TakePost h v ms c out s) := by
  have no : ∀ e : Int, TakeNo v ms s e → TakePost h v ms c out s (.tup [.raw (.slice none 0 0), iv e]) (bufH v ms c ys o out.length cp ++ [.heap h]) := fun e he => .inl ⟨e, ys, o, cp, he, rfl, rfl, hr⟩
  refine i_causal_Buffer_Take.spec follows ?_
  refine VCall.mk [3] (s_shadow_Good h hu s hs) ⟨rfl, rfl, rfl⟩ ?_
  rintro _ _ ⟨rfl, rfl⟩
  refine And.intro (fun k1 => ?_) (fun k1 => ?_)
  · exact VRet.mk [0, 1, 2, 3] (.tup [.raw (.slice none 0 0), iv 1]) (bufH v ms c ys o out.length cp ++ [.heap h]) ⟨rfl, rfl, rfl⟩ (no 1 (.inl ⟨by simpa using k1, rfl⟩))
  have k1 : goodS s = true := by simpa using k1
  have hpl : plain (.agg (shcells ((MP.get ms (s.rep, s.n)).getD zeroS))) = some (encS ((MP.get ms (s.rep, s.n)).getD zeroS)) := rfl
  refine Exists.intro (.agg (shcells ((MP.get ms (s.rep, s.n)).getD zeroS))) (Exists.intro _ (Exists.intro _ (And.intro (lookS ms (s.rep, s.n)) (And.intro hpl ?_))))
  refine And.intro rfl (And.intro rfl (And.intro rfl (And.intro ?_ ?_)))
  · exact Exists.intro (.agg (shcells ((MP.get ms (s.rep, s.n)).getD zeroS))) (Exists.intro _ (Exists.intro _ (And.intro (lookS ms (s.rep, s.n)) (And.intro hpl rfl))))
  refine And.intro (fun k2 => ?_) (fun k2 => ?_)
  rotate_left 1
  · exact VRet.mk [0, 1, 2, 3] (.tup [.raw (.slice none 0 0), iv 5]) (bufH v ms c ys o out.length cp ++ [.heap h]) ⟨rfl, rfl, rfl⟩ (no 5 (.inr (.inl ⟨k1, .inl k2, rfl⟩)))
  have k2 : MP.get ms (s.rep, s.n) = none := by cases hg : MP.get ms (s.rep, s.n) with | none => rfl | some t => rw [hg] at k2; cases k2
  refine VCall.mk [] (s_vec_Has v s.rep s.n) ⟨rfl, rfl, rfl⟩ ?_
  rintro _ _ ⟨rfl, rfl⟩
  refine And.intro (fun k3 => ?_) (fun k3 => ?_)
  · exact VRet.mk [0, 1, 2, 3] (.tup [.raw (.slice none 0 0), iv 5]) (bufH v ms c ys o out.length cp ++ [.heap h]) ⟨rfl, rfl, rfl⟩ (no 5 (.inr (.inl ⟨k1, .inr k3, rfl⟩)))
  have k3 : has v s.rep s.n = false := k3
  refine And.intro (fun k4 => ?_) (fun k4 => ?_)
  · have k4 := of_decide_eq_true k4
    rw [len_ents] at k4
    have h1000 : 1000 ≤ ms.length := by omega
    refine VCall.mk [] (s_shadow_Ready s v) ⟨rfl, rfl, rfl⟩ ?_
    rintro _ _ ⟨rfl, rfl⟩
    refine And.intro (fun k5 => ?_) (fun k5 => ?_)
    · exact VRet.mk [0, 1, 2, 3] (.tup [.raw (.slice none 0 0), iv 2]) (bufH v ms c ys o out.length cp ++ [.heap h]) ⟨rfl, rfl, rfl⟩ (no 2 (.inr (.inr ⟨k1, k2, k3, h1000, rfl⟩)))
    · refine Exists.intro _ (Exists.intro _ (And.intro (update_is (encv := encS) kS ms c (s.rep, s.n) s) ?_))
      refine VLoop.nil T_shadow_Shadow [8] [] ⟨rfl, rfl⟩ ?_
      refine VLoop.mk TKX (fun x => [(0, .ptr 0 0), (8, .sl 4 x.o2 x.n x.cp2)]) (fun x => bufH x.v x.ms (if (MP.get ms (s.rep, s.n)).isSome then c else c + 1) ys o out.length cp ++ [.heap h, .arr x.zs T_shadow_Shadow])
        (fun x => Dr v (MP.put ms (s.rep, s.n) s c) x.l x.v x.ms ∧ BI x.v x.ms (if (MP.get ms (s.rep, s.n)).isSome then c else c + 1) ∧ x.ms.length + x.l.length ≤ ms.length + 1 ∧ RowG shcl 14 x.zs x.o2 x.cp2 x.l ∧ x.n = x.l.length) (fun x => x.ms.length) ⟨0, [], v, MP.put ms (s.rep, s.n) s c, [], 0, 0⟩ [0, 1, 2, 3, 6]
        ⟨⟨Dr.nil, hb.put k1 k2, by have := len_put ms (s.rep, s.n) s c; rw [k2] at this; simp at this ⊢; omega, ⟨Nat.le_refl _, by simp, by simp⟩, rfl⟩, rfl, rfl, rfl⟩ ?_
      rintro ⟨n, l, v1, ms1, zs, o2, cp2⟩ ⟨hd, hb1, hl1, hr1, hnl⟩ g
      simp only at hd hb1 hl1 hr1 hnl
      refine VCall.mk [0, 1, 2] (s_next v1 ms1 _ ys o out.length cp hb1.hv) ⟨rfl, rfl, rfl⟩ ?_
      cases hn : nextS v1 ms1 with
      | none =>
        rintro _ _ ⟨hx, rfl⟩
        rw [nextR, hn] at hx
        subst hx
        refine And.intro (fun _ => ?_) (fun h => absurd h (by simp))
        have hn9 : n ≤ 100001 := by omega
        have hcut : (zs.drop o2).take (n * 14) = l.flatMap shcl := by rw [hnl]; exact hr1.2.2
        refine And.intro ⟨⟨hr.1, hr.2.1, rfl⟩, ⟨?_, ?_⟩, ?_⟩ ?_
        · rw [hcut, hnl]; exact flatMap_len (f := shcl) (k := 14) (fun _ => rfl) l
        · rw [hcut]; exact cellsOK_sh l
        · show (out.length + n) * 128 ≤ 1099511627776
          omega
        intro ys2 o3 cp3 hz
        rw [hcut] at hz
        refine VRet.mk [0, 1, 2, 3, 6, 4] (.tup [.sl 5 o2 n cp2, iv 0]) [.cells (vcells v1 ++ [.mp 1, .sl 4 o3 (out.length + n) cp3]) T_causal_Buffer, smap ms1 (if (MP.get ms (s.rep, s.n)).isSome then c else c + 1), .gone, .heap h, .arr ys2 T_shadow_Shadow, .arr zs T_shadow_Shadow] ⟨rfl, rfl, rfl⟩ (.inr ⟨l, v1, ms1, _, ys2, o3, cp3, zs, o2, cp2, ⟨k1, k2, k3⟩, hd, hn, hb1, by omega, by rw [hnl], by rw [hnl, List.length_append], ?_, hr1⟩)
        refine ⟨by rw [List.length_append, ← hnl]; exact hz.1, hz.2.1, ?_⟩
        rw [List.length_append, ← hnl, hz.2.2, hr.2.2, List.flatMap_append]
      | some t =>
        rintro _ _ ⟨hx, rfl⟩
        rw [nextR, hn] at hx
        subst hx
        obtain ⟨q1, q2, q3, q4, q5⟩ := hb1.next hn
        refine And.intro (fun h => absurd h (by simp)) (fun _ => ?_)
        have hrep := (goodS_iff q2).1
        refine Exists.intro _ (And.intro (delete_is (encv := encS) kS ms1 (t.rep, t.n)) ?_)
        refine And.intro hrep (Exists.intro _ (And.intro (vcells_put v1 t.n hrep _) ?_))
        refine And.intro ⟨⟨by rw [hnl]; exact hr1.1, hr1.2.1, rfl⟩, ⟨rfl, rfl⟩, show (n + 1) * 128 ≤ 1099511627776 by omega⟩ ?_
        intro zs' o' cp' hz
        refine Exists.intro ⟨n + 1, l ++ [t], upv v1 t.rep.toNat t.n, MP.del ms1 (t.rep, t.n), zs', o', cp'⟩ (Exists.intro [0, 1, 2, 3, 7] (And.intro ⟨⟨Dr.snoc hd hn, q5, ?_, ⟨?_, ?_, ?_⟩, ?_⟩, ?_⟩ ⟨rfl, rfl, rfl⟩))
        · have := len_del (ms := ms1) (k := (t.rep, t.n)) (by rw [q1]; rfl)
          simp only [List.length_append, List.length_cons, List.length_nil]; omega
        · simp only [List.length_append, List.length_cons, List.length_nil]; rw [← hnl]; exact hz.1
        · exact hz.2.1
        · have h3 := hz.2.2
          simp only [List.length_append, List.length_cons, List.length_nil, List.flatMap_append, List.flatMap_cons, List.flatMap_nil, List.append_nil]
          have h4 : (zs.drop o2).take (n * 14) = l.flatMap shcl := by rw [hnl]; exact hr1.2.2
          rw [← hnl]
          exact h3.trans (congrArg (· ++ shcl t) h4)
        · simp only [List.length_append, List.length_cons, List.length_nil]; rw [hnl]
        · have := len_del (ms := ms1) (k := (t.rep, t.n)) (by rw [q1]; rfl)
          simp only; omega
  · refine Exists.intro _ (Exists.intro _ (And.intro (update_is (encv := encS) kS ms c (s.rep, s.n) s) ?_))
    refine VLoop.nil T_shadow_Shadow [8] [] ⟨rfl, rfl⟩ ?_
    refine VLoop.mk TKX (fun x => [(0, .ptr 0 0), (8, .sl 4 x.o2 x.n x.cp2)]) (fun x => bufH x.v x.ms (if (MP.get ms (s.rep, s.n)).isSome then c else c + 1) ys o out.length cp ++ [.heap h, .arr x.zs T_shadow_Shadow])
      (fun x => Dr v (MP.put ms (s.rep, s.n) s c) x.l x.v x.ms ∧ BI x.v x.ms (if (MP.get ms (s.rep, s.n)).isSome then c else c + 1) ∧ x.ms.length + x.l.length ≤ ms.length + 1 ∧ RowG shcl 14 x.zs x.o2 x.cp2 x.l ∧ x.n = x.l.length) (fun x => x.ms.length) ⟨0, [], v, MP.put ms (s.rep, s.n) s c, [], 0, 0⟩ [0, 1, 2, 3, 6]
      ⟨⟨Dr.nil, hb.put k1 k2, by have := len_put ms (s.rep, s.n) s c; rw [k2] at this; simp at this ⊢; omega, ⟨Nat.le_refl _, by simp, by simp⟩, rfl⟩, rfl, rfl, rfl⟩ ?_
    rintro ⟨n, l, v1, ms1, zs, o2, cp2⟩ ⟨hd, hb1, hl1, hr1, hnl⟩ g
    simp only at hd hb1 hl1 hr1 hnl
    refine VCall.mk [0, 1, 2] (s_next v1 ms1 _ ys o out.length cp hb1.hv) ⟨rfl, rfl, rfl⟩ ?_
    cases hn : nextS v1 ms1 with
    | none =>
      rintro _ _ ⟨hx, rfl⟩
      rw [nextR, hn] at hx
      subst hx
      refine And.intro (fun _ => ?_) (fun h => absurd h (by simp))
      have hn9 : n ≤ 100001 := by omega
      have hcut : (zs.drop o2).take (n * 14) = l.flatMap shcl := by rw [hnl]; exact hr1.2.2
      refine And.intro ⟨⟨hr.1, hr.2.1, rfl⟩, ⟨?_, ?_⟩, ?_⟩ ?_
      · rw [hcut, hnl]; exact flatMap_len (f := shcl) (k := 14) (fun _ => rfl) l
      · rw [hcut]; exact cellsOK_sh l
      · show (out.length + n) * 128 ≤ 1099511627776
        omega
      intro ys2 o3 cp3 hz
      rw [hcut] at hz
      refine VRet.mk [0, 1, 2, 3, 6, 4] (.tup [.sl 5 o2 n cp2, iv 0]) [.cells (vcells v1 ++ [.mp 1, .sl 4 o3 (out.length + n) cp3]) T_causal_Buffer, smap ms1 (if (MP.get ms (s.rep, s.n)).isSome then c else c + 1), .gone, .heap h, .arr ys2 T_shadow_Shadow, .arr zs T_shadow_Shadow] ⟨rfl, rfl, rfl⟩ (.inr ⟨l, v1, ms1, _, ys2, o3, cp3, zs, o2, cp2, ⟨k1, k2, k3⟩, hd, hn, hb1, by omega, by rw [hnl], by rw [hnl, List.length_append], ?_, hr1⟩)
      refine ⟨by rw [List.length_append, ← hnl]; exact hz.1, hz.2.1, ?_⟩
      rw [List.length_append, ← hnl, hz.2.2, hr.2.2, List.flatMap_append]
    | some t =>
      rintro _ _ ⟨hx, rfl⟩
      rw [nextR, hn] at hx
      subst hx
      obtain ⟨q1, q2, q3, q4, q5⟩ := hb1.next hn
      refine And.intro (fun h => absurd h (by simp)) (fun _ => ?_)
      have hrep := (goodS_iff q2).1
      refine Exists.intro _ (And.intro (delete_is (encv := encS) kS ms1 (t.rep, t.n)) ?_)
      refine And.intro hrep (Exists.intro _ (And.intro (vcells_put v1 t.n hrep _) ?_))
      refine And.intro ⟨⟨by rw [hnl]; exact hr1.1, hr1.2.1, rfl⟩, ⟨rfl, rfl⟩, show (n + 1) * 128 ≤ 1099511627776 by omega⟩ ?_
      intro zs' o' cp' hz
      refine Exists.intro ⟨n + 1, l ++ [t], upv v1 t.rep.toNat t.n, MP.del ms1 (t.rep, t.n), zs', o', cp'⟩ (Exists.intro [0, 1, 2, 3, 7] (And.intro ⟨⟨Dr.snoc hd hn, q5, ?_, ⟨?_, ?_, ?_⟩, ?_⟩, ?_⟩ ⟨rfl, rfl, rfl⟩))
      · have := len_del (ms := ms1) (k := (t.rep, t.n)) (by rw [q1]; rfl)
        simp only [List.length_append, List.length_cons, List.length_nil]; omega
      · simp only [List.length_append, List.length_cons, List.length_nil]; rw [← hnl]; exact hz.1
      · exact hz.2.1
      · have h3 := hz.2.2
        simp only [List.length_append, List.length_cons, List.length_nil, List.flatMap_append, List.flatMap_cons, List.flatMap_nil, List.append_nil]
        have h4 : (zs.drop o2).take (n * 14) = l.flatMap shcl := by rw [hnl]; exact hr1.2.2
        rw [← hnl]
        exact h3.trans (congrArg (· ++ shcl t) h4)
      · simp only [List.length_append, List.length_cons, List.length_nil]; rw [hnl]
      · have := len_del (ms := ms1) (k := (t.rep, t.n)) (by rw [q1]; rfl)
        simp only; omega
end Go.Proofs

