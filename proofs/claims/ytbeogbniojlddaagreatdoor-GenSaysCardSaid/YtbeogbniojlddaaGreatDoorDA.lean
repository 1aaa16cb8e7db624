/- Part of the proof that the statement named in the last file holds: lemmas of the prover's own. No conditions. -/
import Derived.Test.YtbeogbniojlddaaGreatDoorVD
import Derived.Test.YtbeogbniojlddaaGreatDoorK25
import Derived.Test.YtbeogbniojlddaaGreatDoorL25
import Derived.Laws.RangeAny
import Derived.Lib.RuneCount
import Derived.Shelf.Strings.Builder1
import Derived.Shelf.Unicode.CaseLaid
import Derived.Lib.RuneBytes
import Derived.Laws.BitsLemmas
namespace Go.Proofs
open Go Go.V
set_option maxRecDepth 100000
set_option linter.unusedVariables false
set_option linter.unusedSectionVars false
variable [V.Mode]

def isRep (n : Int) : Bool := decide (0 ≤ n ∧ n < 7)
theorem isRep_iff {n : Int} : isRep n = true ↔ 0 ≤ n ∧ n < 7 := by simp [isRep]
theorem s_vec_Rep (n : Int) : Ctr Tryz.prog F_vec_Rep [iv n] [] (fun v H => v = bv (isRep n) ∧ H = []) := by
  refine i_vec_Rep.spec follows ?_
  refine And.intro (fun h => ?_) (fun h => ?_)
  · refine VRet.mk [] (bv _) [] ⟨rfl, rfl, rfl⟩ ⟨?_, rfl⟩
    show bv _ = bv _
    have h := of_decide_eq_true h
    simp [isRep, h]
  · refine VRet.mk [] (bv _) [] ⟨rfl, rfl, rfl⟩ ⟨?_, rfl⟩
    show bv _ = bv _
    have h := of_decide_eq_false h
    simp [isRep, h]
def isDot (r n : Int) : Bool := isRep r && (decide (1 ≤ n) && decide (n ≤ 1099511627776))
theorem s_vec_Dot (r n : Int) : Ctr Tryz.prog F_vec_Dot [.agg (dcells r n)] [] (fun v H => v = bv (isDot r n) ∧ H = []) := by
  refine i_vec_Dot.spec follows ?_
  refine VCall.mk [] (s_vec_Rep _) ⟨rfl, rfl, rfl⟩ ?_
  rintro _ _ ⟨rfl, rfl⟩
  refine And.intro (fun h => ?_) (fun h => ?_)
  · refine And.intro (fun h2 => ?_) (fun h2 => ?_)
    · refine VRet.mk [] (bv _) [] ⟨rfl, rfl, rfl⟩ ⟨?_, rfl⟩
      show bv _ = bv _
      simp [isDot, h, h2]
    · refine VRet.mk [] (bv _) [] ⟨rfl, rfl, rfl⟩ ⟨?_, rfl⟩
      show bv _ = bv _
      simp [isDot, h, h2]
  · refine VRet.mk [] (bv _) [] ⟨rfl, rfl, rfl⟩ ⟨?_, rfl⟩
    show bv _ = bv _
    simp [isDot, h]
def has (v : Nat → Int) (r n : Int) : Bool := isRep r && (decide (1 ≤ n) && decide (n ≤ v r.toNat))
theorem s_vec_Has (v : Nat → Int) (r n : Int) : Ctr Tryz.prog F_vec_Has [.agg (vcells v), .agg (dcells r n)] [] (fun x H => x = bv (has v r n) ∧ H = []) := by
  refine i_vec_Has.spec follows ?_
  refine VCall.mk [] (s_vec_Rep _) ⟨rfl, rfl, rfl⟩ ?_
  rintro _ _ ⟨rfl, rfl⟩
  refine And.intro (fun h => ?_) (fun h => ?_)
  · refine And.intro (fun h2 => ?_) (fun h2 => ?_)
    · refine And.intro (isRep_iff.1 h) (Exists.intro _ (And.intro (vcells_get' v (isRep_iff.1 h) []) ?_))
      refine VRet.mk [] (bv _) [] ⟨rfl, rfl, rfl⟩ ⟨?_, rfl⟩
      show bv _ = bv _
      simp [has, h, h2]
    · refine VRet.mk [] (bv _) [] ⟨rfl, rfl, rfl⟩ ⟨?_, rfl⟩
      show bv _ = bv _
      simp [has, h, h2]
  · refine VRet.mk [] (bv _) [] ⟨rfl, rfl, rfl⟩ ⟨?_, rfl⟩
    show bv _ = bv _
    simp [has, h]
abbrev encD (d : Int × Int) : Value := .agg #[.int .i64 d.1, .int .i64 d.2]
theorem keyT_Dot {mt et : TypeId} (h : Tryz.prog.underlying mt = some (.map T_api_Dot et)) : KeyT Tryz.prog mt et encD where
  ex := by
    have h1 : clsT Tryz.prog 2 T_api_Dot = some [.i, .i] := by kernel_rfl
    have h2 : isAggT Tryz.prog T_api_Dot = some true := by kernel_rfl
    refine ⟨T_api_Dot, 2, _, h, by omega, by omega, h1, fun a => ⟨[.int .i64 a.1, .int .i64 a.2], by simp [mkV, h2], rfl, fun b ys hb hl => ?_⟩⟩
    have : ys = [.int .i64 b.1, .int .i64 b.2] := by
      simp only [mkV, h2, if_true] at hb
      injection hb with hb
      have := congrArg Array.toList hb
      simpa using this.symm
    subst this
    refine ⟨decide (a.1 = b.1) && decide (a.2 = b.2), by simp [eqV, eq1V], ?_⟩
    simp [Prod.ext_iff]
  bits := fun a => by simp [Instr.sameBits]
theorem s_isNaN_int (n : Int) : Ctr Tryz.prog F_cmp_isNaN_int [iv n] [] (fun v H => v = bv false ∧ H = []) := by
  refine i_cmp_isNaN_int.spec follows ?_
  refine VRet.mk [] (bv _) [] ⟨rfl, rfl, rfl⟩ ⟨?_, rfl⟩
  show bv _ = bv _
  simp
theorem s_isNaN_int64 (n : Int) : Ctr Tryz.prog F_cmp_isNaN_int64 [iv n] [] (fun v H => v = bv false ∧ H = []) := by
  refine i_cmp_isNaN_int64.spec follows ?_
  refine VRet.mk [] (bv _) [] ⟨rfl, rfl, rfl⟩ ⟨?_, rfl⟩
  show bv _ = bv _
  simp
def cmpI (a b : Int) : Int := if a < b then -1 else if b < a then 1 else 0
theorem s_Compare_int (a b : Int) : Ctr Tryz.prog F_cmp_Compare_int [iv a, iv b] [] (fun v H => v = iv (cmpI a b) ∧ H = []) := by
  refine i_cmp_Compare_int.spec follows ?_
  refine VCall.mk [] (s_isNaN_int a) ⟨rfl, rfl, rfl⟩ ?_
  rintro _ _ ⟨rfl, rfl⟩
  refine VCall.mk [] (s_isNaN_int b) ⟨rfl, rfl, rfl⟩ ?_
  rintro _ _ ⟨rfl, rfl⟩
  refine And.intro (fun h => Bool.noConfusion h) (fun _ => ?_)
  refine And.intro (fun h => Bool.noConfusion h) (fun _ => ?_)
  refine And.intro (fun h => ?_) (fun h => ?_)
  · refine VRet.mk [] (iv _) [] ⟨rfl, rfl, rfl⟩ ⟨?_, rfl⟩
    show iv _ = iv _
    have h := of_decide_eq_true h
    simp [cmpI, h]
  have h := of_decide_eq_false h
  refine And.intro (fun h2 => ?_) (fun h2 => ?_)
  · refine VRet.mk [] (iv _) [] ⟨rfl, rfl, rfl⟩ ⟨?_, rfl⟩
    show iv _ = iv _
    have h2 := of_decide_eq_true h2
    simp [cmpI, h, h2]
  · refine VRet.mk [] (iv _) [] ⟨rfl, rfl, rfl⟩ ⟨?_, rfl⟩
    show iv _ = iv _
    have h2 := of_decide_eq_false h2
    simp [cmpI, h, h2]
theorem s_Compare_int64 (a b : Int) : Ctr Tryz.prog F_cmp_Compare_int64 [iv a, iv b] [] (fun v H => v = iv (cmpI a b) ∧ H = []) := by
  refine i_cmp_Compare_int64.spec follows ?_
  refine VCall.mk [] (s_isNaN_int64 a) ⟨rfl, rfl, rfl⟩ ?_
  rintro _ _ ⟨rfl, rfl⟩
  refine VCall.mk [] (s_isNaN_int64 b) ⟨rfl, rfl, rfl⟩ ?_
  rintro _ _ ⟨rfl, rfl⟩
  refine And.intro (fun h => Bool.noConfusion h) (fun _ => ?_)
  refine And.intro (fun h => Bool.noConfusion h) (fun _ => ?_)
  refine And.intro (fun h => ?_) (fun h => ?_)
  · refine VRet.mk [] (iv _) [] ⟨rfl, rfl, rfl⟩ ⟨?_, rfl⟩
    show iv _ = iv _
    have h := of_decide_eq_true h
    simp [cmpI, h]
  have h := of_decide_eq_false h
  refine And.intro (fun h2 => ?_) (fun h2 => ?_)
  · refine VRet.mk [] (iv _) [] ⟨rfl, rfl, rfl⟩ ⟨?_, rfl⟩
    show iv _ = iv _
    have h2 := of_decide_eq_true h2
    simp [cmpI, h, h2]
  · refine VRet.mk [] (iv _) [] ⟨rfl, rfl, rfl⟩ ⟨?_, rfl⟩
    show iv _ = iv _
    have h2 := of_decide_eq_false h2
    simp [cmpI, h, h2]
def orI : List Int → Int
  | [] => 0
  | x :: l => if x ≠ 0 then x else orI l
theorem s_Or_int (l : List Int) (c : Nat) (hl : l.length < 1000000) : Ctr Tryz.prog F_cmp_Or_int [.sl 0 0 l.length c] [.arr (l.map (.int .i64)) T_int] (fun v H => v = iv (orI l) ∧ H = [.arr (l.map (.int .i64)) T_int]) := by
  refine i_cmp_Or_int.spec follows ?_
  refine VLoop.mk Nat (fun i => [(0, .sl 0 0 l.length c), (3, iv 0), (6, .sl 0 0 l.length c), (7, iv l.length), (8, iv i)]) (fun i => [.arr (l.map (.int .i64)) T_int])
    (fun i => i ≤ l.length ∧ orI l = orI (l.drop i)) (fun i => l.length - i) 0 [0] ⟨⟨Nat.zero_le _, rfl⟩, rfl, rfl, rfl⟩ ?_
  rintro i ⟨hi, ho⟩ g
  refine And.intro (fun h => ?_) (fun h => ?_)
  · have h := of_decide_eq_true h
    have hil : i < l.length := by omega
    have hg : (l.map (Value.int .i64))[0 + (i : Int).toNat * 1]? = some (.int .i64 l[i]) := by simp [hil]
    have hd : l.drop i = l[i] :: l.drop (i + 1) := (List.drop_eq_getElem_cons hil)
    have hw : IntKind.i64.wrap ((i : Int) + 1) = ((i + 1 : Nat) : Int) := wrap64 (by have := hl; omega)
    refine And.intro ⟨Int.natCast_nonneg i, h, by simp⟩ (Exists.intro _ (And.intro hg ?_))
    refine And.intro (fun h2 => ?_) (fun h2 => ?_)
    · refine VRet.mk [0] (iv _) [.arr (l.map (.int .i64)) T_int] ⟨rfl, rfl, rfl⟩ ⟨?_, rfl⟩
      show iv _ = iv _
      have h2 : l[i] ≠ 0 := by simpa using h2
      rw [ho, hd]; simp [orI, h2]
    · refine Exists.intro _ (And.intro hw ?_)
      refine Exists.intro (i + 1) (Exists.intro [0] (And.intro ⟨⟨hil, ?_⟩, by omega⟩ ⟨rfl, rfl, rfl⟩))
      have h2 : l[i] = 0 := by simpa using h2
      rw [ho, hd]; simp [orI, h2]
  · have h := of_decide_eq_false h
    refine VRet.mk [0] (iv _) [.arr (l.map (.int .i64)) T_int] ⟨rfl, rfl, rfl⟩ ⟨?_, rfl⟩
    show iv _ = iv _
    rw [ho, List.drop_eq_nil_of_le (by omega)]; rfl
def cmpD (x y : Int × Int) : Int := orI [cmpI x.1 y.1, cmpI x.2 y.2]
theorem s_dots_Order (a b c d : Int) : Ctr Tryz.prog F_dots_Order [.agg (dcells a b), .agg (dcells c d)] [] (fun v H => v = iv (cmpD (a, b) (c, d)) ∧ H = []) := by
  refine i_dots_Order.spec follows ?_
  refine VCall.mk [] (s_Compare_int a c) ⟨rfl, rfl, rfl⟩ ?_
  rintro _ _ ⟨rfl, rfl⟩
  refine And.intro rfl (And.intro rfl ?_)
  refine VCall.mk [] (s_Compare_int64 b d) ⟨rfl, rfl, rfl⟩ ?_
  rintro _ _ ⟨rfl, rfl⟩
  refine VCall.mk [2] (s_Or_int [cmpI a c, cmpI b d] 2 (by simp)) ⟨rfl, rfl, rfl⟩ ?_
  rintro _ _ ⟨rfl, rfl⟩
  exact VRet.mk [] (iv _) [] ⟨rfl, rfl, rfl⟩ ⟨rfl, rfl⟩
end Go.Proofs

namespace Go.Proofs
open Go Go.V
set_option maxRecDepth 100000
set_option linter.unusedVariables false
set_option linter.unusedSectionVars false
variable [V.Mode]

def leB (v w : Nat → Int) : Bool := (List.range 7).all fun i => decide (v i ≤ w i)
theorem leB_iff {v w : Nat → Int} : leB v w = true ↔ ∀ i, i < 7 → v i ≤ w i := by simp [leB]
theorem s_vec_Le (v w : Nat → Int) : Ctr Tryz.prog F_vec_Le [.agg (vcells v), .agg (vcells w)] [] (fun x H => x = bv (leB v w) ∧ H = []) := by
  refine i_vec_Le.spec follows ?_
  refine VLoop.mk Nat (fun i => [(2, .ptr 0 0), (3, .ptr 1 0), (6, iv i)]) (fun i => [.cells (vcells v) T_vec_Vec, .cells (vcells w) T_vec_Vec]) (fun i => i ≤ 7 ∧ ∀ j, j < i → v j ≤ w j) (fun i => 7 - i) 0 [0, 1]
    ⟨⟨by omega, fun j hj => by omega⟩, rfl, rfl, rfl⟩ ?_
  rintro i ⟨hi, hd⟩ g
  refine And.intro (fun h => ?_) (fun h => ?_)
  · have h := of_decide_eq_true h
    have hi7 : 0 ≤ (i : Int) ∧ (i : Int) < 7 := ⟨by omega, h⟩
    have hw : IntKind.i64.wrap ((i : Int) + 1) = ((i + 1 : Nat) : Int) := wrap64 (by omega)
    refine And.intro hi7 (Exists.intro _ (And.intro (vcells_get' v hi7 []) ?_))
    refine And.intro hi7 (Exists.intro _ (And.intro (vcells_get' w hi7 []) ?_))
    refine And.intro (fun h2 => ?_) (fun h2 => ?_)
    · have h2 := of_decide_eq_true h2
      refine VRet.mk [] (bv false) [] ⟨rfl, rfl, rfl⟩ ⟨?_, rfl⟩
      have : leB v w = false := by
        rw [Bool.eq_false_iff, Ne, leB_iff]
        intro hh
        have := hh i (by omega)
        rw [Int.toNat_natCast] at h2
        omega
      rw [this]
    · have h2 := of_decide_eq_false h2
      refine Exists.intro _ (And.intro hw ?_)
      refine Exists.intro (i + 1) (Exists.intro [0, 1] (And.intro ⟨⟨by omega, fun j hj => ?_⟩, by omega⟩ ⟨rfl, rfl, rfl⟩))
      rw [Int.toNat_natCast] at h2
      by_cases e : j = i
      · subst e; omega
      · exact hd j (by omega)
  · have h := of_decide_eq_false h
    have h7 : i = 7 := by omega
    subst h7
    refine VRet.mk [] (bv true) [] ⟨rfl, rfl, rfl⟩ ⟨?_, rfl⟩
    rw [leB_iff.2 hd]


def vgoodB (v : Nat → Int) : Bool := (List.range 7).all fun i => decide (0 ≤ v i) && decide (v i ≤ 1099511627776)
theorem vgoodB_iff {v : Nat → Int} : vgoodB v = true ↔ ∀ i, i < 7 → 0 ≤ v i ∧ v i ≤ 1099511627776 := by simp [vgoodB]
theorem vcells_getA (v : Nat → Int) {n : Int} (h : 0 ≤ n ∧ n < 7) : (vcells v)[n.toNat * 1]? = some (iv (v n.toNat)) := by
  have := vcells_get' v h []
  simpa using this
theorem s_vec_Good (v : Nat → Int) : Ctr Tryz.prog F_vec_Good [.agg (vcells v)] [] (fun x H => x = bv (vgoodB v) ∧ H = []) := by
  refine i_vec_Good.spec follows ?_
  refine VLoop.mk Nat (fun i => [(5, .agg (vcells v)), (6, iv i)]) (fun i => []) (fun i => i ≤ 7 ∧ ∀ j, j < i → 0 ≤ v j ∧ v j ≤ 1099511627776) (fun i => 7 - i) 0 []
    ⟨⟨by omega, fun j hj => by omega⟩, rfl, rfl, rfl⟩ ?_
  rintro i ⟨hi, hd⟩ g
  have bad : ∀ k, k < 7 → ¬ (0 ≤ v k ∧ v k ≤ 1099511627776) → vgoodB v = false := by
    intro k hk hn
    rw [Bool.eq_false_iff, Ne, vgoodB_iff]
    exact fun hh => hn (hh k hk)
  refine And.intro (fun h => ?_) (fun h => ?_)
  · have h := of_decide_eq_true h
    have hi7 : 0 ≤ (i : Int) ∧ (i : Int) < 7 := ⟨by omega, h⟩
    have hw : IntKind.i64.wrap ((i : Int) + 1) = ((i + 1 : Nat) : Int) := wrap64 (by omega)
    refine And.intro hi7 (Exists.intro _ (And.intro (vcells_getA v hi7) ?_))
    refine And.intro (fun h1 => ?_) (fun h1 => ?_)
    · have h1 := of_decide_eq_false h1
      refine And.intro (fun h2 => ?_) (fun h2 => ?_)
      · have h2 := of_decide_eq_true h2
        refine VRet.mk [] (bv false) [] ⟨rfl, rfl, rfl⟩ ⟨?_, rfl⟩
        rw [Int.toNat_natCast] at h2
        rw [bad i (by omega) (by omega)]
      · have h2 := of_decide_eq_false h2
        refine Exists.intro _ (And.intro hw ?_)
        refine Exists.intro (i + 1) (Exists.intro [] (And.intro ⟨⟨by omega, fun j hj => ?_⟩, by omega⟩ ⟨rfl, rfl, rfl⟩))
        by_cases hji : j = i
        · subst hji; rw [Int.toNat_natCast] at h1 h2; omega
        · exact hd j (by omega)
    · have h1 := of_decide_eq_true h1
      refine VRet.mk [] (bv false) [] ⟨rfl, rfl, rfl⟩ ⟨?_, rfl⟩
      rw [Int.toNat_natCast] at h1
      rw [bad i (by omega) (by omega)]
  · have h := of_decide_eq_false h
    have h7 : i = 7 := by omega
    subst h7
    refine VRet.mk [] (bv true) [] ⟨rfl, rfl, rfl⟩ ⟨?_, rfl⟩
    rw [vgoodB_iff.2 hd]
end Go.Proofs

namespace Go.Proofs
open Go Go.V Go.Lib
set_option maxRecDepth 100000
set_option linter.unusedVariables false
set_option linter.unusedSectionVars false

/-- From here on contracts do not count draws. -/
instance laxHere : V.Mode := laxM
abbrev Uni (h : Nat → Option Obj) : Prop := UniH Tryz.prog (Tryz.laysLetter_ren.g 8) (Tryz.laysDigit_ren.g 5) h
theorem s_IsLetter (h : Nat → Option Obj) (hu : Uni h) (r : Int) (hr : -2147483648 ≤ r ∧ r ≤ 2147483647) :
    Ctr Tryz.prog F_unicode_IsLetter [.raw (.int .i32 r)] [.heap h] (fun x H => x = bv (isLetterU r) ∧ H = [.heap h]) :=
  letter_ctr rfl Tryz.laysLetter (by kernel_rfl) hu r hr
theorem s_IsDigit (h : Nat → Option Obj) (hu : Uni h) (r : Int) (hr : -2147483648 ≤ r ∧ r ≤ 2147483647) :
    Ctr Tryz.prog F_unicode_IsDigit [.raw (.int .i32 r)] [.heap h] (fun x H => x = bv (isDigitU r) ∧ H = [.heap h]) :=
  digit_ctr rfl Tryz.laysDigit hu r hr
def otherB (r : Int) (first : Bool) : Bool := isLetterU r || (!first && (isDigitU r || decide (r = 45)))
theorem s_name_other (h : Nat → Option Obj) (hu : Uni h) (r : Int) (hr : -2147483648 ≤ r ∧ r ≤ 2147483647) (first : Bool) :
    Ctr Tryz.prog F_name_other [.raw (.int .i32 r), bv first] [.heap h] (fun x H => x = bv (otherB r first) ∧ H = [.heap h]) := by
  have fin : ∀ b : Bool, otherB r first = b → VRet 1 (bv b) [.heap h] (fun x H => x = bv (otherB r first) ∧ H = [.heap h]) := by
    intro b hb
    exact VRet.mk [0] (bv b) [.heap h] ⟨rfl, rfl, rfl⟩ ⟨by rw [hb], rfl⟩
  refine i_name_other.spec follows ?_
  refine VCall.mk [0] (s_IsLetter h hu r hr) ⟨rfl, rfl, rfl⟩ ?_
  rintro _ _ ⟨rfl, rfl⟩
  refine And.intro (fun h1 => ?_) (fun h1 => fin _ (by simp [otherB, h1]))
  refine And.intro (fun h2 => ?_) (fun h2 => fin _ (by simp at h2; simp [otherB, h1, h2]))
  have h2 : first = false := by simpa using h2
  refine VCall.mk [0] (s_IsDigit h hu r hr) ⟨rfl, rfl, rfl⟩ ?_
  rintro _ _ ⟨rfl, rfl⟩
  refine And.intro (fun h3 => ?_) (fun h3 => fin _ (by simp [otherB, h1, h2, h3]))
  refine fin _ ?_
  simp [otherB, h1, h2, h3]
/-- How many runes there are from a place on, if all may stand in a name. -/
def runesFrom (s : ByteArray) : Nat → Nat → Option Nat
  | 0, _ => some 0
  | f + 1, p => if p < s.size then (if otherB ((Utf8.decode s p).1 : Int) (decide ((p : Int) = 0)) then (runesFrom s f (p + (Utf8.decode s p).2)).map (· + 1) else none) else some 0
def goodName (s : ByteArray) : Bool := match runesFrom s (s.size + 1) 0 with
  | some n => decide ((n : Int) ≥ 1) && decide ((n : Int) ≤ 20)
  | none => false
structure NX where
  p : Nat
  n : Nat
theorem runesFrom_step {s : ByteArray} {f p : Nat} (hp : p < s.size) : runesFrom s (f + 1) p = (if otherB ((Utf8.decode s p).1 : Int) (decide ((p : Int) = 0)) then (runesFrom s f (p + (Utf8.decode s p).2)).map (· + 1) else none) := by
  rw [runesFrom, if_pos hp]
theorem s_name_Good (h : Nat → Option Obj) (hu : Uni h) (s : ByteArray) (hs : s.size ≤ 4611686018427387904) :
    Ctr Tryz.prog F_name_Good [.raw (.string s)] [.heap h] (fun x H => x = bv (goodName s) ∧ H = [.heap h]) := by
  refine i_name_Good.spec follows ?_
  refine VLoop.mk NX (fun x => [(3, iv x.n), (7, .ptr 1 0)]) (fun x => [.heap h, .siter s x.p])
    (fun x => x.n ≤ x.p ∧ (x.p < s.size ∨ x.n ≤ s.size) ∧ runesFrom s (s.size + 1) 0 = (runesFrom s (s.size + 1 - x.n) x.p).map (· + x.n)) (fun x => s.size - x.p) ⟨0, 0⟩ [0, 1]
    ⟨⟨Nat.le_refl _, .inr (Nat.zero_le _), by simp⟩, rfl, rfl, rfl⟩ ?_
  rintro ⟨p, n⟩ ⟨hnp, hn, hr⟩ g
  simp only at hnp hn hr
  refine And.intro (fun hp c wd hd => ?_) (fun hp => ?_)
  · simp only at hp hd
    have hc : c ≤ 2147483647 := by have := decide_eq_true (decode_le s p); rw [hd] at this; exact of_decide_eq_true this
    have hw1 : 1 ≤ wd := by have := decode_width_pos s p hp; rw [hd] at this; exact this
    refine VCall.mk [0] (s_name_other h hu (c : Int) (by omega) (decide ((p : Int) = 0))) ⟨rfl, rfl, rfl⟩ ?_
    rintro _ _ ⟨rfl, rfl⟩
    have hf : s.size + 1 - n = (s.size - n) + 1 := by omega
    rw [hf, runesFrom_step hp, hd] at hr
    refine And.intro (fun h1 => ?_) (fun h1 => ?_)
    · have h1 : otherB (c : Int) (decide ((p : Int) = 0)) = false := by simpa using h1
      refine VRet.mk [0] (bv false) [.heap h] ⟨rfl, rfl, rfl⟩ ⟨?_, rfl⟩
      rw [goodName, hr, h1]; rfl
    · have h1 : otherB (c : Int) (decide ((p : Int) = 0)) = true := by simpa using h1
      have hw : IntKind.i64.wrap ((n : Int) + 1) = ((n + 1 : Nat) : Int) := wrap64 (by omega)
      refine Exists.intro _ (And.intro hw ?_)
      refine Exists.intro ⟨p + wd, n + 1⟩ (Exists.intro [0, 1] (And.intro ⟨⟨by simp only; omega, .inr (by simp only; omega), ?_⟩, by simp only; omega⟩ ⟨rfl, rfl, rfl⟩))
      simp only
      rw [hr, h1, show s.size + 1 - (n + 1) = s.size - n by omega]
      simp only [if_true, Option.map_map]
      congr 1
      funext k
      simp only [Function.comp_apply]; omega
  · simp only at hp
    have he : runesFrom s (s.size + 1) 0 = some n := by
      rw [hr]
      have : runesFrom s (s.size + 1 - n) p = some 0 := by
        cases hk : s.size + 1 - n with
        | zero => rfl
        | succ k => rw [runesFrom, if_neg hp]
      rw [this]; simp
    have hg : goodName s = (decide ((n : Int) ≥ 1) && decide ((n : Int) ≤ 20)) := by rw [goodName, he]
    refine And.intro (fun h1 => ?_) (fun h1 => ?_)
    · refine VRet.mk [0] (bv (decide ((n : Int) ≤ 20))) [.heap h] ⟨rfl, rfl, rfl⟩ ⟨?_, rfl⟩
      rw [hg]; have h1 := of_decide_eq_true h1; simp [h1]
    · refine VRet.mk [0] (bv false) [.heap h] ⟨rfl, rfl, rfl⟩ ⟨?_, rfl⟩
      rw [hg]; have h1 := of_decide_eq_false h1; simp [h1]
end Go.Proofs

namespace Go.Proofs
open Go.Shelf
set_option maxRecDepth 1000000
/-- The Builder's copyCheck at this program, by hand (the tool leaves it out). -/
def Tryz.laysCopy_ren : Go.Shelf.Ren := ⟨fun | 240 => 112 | 276 => 135 | n => n, fun | 37 => 28 | 70 => 137 | 72 => 139 | 164 => 190 | n => n, fun | n => n⟩
theorem Tryz.laysCopy : Go.Proofs.Lays.n240 Tryz.prog Tryz.laysCopy_ren := {
  mixed := by kernel_rfl
  f240 := Tryz.func112.trans (congrArg some (by kernel_rfl))
  f276 := Tryz.func135.trans (congrArg some (by kernel_rfl))
  t0 := Tryz.underlying0
  a0 := Tryz.isAgg0
  z0 := Tryz.sizeOf0
  v0 := Tryz.zeroValue0
  t4 := Tryz.underlying4
  a4 := Tryz.isAgg4
  z4 := Tryz.sizeOf4
  v4 := Tryz.zeroValue4
  t9 := Tryz.underlying9
  a9 := Tryz.isAgg9
  z9 := Tryz.sizeOf9
  v9 := Tryz.zeroValue9
  t20 := Tryz.underlying20
  a20 := Tryz.isAgg20
  z20 := Tryz.sizeOf20
  v20 := Tryz.zeroValue20
  t70 := Tryz.underlying137
  a70 := Tryz.isAgg137
  z70 := Tryz.sizeOf137
  v70 := Tryz.zeroValue137
  t72 := Tryz.underlying139
  a72 := Tryz.isAgg139
  z72 := Tryz.sizeOf139
  v72 := Tryz.zeroValue139
  t164 := Tryz.underlying190
  a164 := Tryz.isAgg190
  z164 := Tryz.sizeOf190
  v164 := Tryz.zeroValue190 }
theorem copyX : Builder.X72 Tryz.prog Tryz.laysCopy_ren := ⟨by kernel_rfl, by kernel_rfl⟩
end Go.Proofs

namespace Go.Proofs
open Go.Shelf Go.RowKit Go.V
set_option linter.unusedVariables false

theorem keep_drew {b : Option Nat} {w w' : World} (h : KeepBut b w.drew w') : KeepBut b w w' := ⟨h.os, h.tape, h.output, Nat.le_trans (Nat.le_succ _) h.drawn, h.block⟩
set_option maxHeartbeats 4000000 in
set_option maxRecDepth 1000000 in
/-- Builder.String over bytes that lie from o on: all but their row stays. -/
theorem bstr_run {P : Program} {ρ : Ren} (L : Lays.n169 P ρ) (hc5 : P.cellsOf (ρ.t 5) = 1) (b g o cap : Nat) (p : Value) (l : List UInt8) (cur : Array Value) (fz : Nat × Nat) (w : World) (h0 : l ≠ []) (hbk : w.heap[b]? = some (.cells #[p, .slice (some ⟨g, o, none⟩) l.length cap] (ρ.t 72) (0, 0)))
    (hg : w.heap[g]? = some (.cells cur (ρ.t 5) fz)) (hnc : l.length ≤ cap) (hcs : o + l.length ≤ cur.size) (h63 : l.length ≤ 9223372036854775807)
    (hcell : ∀ j x, l[j]? = some x → w.cell? ((⟨g, o, none⟩ : Addr).add j) = some (.int .u8 x.toNat)) :
    Calls P (ρ.f 169) #[.pointer (some ⟨b, 0, none⟩)] w fun e w' => e = .returned (.string ⟨l.toArray⟩) ∧ KeepBut (some g) w w' := by
  have hl0 : l.length ≠ 0 := by simpa using h0
  have c1 : w.drew.cell? ⟨b, 1, none⟩ = some (.slice (some ⟨g, o, none⟩) l.length cap) := by
    have : w.drew.heap[b]? = some (.cells #[p, .slice (some ⟨g, o, none⟩) l.length cap] (ρ.t 72) (0, 0)) := hbk
    rw [Lib.cell_of_heap this]; rfl
  have hSD : (Builtin.unsafeSliceData_ #[(ρ.t 37)] (ρ.t 127) #[.slice (some ⟨g, o, none⟩) l.length cap]).run P w.drew = .ok (.pointer (some ⟨g, o, none⟩)) w.drew :=
    Lib.run_unsafeSliceData_row _ _ _ _ _ _ (by omega)
  have hUS : (Builtin.unsafeString_ #[(ρ.t 127), (ρ.t 3)] (ρ.t 9) #[.pointer (some ⟨g, o, none⟩), .int .i64 l.length]).run P w.drew = .ok (.string ⟨l.toArray⟩) (w.drew.freeze ⟨g, o, none⟩ l.length) := by
    refine run_string_from w.drew (ρ.t 127) (ρ.t 3) (ρ.t 9) (ρ.t 5) L.t127 hc5 g o cur.size (by have hg' : w.drew.heap[g]? = some (.cells cur (ρ.t 5) fz) := hg; simp [World.shape?, hg']) l h0 hcs h63 ?_
    exact hcell
  have mixed := L.mixed
  have t72 := L.t72; have a72 := L.a72; have z72 := L.z72; have v72 := L.v72; have u72 := run_underlying L.t72
  have t70 := L.t70; have a70 := L.a70; have z70 := L.z70; have v70 := L.v70; have u70 := run_underlying L.t70
  have t37 := L.t37; have a37 := L.a37; have z37 := L.z37; have v37 := L.v37; have u37 := run_underlying L.t37
  have t127 := L.t127; have a127 := L.a127; have z127 := L.z127; have v127 := L.v127; have u127 := run_underlying L.t127
  have t3 := L.t3; have a3 := L.a3; have z3 := L.z3; have v3 := L.v3; have u3 := run_underlying L.t3
  have t9 := L.t9; have a9 := L.a9; have z9 := L.z9; have v9 := L.v9; have u9 := run_underlying L.t9
  go_enter L.f169, Body.n169_ntmps ρ
  go_wp2
  go_region_o
  all_goals (go_wp2; go_ret; exact ⟨rfl, keep_drew (keep_freeze' w.drew g o _)⟩)
abbrev bycl (b : UInt8) : List Value := [.int .u8 b.toNat]
theorem bstr_ctr [V.Mode] {P : Program} {r : Ren} (L : Lays.n169 P r) (hc5 : P.cellsOf (r.t 5) = 1) (p : SV) (hp : V.belowL 2 [p] = true) (xs : List Value) (o c : Nat) (l : List UInt8) (h0 : l ≠ []) (hr : RowG bycl 1 xs o c l) (h63 : l.length ≤ 9223372036854775807) :
    Ctr P (r.f 169) [.ptr 0 0] [.cells [p, .sl 1 o l.length c] (r.t 72), .arr xs (r.t 5)] (fun x H => x = .raw (.string ⟨l.toArray⟩) ∧ H = [.cells [p, .sl 1 o l.length c] (r.t 72), .gone]) := by
  intro ρ g w hS hb
  obtain ⟨b, e1, e2⟩ := hS.ent 0 _ rfl
  have hroom : o + l.length ≤ xs.length := by have := hr.2.1; have := hr.1; omega
  have hlp : 0 < l.length := by cases l with
    | nil => exact absurd rfl h0
    | cons x l => simp
  rcases hS.ent 1 _ rfl with ⟨_, hx⟩ | ⟨gb, fr, e3, e4, e5⟩
  · rw [hx, List.length_nil] at hroom; omega
  have hv : valL ρ [.ptr 0 0] = [.pointer (some ⟨b, 0, none⟩)] := by simp [valL, val, e1]
  rw [hv]
  have e2' : w.heap[b]? = some (.cells #[val ρ p, .slice (some ⟨gb, o, none⟩) l.length c] (r.t 72) (0, 0)) := by rw [e2]; simp [valL, val, e3]
  refine Calls.mono (bstr_run L hc5 b gb o c (val ρ p) l xs.toArray fr w h0 e2' e4 hr.1 (by simpa using hroom) h63 ?_) ?_
  · intro j x hx
    have hj := (List.getElem?_eq_some_iff.1 hx).1
    have h1 := hr.at (fun _ => rfl) (i := j) (j := 0) hj (by omega)
    have h2 : l[j] = x := (List.getElem?_eq_some_iff.1 hx).2
    have h3 : ((⟨gb, o, none⟩ : Addr).add j) = ⟨gb, o + j, none⟩ := by
      unfold Addr.add
      by_cases hj0 : j = 0
      · subst hj0; simp
      · simp [hj0]
    rw [h3, cell_of e4]
    rw [h2] at h1
    simpa using h1
  · rintro e w' ⟨rfl, hk⟩
    have hS' := hS.only (k := 1) rfl rfl (by rw [e3]; exact hk)
    exact ⟨ρ, .raw (.string ⟨l.toArray⟩), _, rfl, hS', fun _ _ => rfl, Nat.le_refl _, rfl, rfl, rfl⟩
end Go.Proofs

namespace Go.Proofs
open Go Go.V Go.Lib
set_option maxRecDepth 100000
set_option linter.unusedVariables false
set_option linter.unusedSectionVars false
variable [V.Mode]

theorem bycl_runes (r : Int) : (encodeRune r).flatMap bycl = runeCells r := by
  rw [← byteCells_encodeRune]
  generalize encodeRune r = l
  induction l with
  | nil => rfl
  | cons x l ih => rw [List.flatMap_cons, ih]; rfl
theorem appRow {xs zs : List Value} {o c o' c' n m : Nat} {l : List UInt8} {r : Int} {ys : List Value} (h : RowG bycl 1 xs o c l) (hn : n = l.length) (he : runeCells r = ys) (hm : m = ys.length) (h1 : n + m ≤ c') (h2 : o' + c' * 1 ≤ zs.length) (h3 : (zs.drop o').take ((n + m) * 1) = (xs.drop o).take (n * 1) ++ ys) :
    RowG bycl 1 zs o' c' (l ++ encodeRune r) ∧ n + m = (l ++ encodeRune r).length := by
  have hl : (encodeRune r).length = m := by rw [← runeCells_length, he, hm]
  subst hn
  refine ⟨⟨by rw [List.length_append, hl]; exact h1, h2, ?_⟩, by rw [List.length_append, hl]⟩
  rw [List.length_append, hl, List.flatMap_append, bycl_runes, he, h3, h.2.2]
def APost (o0 : Nat) (l : List UInt8) (r : Int) (x : SV) (H : List SO) : Prop := ∃ zs o c, x = .sl 1 o (l ++ encodeRune r).length c ∧ H = [.gone, .arr zs T_uint8] ∧ RowG bycl 1 zs o c (l ++ encodeRune r)
theorem rc_two {r : Int} (h0 : 128 ≤ r) (h1 : r ≤ 2047) : runeCells r = [.int .u8 (192 + r / 64), .int .u8 (128 + r % 64)] := by simp [runeCells, encodeRuneZ_two h0 h1]
theorem rc_three {r : Int} (h : (2048 ≤ r ∧ r < 55296) ∨ (57343 < r ∧ r ≤ 65535)) : runeCells r = [.int .u8 (224 + r / 4096), .int .u8 (128 + r / 64 % 64), .int .u8 (128 + r % 64)] := by simp [runeCells, encodeRuneZ_three h]
theorem rc_four {r : Int} (h0 : 65536 ≤ r) (h1 : r ≤ 1114111) : runeCells r = [.int .u8 (240 + r / 262144), .int .u8 (128 + r / 4096 % 64), .int .u8 (128 + r / 64 % 64), .int .u8 (128 + r % 64)] := by simp [runeCells, encodeRuneZ_four h0 h1]
theorem rc_bad {r : Int} (h : r < 0 ∨ (55296 ≤ r ∧ r ≤ 57343) ∨ 1114111 < r) : runeCells r = [.int .u8 239, .int .u8 191, .int .u8 189] := by simp [runeCells, encodeRuneZ_bad h]
theorem w8 (n : Int) : IntKind.u8.wrap n = n % 256 := IntKind.wrap_u8 n
theorem w32 (n : Int) : IntKind.u32.wrap n = n % 4294967296 := IntKind.wrap_u32 n
theorem fd (r : Int) (k : Nat) (d : Int) (hd : (2 : Int) ^ k = d) (h : 0 < d) : r.fdiv (2 ^ k) = r / d := by rw [hd]; exact Int.fdiv_eq_ediv_of_nonneg _ (by omega)
theorem and63 {x : Int} (h₀ : 0 ≤ x) (h₁ : x < 256) : intBits .and .u8 x 63 = x % 64 := u8_and63 _ h₀ h₁
theorem or128 {y : Int} (h₀ : 0 ≤ y) (h₁ : y < 64) : intBits .or .u8 128 y = 128 + y := u8_or128 _ h₀ h₁
theorem or192 {y : Int} (h₀ : 0 ≤ y) (h₁ : y < 32) : intBits .or .u8 192 y = 192 + y := u8_or192 _ h₀ h₁
theorem or224 {y : Int} (h₀ : 0 ≤ y) (h₁ : y < 16) : intBits .or .u8 224 y = 224 + y := u8_or224 _ h₀ h₁
theorem or240 {y : Int} (h₀ : 0 ≤ y) (h₁ : y < 8) : intBits .or .u8 240 y = 240 + y := u8_or240 _ h₀ h₁
theorem s_appendNA (r : Int) (hr : -2147483648 ≤ r ∧ r ≤ 2147483647) (hna : ¬ (0 ≤ r ∧ r ≤ 127)) (xs : List Value) (o c : Nat) (l : List UInt8) (hx : RowG bycl 1 xs o c l) (hl : l.length ≤ 1000000000) :
    Ctr Tryz.prog F_unicode_utf8_appendRuneNonASCII [.sl 0 o l.length c, .raw (.int .i32 r)] [.arr xs T_uint8] (APost o l r) := by
  have hb : ∀ m, m ≤ 4 → (l.length + m) * 1 ≤ 1099511627776 := fun m hm => by omega
  refine i_unicode_utf8_appendRuneNonASCII.spec follows ?_
  refine Exists.intro (r % 4294967296) (And.intro (w32 r) ?_)
  refine And.intro (fun h1 => ?_) (fun h1 => ?_)
  · have h1 := of_decide_eq_true h1
    have hr0 : 128 ≤ r ∧ r ≤ 2047 := by omega
    refine And.intro (by decide) (Exists.intro (r / 64) (And.intro (fd r 6 64 rfl (by decide)) ?_))
    refine Exists.intro (r / 64) (And.intro (by rw [w8]; omega) ?_)
    refine Exists.intro (192 + r / 64) (And.intro (or192 (by omega) (by omega)) ?_)
    refine Exists.intro (r % 256) (And.intro (w8 r) ?_)
    refine Exists.intro (r % 64) (And.intro (by rw [and63 (by omega) (by omega)]; omega) ?_)
    refine Exists.intro (128 + r % 64) (And.intro (or128 (by omega) (by omega)) ?_)
    refine And.intro ⟨⟨hx.1, hx.2.1, rfl⟩, ⟨rfl, rfl⟩, hb 2 (by decide)⟩ ?_
    intro zs o' c' hz
    obtain ⟨q1, q2⟩ := appRow hx rfl (rc_two hr0.1 hr0.2) rfl hz.1 hz.2.1 hz.2.2
    refine VRet.mk [0, 2] (.sl 1 o' (l.length + 2) c') [.gone, .arr zs T_uint8] ⟨rfl, rfl, rfl⟩ ⟨zs, o', c', ?_, rfl, q1⟩
    rw [← q2]; rfl
  have h1 := of_decide_eq_false h1
  refine And.intro (fun h2 => ?_) (fun h2 => ?_)
  · have h2 := of_decide_eq_true h2
    have hr3 : (2048 ≤ r ∧ r < 55296) ∨ (57343 < r ∧ r ≤ 65535) := by omega
    refine And.intro (fun _ => ?_) (fun h => absurd h2 (of_decide_eq_false h))
    refine And.intro (by decide) (Exists.intro (r / 4096) (And.intro (fd r 12 4096 rfl (by decide)) ?_))
    refine Exists.intro (r / 4096) (And.intro (by rw [w8]; omega) ?_)
    refine Exists.intro (224 + r / 4096) (And.intro (or224 (by omega) (by omega)) ?_)
    refine And.intro (by decide) (Exists.intro (r / 64) (And.intro (fd r 6 64 rfl (by decide)) ?_))
    refine Exists.intro (r / 64 % 256) (And.intro (w8 _) ?_)
    refine Exists.intro (r / 64 % 64) (And.intro (by rw [and63 (by omega) (by omega)]; omega) ?_)
    refine Exists.intro (128 + r / 64 % 64) (And.intro (or128 (by omega) (by omega)) ?_)
    refine Exists.intro (r % 256) (And.intro (w8 r) ?_)
    refine Exists.intro (r % 64) (And.intro (by rw [and63 (by omega) (by omega)]; omega) ?_)
    refine Exists.intro (128 + r % 64) (And.intro (or128 (by omega) (by omega)) ?_)
    refine And.intro ⟨⟨hx.1, hx.2.1, rfl⟩, ⟨rfl, rfl⟩, hb 3 (by decide)⟩ ?_
    intro zs o' c' hz
    obtain ⟨q1, q2⟩ := appRow hx rfl (rc_three hr3) rfl hz.1 hz.2.1 hz.2.2
    refine VRet.mk [0, 2] (.sl 1 o' (l.length + 3) c') [.gone, .arr zs T_uint8] ⟨rfl, rfl, rfl⟩ ⟨zs, o', c', ?_, rfl, q1⟩
    rw [← q2]; rfl
  have h2 := of_decide_eq_false h2
  refine And.intro (fun h3 => ?_) (fun h3 => ?_)
  · have h3 := of_decide_eq_true h3
    refine And.intro (fun h4 => ?_) (fun h4 => ?_)
    · have h4 := of_decide_eq_true h4
      have hr3 : (2048 ≤ r ∧ r < 55296) ∨ (57343 < r ∧ r ≤ 65535) := by omega
      refine And.intro (by decide) (Exists.intro (r / 4096) (And.intro (fd r 12 4096 rfl (by decide)) ?_))
      refine Exists.intro (r / 4096) (And.intro (by rw [w8]; omega) ?_)
      refine Exists.intro (224 + r / 4096) (And.intro (or224 (by omega) (by omega)) ?_)
      refine And.intro (by decide) (Exists.intro (r / 64) (And.intro (fd r 6 64 rfl (by decide)) ?_))
      refine Exists.intro (r / 64 % 256) (And.intro (w8 _) ?_)
      refine Exists.intro (r / 64 % 64) (And.intro (by rw [and63 (by omega) (by omega)]; omega) ?_)
      refine Exists.intro (128 + r / 64 % 64) (And.intro (or128 (by omega) (by omega)) ?_)
      refine Exists.intro (r % 256) (And.intro (w8 r) ?_)
      refine Exists.intro (r % 64) (And.intro (by rw [and63 (by omega) (by omega)]; omega) ?_)
      refine Exists.intro (128 + r % 64) (And.intro (or128 (by omega) (by omega)) ?_)
      refine And.intro ⟨⟨hx.1, hx.2.1, rfl⟩, ⟨rfl, rfl⟩, hb 3 (by decide)⟩ ?_
      intro zs o' c' hz
      obtain ⟨q1, q2⟩ := appRow hx rfl (rc_three hr3) rfl hz.1 hz.2.1 hz.2.2
      refine VRet.mk [0, 2] (.sl 1 o' (l.length + 3) c') [.gone, .arr zs T_uint8] ⟨rfl, rfl, rfl⟩ ⟨zs, o', c', ?_, rfl, q1⟩
      rw [← q2]; rfl
    have h4 := of_decide_eq_false h4
    refine And.intro (fun h5 => ?_) (fun h5 => ?_)
    · have h5 := of_decide_eq_true h5
      refine And.intro (fun h6 => ?_) (fun h6 => ?_)
      · have h6 := of_decide_eq_true h6
        have hr4 : 65536 ≤ r ∧ r ≤ 1114111 := by omega
        refine And.intro (by decide) (Exists.intro (r / 262144) (And.intro (fd r 18 262144 rfl (by decide)) ?_))
        refine Exists.intro (r / 262144) (And.intro (by rw [w8]; omega) ?_)
        refine Exists.intro (240 + r / 262144) (And.intro (or240 (by omega) (by omega)) ?_)
        refine And.intro (by decide) (Exists.intro (r / 4096) (And.intro (fd r 12 4096 rfl (by decide)) ?_))
        refine Exists.intro (r / 4096 % 256) (And.intro (w8 _) ?_)
        refine Exists.intro (r / 4096 % 64) (And.intro (by rw [and63 (by omega) (by omega)]; omega) ?_)
        refine Exists.intro (128 + r / 4096 % 64) (And.intro (or128 (by omega) (by omega)) ?_)
        refine And.intro (by decide) (Exists.intro (r / 64) (And.intro (fd r 6 64 rfl (by decide)) ?_))
        refine Exists.intro (r / 64 % 256) (And.intro (w8 _) ?_)
        refine Exists.intro (r / 64 % 64) (And.intro (by rw [and63 (by omega) (by omega)]; omega) ?_)
        refine Exists.intro (128 + r / 64 % 64) (And.intro (or128 (by omega) (by omega)) ?_)
        refine Exists.intro (r % 256) (And.intro (w8 r) ?_)
        refine Exists.intro (r % 64) (And.intro (by rw [and63 (by omega) (by omega)]; omega) ?_)
        refine Exists.intro (128 + r % 64) (And.intro (or128 (by omega) (by omega)) ?_)
        refine And.intro ⟨⟨hx.1, hx.2.1, rfl⟩, ⟨rfl, rfl⟩, hb 4 (by decide)⟩ ?_
        intro zs o' c' hz
        obtain ⟨q1, q2⟩ := appRow hx rfl (rc_four hr4.1 hr4.2) rfl hz.1 hz.2.1 hz.2.2
        refine VRet.mk [0, 2] (.sl 1 o' (l.length + 4) c') [.gone, .arr zs T_uint8] ⟨rfl, rfl, rfl⟩ ⟨zs, o', c', ?_, rfl, q1⟩
        rw [← q2]; rfl
      have h6 := of_decide_eq_false h6
      have hrb : r < 0 ∨ (55296 ≤ r ∧ r ≤ 57343) ∨ 1114111 < r := by omega
      refine And.intro ⟨⟨hx.1, hx.2.1, rfl⟩, ⟨rfl, rfl⟩, hb 3 (by decide)⟩ ?_
      intro zs o' c' hz
      obtain ⟨q1, q2⟩ := appRow hx rfl (rc_bad hrb) rfl hz.1 hz.2.1 hz.2.2
      refine VRet.mk [0, 2] (.sl 1 o' (l.length + 3) c') [.gone, .arr zs T_uint8] ⟨rfl, rfl, rfl⟩ ⟨zs, o', c', ?_, rfl, q1⟩
      rw [← q2]; rfl
    have h5 := of_decide_eq_false h5
    omega
  have h3 := of_decide_eq_false h3
  refine And.intro (fun h5 => absurd (of_decide_eq_true h5) (by omega)) (fun _ => ?_)
  have hrb : r < 0 ∨ (55296 ≤ r ∧ r ≤ 57343) ∨ 1114111 < r := by omega
  refine And.intro ⟨⟨hx.1, hx.2.1, rfl⟩, ⟨rfl, rfl⟩, hb 3 (by decide)⟩ ?_
  intro zs o' c' hz
  obtain ⟨q1, q2⟩ := appRow hx rfl (rc_bad hrb) rfl hz.1 hz.2.1 hz.2.2
  refine VRet.mk [0, 2] (.sl 1 o' (l.length + 3) c') [.gone, .arr zs T_uint8] ⟨rfl, rfl, rfl⟩ ⟨zs, o', c', ?_, rfl, q1⟩
  rw [← q2]; rfl
end Go.Proofs

namespace Go.Proofs
open Go Go.V Go.Lib
set_option maxRecDepth 100000
set_option linter.unusedVariables false
set_option linter.unusedSectionVars false
variable [V.Mode]

theorem rc_one {r : Int} (h : 0 ≤ r ∧ r ≤ 127) : runeCells r = [.int .u8 r] := by simp [runeCells, encodeRuneZ_one h.1 h.2]
theorem s_AppendRune (r : Int) (hr : -2147483648 ≤ r ∧ r ≤ 2147483647) (xs : List Value) (o c : Nat) (l : List UInt8) (hx : RowG bycl 1 xs o c l) (hl : l.length ≤ 1000000000) :
    Ctr Tryz.prog F_unicode_utf8_AppendRune [.sl 0 o l.length c, .raw (.int .i32 r)] [.arr xs T_uint8] (APost o l r) := by
  refine i_unicode_utf8_AppendRune.spec follows ?_
  refine Exists.intro (r % 4294967296) (And.intro (w32 r) ?_)
  refine And.intro (fun h1 => ?_) (fun h1 => ?_)
  · have h1 := of_decide_eq_true h1
    have hr0 : 0 ≤ r ∧ r ≤ 127 := by omega
    refine Exists.intro r (And.intro (by rw [w8]; omega) ?_)
    refine And.intro ⟨⟨hx.1, hx.2.1, rfl⟩, ⟨rfl, rfl⟩, show (l.length + 1) * 1 ≤ 1099511627776 by omega⟩ ?_
    intro zs o' c' hz
    obtain ⟨q1, q2⟩ := appRow hx rfl (rc_one hr0) rfl hz.1 hz.2.1 hz.2.2
    refine VRet.mk [0, 2] (.sl 1 o' (l.length + 1) c') [.gone, .arr zs T_uint8] ⟨rfl, rfl, rfl⟩ ⟨zs, o', c', ?_, rfl, q1⟩
    rw [← q2]; rfl
  · have h1 := of_decide_eq_false h1
    refine VCall.mk [0] (s_appendNA r hr (by omega) xs o c l hx hl) ⟨rfl, rfl, rfl⟩ ?_
    rintro _ _ ⟨zs, o', c', rfl, rfl, hz⟩
    exact VRet.mk [0, 1] (.sl 1 o' (l ++ encodeRune r).length c') [.gone, .arr zs T_uint8] ⟨rfl, rfl, rfl⟩ ⟨zs, o', c', rfl, rfl, hz⟩
/-- A builder that was written to. -/
abbrev bldH (xs : List Value) (o n c : Nat) : List SO := [.cells [.ptr 0 0, .sl 1 o n c] T_strings_Builder, .arr xs T_uint8]
theorem s_WriteRune (r : Int) (hr : -2147483648 ≤ r ∧ r ≤ 2147483647) (xs : List Value) (o c : Nat) (l : List UInt8) (hx : RowG bycl 1 xs o c l) (hl : l.length ≤ 1000000000) :
    Ctr Tryz.prog F_strings_Builder_WriteRune [.ptr 0 0, .raw (.int .i32 r)] (bldH xs o l.length c) (fun x H => ∃ k zs o' c', x = .tup [iv k, .raw .nilIface] ∧ H = [.cells [.ptr 0 0, .sl 2 o' (l ++ encodeRune r).length c'] T_strings_Builder, .gone, .arr zs T_uint8] ∧ RowG bycl 1 zs o' c' (l ++ encodeRune r)) := by
  refine i_strings_Builder_WriteRune.spec follows ?_
  refine VCall.mk [0, 1] (copyUsed_ctr Tryz.laysCopy copyX (.sl 1 o l.length c) [.arr xs T_uint8]) ⟨rfl, rfl, rfl⟩ ?_
  rintro _ _ ⟨rfl, rfl⟩
  refine VCall.mk [1] (s_AppendRune r hr xs o c l hx hl) ⟨rfl, rfl, rfl⟩ ?_
  rintro _ _ ⟨zs, o', c', rfl, rfl, hz⟩
  have hlen : (l ++ encodeRune r).length ≤ l.length + 4 := by rw [List.length_append, ← runeCells_length]; have := (runeCells_le r).2; omega
  refine Exists.intro (((l ++ encodeRune r).length : Int) - (l.length : Int)) (And.intro (wrap64 (by omega)) ?_)
  exact VRet.mk [0, 1, 2] (.tup [iv (((l ++ encodeRune r).length : Int) - (l.length : Int)), .raw .nilIface]) [.cells [.ptr 0 0, .sl 2 o' (l ++ encodeRune r).length c'] T_strings_Builder, .gone, .arr zs T_uint8] ⟨rfl, rfl, rfl⟩ ⟨_, zs, o', c', rfl, rfl, hz⟩
theorem s_WriteRune0 (r : Int) (hr : -2147483648 ≤ r ∧ r ≤ 2147483647) :
    Ctr Tryz.prog F_strings_Builder_WriteRune [.ptr 0 0, .raw (.int .i32 r)] [.cells [.raw (.pointer none), .raw (.slice none 0 0)] T_strings_Builder] (fun x H => ∃ k zs o' c', x = .tup [iv k, .raw .nilIface] ∧ H = [.cells [.ptr 0 0, .sl 1 o' (encodeRune r).length c'] T_strings_Builder, .arr zs T_uint8] ∧ RowG bycl 1 zs o' c' (encodeRune r)) := by
  refine i_strings_Builder_WriteRune.spec follows ?_
  refine VCall.mk [0] (copyFresh_ctr Tryz.laysCopy copyX (.raw (.slice none 0 0))) ⟨rfl, rfl, rfl⟩ ?_
  rintro _ _ ⟨rfl, rfl⟩
  refine VCall.nil T_uint8 [0] [] ⟨rfl, rfl⟩ ?_
  refine VCall.mk [1] (s_AppendRune r hr [] 0 0 [] ⟨Nat.le_refl _, by simp, by simp⟩ (by simp)) ⟨rfl, rfl, rfl⟩ ?_
  rintro _ _ ⟨zs, o', c', rfl, rfl, hz⟩
  have hlen : ([] ++ encodeRune r).length ≤ 4 := by rw [List.nil_append, ← runeCells_length]; exact (runeCells_le r).2
  refine Exists.intro ((([] ++ encodeRune r).length : Int) - ((0 : Nat) : Int)) (And.intro (wrap64 (by omega)) ?_)
  exact VRet.mk [0, 2] (.tup [iv (((encodeRune r).length : Int) - ((0 : Nat) : Int)), .raw .nilIface]) [.cells [.ptr 0 0, .sl 1 o' (encodeRune r).length c'] T_strings_Builder, .arr zs T_uint8] ⟨rfl, rfl, rfl⟩ ⟨_, zs, o', c', rfl, rfl, hz⟩
end Go.Proofs

namespace Go.Proofs
open Go Go.V Go.Lib
set_option maxRecDepth 100000
set_option linter.unusedVariables false

theorem RowG.snoc {α : Type} {cl : α → List Value} {k : Nat} {xs zs : List Value} {o c o' cp n : Nat} {d : List α} {x : α} (h : RowG cl k xs o c d) (hn : n = d.length) (h1 : n + 1 ≤ cp) (h2 : o' + cp * k ≤ zs.length) (h3 : (zs.drop o').take ((n + 1) * k) = (xs.drop o).take (n * k) ++ cl x) :
    RowG cl k zs o' cp (d ++ [x]) := by
  subst hn
  refine ⟨by simpa using h1, h2, ?_⟩
  rw [List.length_append, List.flatMap_append]
  rw [h.2.2] at h3
  simpa using h3
/-! ### A text's runes one by one -/
def decs (s : ByteArray) : Nat → Nat → List (Nat × Nat × Nat)
  | 0, _ => []
  | f + 1, p => if p < s.size then (p, (Utf8.decode s p).1, (Utf8.decode s p).2) :: decs s f (p + (Utf8.decode s p).2) else []
theorem runesFrom_decs (s : ByteArray) : ∀ f p, runesFrom s f p = bif (decs s f p).all (fun e => otherB (e.2.1 : Int) (decide ((e.1 : Int) = 0))) then some (decs s f p).length else none
  | 0, p => rfl
  | f + 1, p => by
    rw [runesFrom, decs]
    by_cases hp : p < s.size
    · rw [if_pos hp, if_pos hp, runesFrom_decs s f, List.all_cons, List.length_cons]
      by_cases h : otherB ((Utf8.decode s p).1 : Int) (decide ((p : Int) = 0)) = true
      · rw [if_pos h, h, Bool.true_and]
        cases (decs s f (p + (Utf8.decode s p).2)).all (fun e => otherB (e.2.1 : Int) (decide ((e.1 : Int) = 0))) <;> rfl
      · rw [if_neg h, Bool.eq_false_iff.2 h]; rfl
    · rw [if_neg hp, if_neg hp]; rfl
theorem decs_ge (s : ByteArray) : ∀ f p e, e ∈ decs s f p → p ≤ e.1
  | 0, p, e, h => by simp [decs] at h
  | f + 1, p, e, h => by
    rw [decs] at h
    split at h
    · rcases List.mem_cons.1 h with rfl | h
      · exact Nat.le_refl _
      · exact Nat.le_trans (Nat.le_add_right _ _) (decs_ge s f _ e h)
    · simp at h
theorem decs_rune (s : ByteArray) : ∀ f p e, e ∈ decs s f p → e.2.1 ≤ 2147483647
  | 0, p, e, h => by simp [decs] at h
  | f + 1, p, e, h => by
    rw [decs] at h
    split at h
    · rcases List.mem_cons.1 h with rfl | h
      · exact of_decide_eq_true (decide_eq_true (decode_le s p))
      · exact decs_rune s f _ e h
    · simp at h
abbrev rl (s : ByteArray) : List (Nat × Nat × Nat) := decs s (s.size + 1) 0
/-- May a rune stand in a name? -/
def partB (c : Int) : Bool := isLetterU c || (isDigitU c || decide (c = 45))
theorem rl_tail (s : ByteArray) {e : Nat × Nat × Nat} {D : List (Nat × Nat × Nat)} (h : rl s = e :: D) : e.1 = 0 ∧ ∀ x, x ∈ D → 0 < x.1 := by
  unfold rl at h
  rw [decs] at h
  split at h
  · rename_i hp
    injection h with h1 h2
    subst h1
    refine ⟨rfl, fun x hx => ?_⟩
    rw [← h2] at hx
    have := decs_ge s _ _ x hx
    have := decode_width_pos s 0 hp
    omega
  · cases h
def headB : List (Nat × Nat × Nat) → Bool
  | [] => false
  | e :: _ => isLetterU (e.2.1 : Int)
/-- The document's own words for a name. -/
def nameR (s : ByteArray) : Bool := decide (1 ≤ (rl s).length) && (decide ((rl s).length ≤ 20) && ((rl s).all fun e => partB (e.2.1 : Int)) && headB (rl s))
theorem goodName_eq (s : ByteArray) : goodName s = nameR s := by
  rw [goodName, runesFrom_decs, nameR]
  cases h : rl s with
  | nil =>
    have h : decs s (s.size + 1) 0 = [] := h
    rw [h]; rfl
  | cons e D =>
    obtain ⟨h0, hD⟩ := rl_tail s h
    have h : decs s (s.size + 1) 0 = e :: D := h
    rw [h]
    have e1 : (List.all D fun x => otherB (x.2.1 : Int) (decide ((x.1 : Int) = 0))) = D.all fun x => partB (x.2.1 : Int) := by
      rw [Bool.eq_iff_iff, List.all_eq_true, List.all_eq_true]
      refine forall_congr' fun x => forall_congr' fun hx => ?_
      have : ¬ x.1 = 0 := by have := hD x hx; omega
      simp [otherB, partB, this]
    simp only [List.all_cons, e1, h0, headB]
    cases hl : isLetterU (e.2.1 : Int)
    · simp [otherB, hl]
    · cases hp : (D.all fun x => partB (x.2.1 : Int))
      · simp [otherB, partB, hl]
      · simp [otherB, partB, hl]
        rw [Bool.eq_iff_iff]; simp; omega
theorem part_bad : partB 65533 = false := by decide +kernel
def i32cl (e : Nat × Nat × Nat) : List Value := [.int .i32 (e.2.1 : Int)]
def atcl (n : Nat) : List Value := [.int .i64 (n : Int)]
structure RNX where
  p : Nat
  n : Nat
  D : List (Nat × Nat × Nat)
  xs : List Value
  o1 : Nat
  c1 : Nat
  ys : List Value
  o2 : Nat
  c2 : Nat
theorem s_ref_Runes (s : ByteArray) (hs : s.size ≤ 100000000) : Ctr Tryz.prog F_rostrumref1_Runes [.raw (.string s)] []
    (fun x H => ∃ xs o1 c1 ys o2 c2, x = .tup [.sl 0 o1 (rl s).length c1, .sl 1 o2 ((rl s).length + 1) c2] ∧ H = [.arr xs T_int32, .arr ys T_int] ∧ RowG i32cl 1 xs o1 c1 (rl s) ∧ RowG atcl 1 ys o2 c2 ((rl s).map (·.1) ++ [s.size])) := by
  refine i_rostrumref1_Runes.spec follows ?_
  refine VLoop.nil T_int32 [4] [] ⟨rfl, rfl⟩ ?_
  refine VLoop.nil T_int [5] [] ⟨rfl, rfl⟩ ?_
  refine VLoop.mk RNX (fun x => [(0, .raw (.string s)), (4, .sl 1 x.o1 x.n x.c1), (5, .sl 2 x.o2 x.n x.c2), (9, .ptr 0 0)]) (fun x => [.siter s x.p, .arr x.xs T_int32, .arr x.ys T_int])
    (fun x => x.n = x.D.length ∧ x.n ≤ x.p ∧ (x.p < s.size ∨ x.n ≤ s.size) ∧ rl s = x.D ++ decs s (s.size + 1 - x.n) x.p ∧ RowG i32cl 1 x.xs x.o1 x.c1 x.D ∧ RowG atcl 1 x.ys x.o2 x.c2 (x.D.map (·.1))) (fun x => s.size - x.p) ⟨0, 0, [], [], 0, 0, [], 0, 0⟩ [0, 1, 2]
    ⟨⟨rfl, Nat.le_refl _, .inr (Nat.zero_le _), rfl, ⟨Nat.le_refl _, by simp, by simp⟩, ⟨Nat.le_refl _, by simp, by simp⟩⟩, rfl, rfl, rfl⟩ ?_
  rintro ⟨p, n, D, xs, o1, c1, ys, o2, c2⟩ ⟨hn, hnp, hns, hr, h1, h2⟩ g
  simp only at hn hnp hns hr h1 h2
  refine And.intro (fun hp c wd hd => ?_) (fun hp => ?_)
  · simp only at hp hd
    have hc : c ≤ 2147483647 := by have := decide_eq_true (decode_le s p); rw [hd] at this; exact of_decide_eq_true this
    have hw1 : 1 ≤ wd := by have := decode_width_pos s p hp; rw [hd] at this; exact this
    have hf : s.size + 1 - n = (s.size - n) + 1 := by omega
    rw [hf, decs, if_pos hp, hd] at hr
    refine And.intro ⟨⟨by rw [hn]; exact h1.1, h1.2.1, rfl⟩, ⟨rfl, rfl⟩, show (n + 1) * 4 ≤ 1099511627776 by omega⟩ ?_
    intro xs' o1' c1' hz1
    refine And.intro ⟨⟨by have := h2.1; rw [List.length_map] at this; rw [hn]; exact this, h2.2.1, rfl⟩, ⟨rfl, rfl⟩, show (n + 1) * 8 ≤ 1099511627776 by omega⟩ ?_
    intro ys' o2' c2' hz2
    refine Exists.intro ⟨p + wd, n + 1, D ++ [(p, c, wd)], xs', o1', c1', ys', o2', c2'⟩ (Exists.intro [0, 4, 6] (And.intro ⟨⟨?_, ?_, ?_, ?_, ?_, ?_⟩, ?_⟩ ⟨rfl, rfl, rfl⟩))
    · simp only; rw [List.length_append, ← hn]; rfl
    · simp only; omega
    · refine .inr ?_; simp only; omega
    · simp only
      rw [hr, show s.size + 1 - (n + 1) = s.size - n by omega]
      simp
    · exact RowG.snoc h1 hn hz1.1 hz1.2.1 hz1.2.2
    · simp only
      rw [List.map_append]
      exact RowG.snoc h2 (by rw [List.length_map]; exact hn) hz2.1 hz2.2.1 hz2.2.2
    · simp only; omega
  · simp only at hp
    have he : rl s = D := by
      rw [hr]
      have : decs s (s.size + 1 - n) p = [] := by
        cases hk : s.size + 1 - n with
        | zero => rfl
        | succ k => rw [decs, if_neg hp]
      rw [this, List.append_nil]
    refine And.intro ⟨⟨by have := h2.1; rw [List.length_map] at this; rw [hn]; exact this, h2.2.1, rfl⟩, ⟨rfl, rfl⟩, show (n + 1) * 8 ≤ 1099511627776 by omega⟩ ?_
    intro ys' o2' c2' hz2
    subst hn
    rw [he]
    refine VRet.mk [1, 4] (.tup [.sl 0 o1 D.length c1, .sl 1 o2' (D.length + 1) c2']) [.arr xs T_int32, .arr ys' T_int] ⟨rfl, rfl, rfl⟩ ⟨xs, o1, c1, ys', o2', c2', rfl, rfl, h1, ?_⟩
    exact RowG.snoc (x := s.size) h2 (by rw [List.length_map]) hz2.1 hz2.2.1 hz2.2.2
end Go.Proofs

namespace Go.Proofs
open Go Go.V Go.Lib
set_option maxRecDepth 100000
set_option linter.unusedVariables false

theorem RowG.one {α : Type} {cl : α → List Value} {xs : List Value} {o c : Nat} {d : List α} (h : RowG cl 1 xs o c d) (hk : ∀ x, (cl x).length = 1) {i : Nat} (hi : i < d.length) : xs[o + i * 1]? = (cl d[i])[0]? := by
  have := h.at hk hi (j := 0) (by omega)
  simpa using this
theorem decs_le (s : ByteArray) : ∀ f p e, e ∈ decs s f p → e.1 ≤ s.size
  | 0, p, e, h => by simp [decs] at h
  | f + 1, p, e, h => by
    rw [decs] at h
    split at h
    · rcases List.mem_cons.1 h with rfl | h
      · exact Nat.le_of_lt (by assumption)
      · exact decs_le s f _ e h
    · simp at h
theorem s_ref_bad (s : ByteArray) (xs ys : List Value) (o1 c1 o2 c2 : Nat) (h1 : RowG i32cl 1 xs o1 c1 (rl s)) (h2 : RowG atcl 1 ys o2 c2 ((rl s).map (·.1) ++ [s.size])) (i : Nat) (hi : i < (rl s).length) (hl : (rl s).length ≤ 100000000) (hs : s.size ≤ 100000000) :
    Ctr Tryz.prog F_rostrumref1_bad [.raw (.string s), .sl 0 o1 (rl s).length c1, .sl 1 o2 ((rl s).length + 1) c2, iv i] [.arr xs T_int32, .arr ys T_int]
    (fun x H => ∃ b, x = bv b ∧ (b = true → (((rl s)[i].2.1 : Nat) : Int) = 65533) ∧ H = [.arr xs T_int32, .arr ys T_int]) := by
  have hx := RowG.one h1 (fun _ => rfl) hi
  have hal : ((rl s).map (·.1) ++ [s.size]).length = (rl s).length + 1 := by simp
  have hy : ∀ j, j < (rl s).length + 1 → ∃ n : Nat, ys[o2 + j * 1]? = some (.int .i64 (n : Int)) ∧ n ≤ s.size := by
    intro j hj
    have hj' : j < ((rl s).map (·.1) ++ [s.size]).length := by omega
    refine ⟨_, RowG.one h2 (fun _ => rfl) hj', ?_⟩
    by_cases e : j < (rl s).length
    · rw [List.getElem_append_left (by simpa using e), List.getElem_map]
      exact decs_le s _ _ _ (List.getElem_mem e)
    · rw [List.getElem_append_right (by simp; omega)]; simp
  have ha := hy (i + 1) (by omega)
  obtain ⟨n1, ha1, ha2⟩ := ha
  have hb := hy i (by omega)
  obtain ⟨n0, hb1, hb2⟩ := hb
  have hr1 : o1 + (rl s).length * 1 ≤ xs.length := by have := h1.2.1; have := h1.1; omega
  have hr2 : o2 + ((rl s).length + 1) * 1 ≤ ys.length := by have := h2.2.1; have := h2.1; rw [List.length_append, List.length_map] at this; simp at this; omega
  have hni : (0 : Int) ≤ (i : Int) ∧ (i : Int) < ((rl s).length : Nat) := ⟨Int.natCast_nonneg i, by omega⟩
  have hw : IntKind.i64.wrap ((i : Int) + 1) = ((i + 1 : Nat) : Int) := wrap64 (by omega)
  refine i_rostrumref1_bad.spec follows ?_
  refine And.intro ⟨hni.1, hni.2, hr1⟩ (Exists.intro _ (And.intro (by rw [Int.toNat_natCast]; exact hx) ?_))
  refine And.intro (fun k1 => ?_) (fun k1 => ?_)
  · refine Exists.intro _ (And.intro hw ?_)
    refine And.intro ⟨Int.natCast_nonneg _, show ((i + 1 : Nat) : Int) < (((rl s).length + 1 : Nat) : Int) by omega, hr2⟩ (Exists.intro _ (And.intro (by rw [Int.toNat_natCast]; exact ha1) ?_))
    refine And.intro ⟨hni.1, show (i : Int) < (((rl s).length + 1 : Nat) : Int) by omega, hr2⟩ (Exists.intro _ (And.intro (by rw [Int.toNat_natCast]; exact hb1) ?_))
    have hws : IntKind.i64.wrap ((n1 : Int) - (n0 : Int)) = (n1 : Int) - (n0 : Int) := wrap64 (by omega)
    refine Exists.intro _ (And.intro hws ?_)
    exact VRet.mk [0, 1] (bv _) [.arr xs T_int32, .arr ys T_int] ⟨rfl, rfl, rfl⟩ ⟨_, rfl, fun _ => of_decide_eq_true k1, rfl⟩
  · exact VRet.mk [0, 1] (bv _) [.arr xs T_int32, .arr ys T_int] ⟨rfl, rfl, rfl⟩ ⟨false, rfl, fun h => absurd h (by simp), rfl⟩
theorem s_ref_GoodName (h : Nat → Option Obj) (hu : Uni h) (s : ByteArray) (hs : s.size ≤ 100000000) :
    Ctr Tryz.prog F_rostrumref1_GoodName [.raw (.string s)] [.heap h] (fun x H => x = bv (goodName s) ∧ H = [.heap h]) := by
  have fin : ∀ b : Bool, nameR s = b → (fun (x : SV) (H : List SO) => x = bv (goodName s) ∧ H = [SO.heap h]) (bv b) [.heap h] := fun b hb => ⟨by rw [goodName_eq, hb], rfl⟩
  refine i_rostrumref1_GoodName.spec follows ?_
  refine VCall.mk [] (s_ref_Runes s hs) ⟨rfl, rfl, rfl⟩ ?_
  rintro _ _ ⟨xs, o1, c1, ys, o2, c2, rfl, rfl, h1, h2⟩
  have hr1 : o1 + (rl s).length * 1 ≤ xs.length := by have := h1.2.1; have := h1.1; omega
  have hx : ∀ i (hi : i < (rl s).length), xs[o1 + i * 1]? = some (.int .i32 ((rl s)[i].2.1 : Int)) := fun i hi => RowG.one h1 (fun _ => rfl) hi
  have hrune : ∀ i (hi : i < (rl s).length), (-2147483648 : Int) ≤ ((rl s)[i].2.1 : Int) ∧ ((rl s)[i].2.1 : Int) ≤ 2147483647 := fun i hi => by
    have := decs_rune s _ _ _ (List.getElem_mem hi); omega
  refine And.intro (fun k1 => ?_) (fun k1 => ?_)
  rotate_left 1
  · have k1 := of_decide_eq_true k1
    refine VRet.mk [0] (bv false) [.heap h] ⟨rfl, rfl, rfl⟩ (fin false ?_)
    rw [nameR, decide_eq_false (by omega)]; rfl
  have k1 := of_decide_eq_false k1
  have hl0 : 0 < (rl s).length := by omega
  refine And.intro (fun k2 => ?_) (fun k2 => ?_)
  rotate_left 1
  · have k2 := of_decide_eq_true k2
    refine VRet.mk [0] (bv false) [.heap h] ⟨rfl, rfl, rfl⟩ (fin false ?_)
    rw [nameR, decide_eq_false (p := (rl s).length ≤ 20) (by omega)]; simp
  have k2 := of_decide_eq_false k2
  have hl20 : (rl s).length ≤ 20 := by omega
  have x0 := hx 0 hl0
  refine And.intro ⟨by decide, show (0 : Int) < ((rl s).length : Nat) by omega, hr1⟩ (Exists.intro _ (And.intro x0 ?_))
  refine VCall.mk [0] (s_IsLetter h hu _ (hrune 0 hl0)) ⟨rfl, rfl, rfl⟩ ?_
  rintro _ _ ⟨rfl, rfl⟩
  have hhd : headB (rl s) = isLetterU ((rl s)[0].2.1 : Int) := by
    generalize rl s = D at hl0
    cases D with
    | nil => simp at hl0
    | cons e D => rfl
  refine And.intro (fun k3 => ?_) (fun k3 => ?_)
  · have k3 : isLetterU ((rl s)[0].2.1 : Int) = false := by simpa using k3
    refine VRet.mk [0] (bv false) [.heap h] ⟨rfl, rfl, rfl⟩ (fin false ?_)
    rw [nameR, hhd, k3]; simp
  have k3 : isLetterU ((rl s)[0].2.1 : Int) = true := by simpa using k3
  have bad : ∀ i (hi : i < (rl s).length), partB ((rl s)[i].2.1 : Int) = false → nameR s = false := by
    intro i hi hp
    have : ((rl s).all fun e => partB (e.2.1 : Int)) = false := by
      rw [Bool.eq_false_iff, Ne, List.all_eq_true]
      intro hh
      have := hh _ (List.getElem_mem hi)
      rw [hp] at this; cases this
    rw [nameR, this]; simp
  refine VLoop.mk Nat (fun i => [(0, .raw (.string s)), (3, .sl 1 o1 (rl s).length c1), (4, .sl 2 o2 ((rl s).length + 1) c2), (5, iv i)]) (fun i => [.heap h, .arr xs T_int32, .arr ys T_int])
    (fun i => i ≤ (rl s).length ∧ ∀ j (hj : j < (rl s).length), j < i → partB ((rl s)[j].2.1 : Int) = true) (fun i => (rl s).length - i) 0 [0, 1, 2] ⟨⟨Nat.zero_le _, fun j _ hj => by omega⟩, rfl, rfl, rfl⟩ ?_
  rintro i ⟨hi, hall⟩ g
  refine And.intro (fun k4 => ?_) (fun k4 => ?_)
  · have k4 := of_decide_eq_true k4
    have hil : i < (rl s).length := by omega
    have hwi : IntKind.i64.wrap ((i : Int) + 1) = ((i + 1 : Nat) : Int) := wrap64 (by omega)
    have xi := hx i hil
    refine VCall.mk [1, 2] (s_ref_bad s xs ys o1 c1 o2 c2 h1 h2 i hil (by omega) hs) ⟨rfl, rfl, rfl⟩ ?_
    rintro _ _ ⟨b, rfl, hb, rfl⟩
    have done : partB ((rl s)[i].2.1 : Int) = true → i + 1 ≤ (rl s).length ∧ ∀ j (hj : j < (rl s).length), j < i + 1 → partB ((rl s)[j].2.1 : Int) = true := fun hp => ⟨hil, fun j hj hji => by
      by_cases e : j = i
      · subst e; exact hp
      · exact hall j hj (by omega)⟩
    refine And.intro (fun k5 => ?_) (fun k5 => ?_)
    rotate_left 1
    · refine VRet.mk [0] (bv false) [.heap h] ⟨rfl, rfl, rfl⟩ (fin false (bad i hil ?_))
      rw [hb k5]; exact part_bad
    refine And.intro ⟨Int.natCast_nonneg i, k4, hr1⟩ (Exists.intro _ (And.intro (by rw [Int.toNat_natCast]; exact xi) ?_))
    refine VCall.mk [0] (s_IsLetter h hu _ (hrune i hil)) ⟨rfl, rfl, rfl⟩ ?_
    rintro _ _ ⟨rfl, rfl⟩
    refine And.intro (fun k6 => ?_) (fun k6 => ?_)
    · have k6 : isLetterU ((rl s)[i].2.1 : Int) = false := by simpa using k6
      refine And.intro ⟨Int.natCast_nonneg i, k4, hr1⟩ (Exists.intro _ (And.intro (by rw [Int.toNat_natCast]; exact xi) ?_))
      refine VCall.mk [0] (s_IsDigit h hu _ (hrune i hil)) ⟨rfl, rfl, rfl⟩ ?_
      rintro _ _ ⟨rfl, rfl⟩
      refine And.intro (fun k7 => ?_) (fun k7 => ?_)
      · have k7 : isDigitU ((rl s)[i].2.1 : Int) = false := by simpa using k7
        refine And.intro ⟨Int.natCast_nonneg i, k4, hr1⟩ (Exists.intro _ (And.intro (by rw [Int.toNat_natCast]; exact xi) ?_))
        refine And.intro (fun k8 => ?_) (fun k8 => ?_)
        · refine VRet.mk [0] (bv false) [.heap h] ⟨rfl, rfl, rfl⟩ (fin false (bad i hil ?_))
          have k8 : ¬ ((rl s)[i].2.1 : Int) = 45 := by simpa using k8
          rw [partB, k6, k7, decide_eq_false k8]; rfl
        · have k8 : ((rl s)[i].2.1 : Int) = 45 := by simpa using k8
          refine Exists.intro _ (And.intro hwi ?_)
          exact Exists.intro (i + 1) (Exists.intro [0, 1, 2] (And.intro ⟨done (by rw [partB, k6, k7, decide_eq_true k8]; rfl), by omega⟩ ⟨rfl, rfl, rfl⟩))
      · have k7 : isDigitU ((rl s)[i].2.1 : Int) = true := by simpa using k7
        refine Exists.intro _ (And.intro hwi ?_)
        exact Exists.intro (i + 1) (Exists.intro [0, 1, 2] (And.intro ⟨done (by rw [partB, k7]; simp), by omega⟩ ⟨rfl, rfl, rfl⟩))
    · have k6 : isLetterU ((rl s)[i].2.1 : Int) = true := by simpa using k6
      refine Exists.intro _ (And.intro hwi ?_)
      exact Exists.intro (i + 1) (Exists.intro [0, 1, 2] (And.intro ⟨done (by rw [partB, k6]; simp), by omega⟩ ⟨rfl, rfl, rfl⟩))
  · have k4 := of_decide_eq_false k4
    refine VRet.mk [0] (bv true) [.heap h] ⟨rfl, rfl, rfl⟩ (fin true ?_)
    have : ((rl s).all fun e => partB (e.2.1 : Int)) = true := by
      rw [List.all_eq_true]
      intro e he
      obtain ⟨j, hj, rfl⟩ := List.mem_iff_getElem.1 he
      exact hall j hj (by omega)
    rw [nameR, hhd, k3, this, decide_eq_true (by omega), decide_eq_true hl20]; rfl
end Go.Proofs

namespace Go.Proofs
open Go Go.V Go.Lib
set_option maxRecDepth 100000
set_option linter.unusedVariables false

/-! ### Folded names -/
/-- A heap that holds unicode's table of cases. -/
def CaseH (h : Nat → Option Obj) : Prop := ∀ w : World, (∀ b o, h b = some o → w.heap[b]? = some o) → CaseVar (Tryz.laysLower_ren.g 13) caseA w
theorem s_ToLower (h : Nat → Option Obj) (hu : CaseH h) (r : Int) :
    Ctr Tryz.prog F_unicode_ToLower [.raw (.int .i32 r)] [.heap h] (fun x H => x = .raw (.int .i32 (toLowerU r)) ∧ H = [.heap h]) :=
  ctr_of_below rfl [.int .i32 r] h (.int .i32 (toLowerU r)) fun w hw => by
    refine Calls.mono (Any.unicode_ToLower_laid Tryz.laysLower r w (hu w hw)) ?_
    rintro e w' ⟨rfl, q, rfl⟩
    exact ⟨rfl, ⟨rfl, rfl, rfl, Nat.le_refl _, fun _ _ => rfl⟩⟩
theorem lower_le {r : Int} (hr : -2147483648 ≤ r ∧ r ≤ 2147483647) : -2147483648 ≤ toLowerU r ∧ toLowerU r ≤ 2147483647 := by
  unfold toLowerU
  split
  · split <;> omega
  · rw [← toW_caseA 1 (by omega) r]
    unfold toW
    split
    · unfold RowKit.wrap32; omega
    · exact hr
def foldD (D : List (Nat × Nat × Nat)) : List UInt8 := D.flatMap fun e => encodeRune (toLowerU (e.2.1 : Int))
def foldB (s : ByteArray) : ByteArray := ⟨(foldD (rl s)).toArray⟩
theorem encodeRune_le (r : Int) : 0 < (encodeRune r).length ∧ (encodeRune r).length ≤ 4 := by
  rw [← runeCells_length]; have := runeCells_le r; omega
theorem foldD_snoc (D : List (Nat × Nat × Nat)) (e : Nat × Nat × Nat) : foldD (D ++ [e]) = foldD D ++ encodeRune (toLowerU (e.2.1 : Int)) := by simp [foldD]
theorem foldD_le : ∀ D : List (Nat × Nat × Nat), D.length ≤ (foldD D).length ∧ (foldD D).length ≤ 4 * D.length
  | [] => by simp [foldD]
  | e :: D => by
    have h := foldD_le D
    have h1 := encodeRune_le (toLowerU (e.2.1 : Int))
    simp only [foldD, List.flatMap_cons, List.length_append, List.length_cons] at *
    omega
theorem extraB : Builder.Extra Tryz.prog Tryz.laysBStr_ren where
  sizeBuilder := by kernel_rfl
  liesBuilder := by kernel_rfl
  t5 := by kernel_rfl
  a5 := fun w => Tryz.isAgg5 w
  z5 := fun w => Tryz.sizeOf5 w
  v5 := fun w => Tryz.zeroValue5 w
  infoByte := by kernel_rfl
  cellsByte := by kernel_rfl
  sizeByte := by kernel_rfl
  neB5 := by decide
theorem bstr0_ctr : Ctr Tryz.prog F_strings_Builder_String [.ptr 0 0] [.cells [.raw (.pointer none), .raw (.slice none 0 0)] T_strings_Builder] (fun x H => x = .raw (.string ⟨#[]⟩) ∧ H = [.cells [.raw (.pointer none), .raw (.slice none 0 0)] T_strings_Builder]) := by
  intro ρ g w hS hb
  obtain ⟨b, e1, e2⟩ := hS.ent 0 _ rfl
  have hv : valL ρ [.ptr 0 0] = [.pointer (some ⟨b, 0, none⟩)] := by simp [valL, val, e1]
  rw [hv]
  have e2' : w.heap[b]? = some (.cells #[.pointer none, .slice none 0 0] T_strings_Builder (0, 0)) := by rw [e2]; simp [valL, val]
  refine Calls.mono (Any.Builder_String_nil Tryz.laysBStr extraB w.heap.size b (.pointer none) w e2') ?_
  rintro e w' ⟨rfl, hB⟩
  exact ⟨ρ, .raw (.string ⟨#[]⟩), _, rfl, hS.below rfl hB, fun _ _ => rfl, Nat.le_refl _, rfl, rfl, rfl⟩
structure FX where
  p : Nat
  D : List (Nat × Nat × Nat)
  buf : Option (List Value × Nat × Nat)
def FXH (h : Nat → Option Obj) (s : ByteArray) : FX → List SO
  | ⟨p, D, none⟩ => [.heap h, .cells [.raw (.pointer none), .raw (.slice none 0 0)] T_strings_Builder, .siter s p]
  | ⟨p, D, some (xs, o, c)⟩ => [.heap h, .cells [.ptr 1 0, .sl 3 o (foldD D).length c] T_strings_Builder, .siter s p, .arr xs T_uint8]
def FXI (s : ByteArray) : FX → Prop
  | ⟨p, D, none⟩ => (D.length ≤ p ∧ (p < s.size ∨ D.length ≤ s.size) ∧ rl s = D ++ decs s (s.size + 1 - D.length) p) ∧ D = []
  | ⟨p, D, some (xs, o, c)⟩ => (D.length ≤ p ∧ (p < s.size ∨ D.length ≤ s.size) ∧ rl s = D ++ decs s (s.size + 1 - D.length) p) ∧ D ≠ [] ∧ RowG bycl 1 xs o c (foldD D)
theorem fold_next {s : ByteArray} {D : List (Nat × Nat × Nat)} {p c wd : Nat} (hp : p < s.size) (hd : Utf8.decode s p = (c, wd)) (hD : D.length ≤ p ∧ (p < s.size ∨ D.length ≤ s.size) ∧ rl s = D ++ decs s (s.size + 1 - D.length) p) :
    (D ++ [(p, c, wd)]).length ≤ p + wd ∧ (p + wd < s.size ∨ (D ++ [(p, c, wd)]).length ≤ s.size) ∧ rl s = (D ++ [(p, c, wd)]) ++ decs s (s.size + 1 - (D ++ [(p, c, wd)]).length) (p + wd) := by
  obtain ⟨h1, h2, h3⟩ := hD
  have hw1 : 1 ≤ wd := by have := decode_width_pos s p hp; rw [hd] at this; exact this
  rw [List.length_append, List.length_singleton]
  refine ⟨by omega, .inr (by omega), ?_⟩
  rw [show s.size + 1 - D.length = (s.size + 1 - (D.length + 1)) + 1 by omega, decs, if_pos hp, hd] at h3
  rw [h3]; simp
theorem fold_end {s : ByteArray} {D : List (Nat × Nat × Nat)} {p : Nat} (hp : ¬ p < s.size) (h3 : rl s = D ++ decs s (s.size + 1 - D.length) p) : rl s = D := by
  have : decs s (s.size + 1 - D.length) p = [] := by
    cases s.size + 1 - D.length with
    | zero => rfl
    | succ k => rw [decs, if_neg hp]
  rw [h3, this, List.append_nil]
theorem s_name_Fold (h : Nat → Option Obj) (hu : CaseH h) (s : ByteArray) (hs : s.size ≤ 100000000) :
    Ctr Tryz.prog F_name_Fold [.raw (.string s)] [.heap h] (fun x H => x = .raw (.string (foldB s)) ∧ H = [.heap h]) := by
  refine i_name_Fold.spec follows ?_
  refine VLoop.mk FX (fun x => [(3, .ptr 1 0), (7, .ptr 2 0)]) (FXH h s) (FXI s) (fun x => s.size - x.p) ⟨0, [], none⟩ [0, 1, 2]
    ⟨⟨⟨Nat.le_refl _, .inr (Nat.zero_le _), rfl⟩, rfl⟩, rfl, rfl, rfl⟩ ?_
  rintro ⟨p, D, (_ | ⟨xs, o, c0⟩)⟩ hI g
  · obtain ⟨hD, h0⟩ := hI
    subst h0
    refine And.intro (fun hp c wd hd => ?_) (fun hp => ?_)
    · skip
      have hc : c ≤ 2147483647 := by have := decide_eq_true (decode_le s p); rw [hd] at this; exact of_decide_eq_true this
      refine VCall.mk [0] (s_ToLower h hu (c : Int)) ⟨rfl, rfl, rfl⟩ ?_
      rintro _ _ ⟨rfl, rfl⟩
      refine VCall.mk [1] (s_WriteRune0 (toLowerU (c : Int)) (lower_le (by omega))) ⟨rfl, rfl, rfl⟩ ?_
      rintro _ _ ⟨k, zs, o', c', rfl, rfl, hz⟩
      have hn := fold_next hp hd hD
      have hw1 : 1 ≤ wd := by have := decode_width_pos s p hp; rw [hd] at this; exact this
      have hf : foldD ([] ++ [(p, c, wd)]) = encodeRune (toLowerU (c : Int)) := by rw [foldD_snoc]; rfl
      refine Exists.intro ⟨p + wd, [] ++ [(p, c, wd)], some (zs, o', c')⟩ (Exists.intro [0, 1, 2, 3] (And.intro ⟨⟨hn, by simp, by rw [hf]; exact hz⟩, by simp only; omega⟩ ⟨rfl, ?_, rfl⟩))
      simp only [FXH, hf]; rfl
    · have he := fold_end hp hD.2.2
      refine VCall.mk [1] bstr0_ctr ⟨rfl, rfl, rfl⟩ ?_
      rintro _ _ ⟨rfl, rfl⟩
      exact VRet.mk [0] (.raw (.string ⟨#[]⟩)) [.heap h] ⟨rfl, rfl, rfl⟩ ⟨by rw [foldB, he]; rfl, rfl⟩
  · obtain ⟨hD, h0, hx⟩ := hI
    refine And.intro (fun hp c wd hd => ?_) (fun hp => ?_)
    · skip
      have hc : c ≤ 2147483647 := by have := decide_eq_true (decode_le s p); rw [hd] at this; exact of_decide_eq_true this
      have hl4 : (foldD D).length ≤ 1000000000 := by have := (foldD_le D).2; omega
      refine VCall.mk [0] (s_ToLower h hu (c : Int)) ⟨rfl, rfl, rfl⟩ ?_
      rintro _ _ ⟨rfl, rfl⟩
      refine VCall.mk [1, 3] (s_WriteRune (toLowerU (c : Int)) (lower_le (by omega)) xs o c0 (foldD D) hx hl4) ⟨rfl, rfl, rfl⟩ ?_
      rintro _ _ ⟨k, zs, o', c', rfl, rfl, hz⟩
      have hn := fold_next hp hd hD
      have hw1 : 1 ≤ wd := by have := decode_width_pos s p hp; rw [hd] at this; exact this
      have hf : foldD (D ++ [(p, c, wd)]) = foldD D ++ encodeRune (toLowerU (c : Int)) := foldD_snoc _ _
      refine Exists.intro ⟨p + wd, D ++ [(p, c, wd)], some (zs, o', c')⟩ (Exists.intro [0, 1, 2, 4] (And.intro ⟨⟨hn, by simp, by rw [hf]; exact hz⟩, by simp only; omega⟩ ⟨rfl, ?_, rfl⟩))
      simp only [FXH, hf]; rfl
    · have he := fold_end hp hD.2.2
      have hl4 := foldD_le D
      have hne : foldD D ≠ [] := by
        intro e
        rw [e] at hl4
        exact h0 (List.length_eq_zero_iff.1 (by simpa using hl4.1))
      have hl63 : (foldD D).length ≤ 9223372036854775807 := by omega
      refine VCall.mk [1, 3] (bstr_ctr Tryz.laysBStr (by kernel_rfl) (.ptr 0 0) rfl xs o c0 (foldD D) hne hx hl63) ⟨rfl, rfl, rfl⟩ ?_
      rintro _ _ ⟨rfl, rfl⟩
      exact VRet.mk [0] (.raw (.string ⟨(foldD D).toArray⟩)) [.heap h] ⟨rfl, rfl, rfl⟩ ⟨by rw [foldB, he], rfl⟩
end Go.Proofs

