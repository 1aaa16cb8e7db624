/- Part of the proof that the statement named in the last file holds: lemmas of the prover's own. No conditions. -/
import Derived.Test.YtnhhjfkcmhbblaaDoorVD
import Derived.Test.YtnhhjfkcmhbblaaDoorK12
import Derived.Test.YtnhhjfkcmhbblaaDoorL12
import Derived.Shelf.Strings.OnBuilder
import Derived.Shelf.Strconv.Itoa4
import Derived.Shelf.Slices.In.SortNone
namespace Go.Proofs
open Go Go.V
set_option maxRecDepth 100000
set_option linter.unusedVariables false
set_option linter.unusedSectionVars false
variable [V.Mode]

def isRep (n : Int) : Bool := decide (0 ≤ n ∧ n < 7)
theorem isRep_iff {n : Int} : isRep n = true ↔ 0 ≤ n ∧ n < 7 := by simp [isRep]
theorem isRep_not {n : Int} : isRep n = false ↔ ¬ (0 ≤ n ∧ n < 7) := by simp [isRep]
theorem s_vec_Rep (n : Int) : Ctr Tryd.prog F_vec_Rep [iv n] [] (fun v H => v = bv (isRep n) ∧ H = []) := by
  refine i_vec_Rep.spec follows ?_
  refine And.intro (fun h => ?_) (fun h => ?_)
  · refine VRet.mk [] (bv _) [] ⟨rfl, rfl, rfl⟩ ⟨?_, rfl⟩
    show bv _ = bv _
    have h := of_decide_eq_true h
    simp [isRep, h]
  · refine VRet.mk [] (bv _) [] ⟨rfl, rfl, rfl⟩ ⟨?_, rfl⟩
    show bv _ = bv _
    have h := of_decide_eq_false h
    simp [isRep, h]
def isDot (r n : Int) : Bool := isRep r && (decide (1 ≤ n) && decide (n ≤ 1099511627776))
theorem s_vec_Dot (r n : Int) : Ctr Tryd.prog F_vec_Dot [.agg (dcells r n)] [] (fun v H => v = bv (isDot r n) ∧ H = []) := by
  refine i_vec_Dot.spec follows ?_
  refine VCall.mk [] (s_vec_Rep _) ⟨rfl, rfl, rfl⟩ ?_
  rintro _ _ ⟨rfl, rfl⟩
  refine And.intro (fun h => ?_) (fun h => ?_)
  · refine And.intro (fun h2 => ?_) (fun h2 => ?_)
    · refine VRet.mk [] (bv _) [] ⟨rfl, rfl, rfl⟩ ⟨?_, rfl⟩
      show bv _ = bv _
      simp [isDot, h, h2]
    · refine VRet.mk [] (bv _) [] ⟨rfl, rfl, rfl⟩ ⟨?_, rfl⟩
      show bv _ = bv _
      simp [isDot, h, h2]
  · refine VRet.mk [] (bv _) [] ⟨rfl, rfl, rfl⟩ ⟨?_, rfl⟩
    show bv _ = bv _
    simp [isDot, h]
def has (v : Nat → Int) (r n : Int) : Bool := isRep r && (decide (1 ≤ n) && decide (n ≤ v r.toNat))
theorem s_vec_Has (v : Nat → Int) (r n : Int) : Ctr Tryd.prog F_vec_Has [.agg (vcells v), .agg (dcells r n)] [] (fun x H => x = bv (has v r n) ∧ H = []) := by
  refine i_vec_Has.spec follows ?_
  refine VCall.mk [] (s_vec_Rep _) ⟨rfl, rfl, rfl⟩ ?_
  rintro _ _ ⟨rfl, rfl⟩
  refine And.intro (fun h => ?_) (fun h => ?_)
  · refine And.intro (fun h2 => ?_) (fun h2 => ?_)
    · refine And.intro (isRep_iff.1 h) (Exists.intro _ (And.intro (vcells_get' v (isRep_iff.1 h) []) ?_))
      refine VRet.mk [] (bv _) [] ⟨rfl, rfl, rfl⟩ ⟨?_, rfl⟩
      show bv _ = bv _
      simp [has, h, h2]
    · refine VRet.mk [] (bv _) [] ⟨rfl, rfl, rfl⟩ ⟨?_, rfl⟩
      show bv _ = bv _
      simp [has, h, h2]
  · refine VRet.mk [] (bv _) [] ⟨rfl, rfl, rfl⟩ ⟨?_, rfl⟩
    show bv _ = bv _
    simp [has, h]
abbrev encD (d : Int × Int) : Value := .agg #[.int .i64 d.1, .int .i64 d.2]
theorem keyT_Dot {mt et : TypeId} (h : Tryd.prog.underlying mt = some (.map T_api_Dot et)) : KeyT Tryd.prog mt et encD where
  ex := by
    have h1 : clsT Tryd.prog 2 T_api_Dot = some [.i, .i] := by kernel_rfl
    have h2 : isAggT Tryd.prog T_api_Dot = some true := by kernel_rfl
    refine ⟨T_api_Dot, 2, _, h, by omega, by omega, h1, fun a => ⟨[.int .i64 a.1, .int .i64 a.2], by simp [mkV, h2], rfl, fun b ys hb hl => ?_⟩⟩
    have : ys = [.int .i64 b.1, .int .i64 b.2] := by
      simp only [mkV, h2, if_true] at hb
      injection hb with hb
      have := congrArg Array.toList hb
      simpa using this.symm
    subst this
    refine ⟨decide (a.1 = b.1) && decide (a.2 = b.2), by simp [eqV, eq1V], ?_⟩
    simp [Prod.ext_iff]
  bits := fun a => by simp [Instr.sameBits]
theorem s_isNaN_int (n : Int) : Ctr Tryd.prog F_cmp_isNaN_int [iv n] [] (fun v H => v = bv false ∧ H = []) := by
  refine i_cmp_isNaN_int.spec follows ?_
  refine VRet.mk [] (bv _) [] ⟨rfl, rfl, rfl⟩ ⟨?_, rfl⟩
  show bv _ = bv _
  simp
theorem s_isNaN_int64 (n : Int) : Ctr Tryd.prog F_cmp_isNaN_int64 [iv n] [] (fun v H => v = bv false ∧ H = []) := by
  refine i_cmp_isNaN_int64.spec follows ?_
  refine VRet.mk [] (bv _) [] ⟨rfl, rfl, rfl⟩ ⟨?_, rfl⟩
  show bv _ = bv _
  simp
def cmpI (a b : Int) : Int := if a < b then -1 else if b < a then 1 else 0
theorem s_Compare_int (a b : Int) : Ctr Tryd.prog F_cmp_Compare_int [iv a, iv b] [] (fun v H => v = iv (cmpI a b) ∧ H = []) := by
  refine i_cmp_Compare_int.spec follows ?_
  refine VCall.mk [] (s_isNaN_int a) ⟨rfl, rfl, rfl⟩ ?_
  rintro _ _ ⟨rfl, rfl⟩
  refine VCall.mk [] (s_isNaN_int b) ⟨rfl, rfl, rfl⟩ ?_
  rintro _ _ ⟨rfl, rfl⟩
  refine And.intro (fun h => Bool.noConfusion h) (fun _ => ?_)
  refine And.intro (fun h => Bool.noConfusion h) (fun _ => ?_)
  refine And.intro (fun h => ?_) (fun h => ?_)
  · refine VRet.mk [] (iv _) [] ⟨rfl, rfl, rfl⟩ ⟨?_, rfl⟩
    show iv _ = iv _
    have h := of_decide_eq_true h
    simp [cmpI, h]
  have h := of_decide_eq_false h
  refine And.intro (fun h2 => ?_) (fun h2 => ?_)
  · refine VRet.mk [] (iv _) [] ⟨rfl, rfl, rfl⟩ ⟨?_, rfl⟩
    show iv _ = iv _
    have h2 := of_decide_eq_true h2
    simp [cmpI, h, h2]
  · refine VRet.mk [] (iv _) [] ⟨rfl, rfl, rfl⟩ ⟨?_, rfl⟩
    show iv _ = iv _
    have h2 := of_decide_eq_false h2
    simp [cmpI, h, h2]
theorem s_Compare_int64 (a b : Int) : Ctr Tryd.prog F_cmp_Compare_int64 [iv a, iv b] [] (fun v H => v = iv (cmpI a b) ∧ H = []) := by
  refine i_cmp_Compare_int64.spec follows ?_
  refine VCall.mk [] (s_isNaN_int64 a) ⟨rfl, rfl, rfl⟩ ?_
  rintro _ _ ⟨rfl, rfl⟩
  refine VCall.mk [] (s_isNaN_int64 b) ⟨rfl, rfl, rfl⟩ ?_
  rintro _ _ ⟨rfl, rfl⟩
  refine And.intro (fun h => Bool.noConfusion h) (fun _ => ?_)
  refine And.intro (fun h => Bool.noConfusion h) (fun _ => ?_)
  refine And.intro (fun h => ?_) (fun h => ?_)
  · refine VRet.mk [] (iv _) [] ⟨rfl, rfl, rfl⟩ ⟨?_, rfl⟩
    show iv _ = iv _
    have h := of_decide_eq_true h
    simp [cmpI, h]
  have h := of_decide_eq_false h
  refine And.intro (fun h2 => ?_) (fun h2 => ?_)
  · refine VRet.mk [] (iv _) [] ⟨rfl, rfl, rfl⟩ ⟨?_, rfl⟩
    show iv _ = iv _
    have h2 := of_decide_eq_true h2
    simp [cmpI, h, h2]
  · refine VRet.mk [] (iv _) [] ⟨rfl, rfl, rfl⟩ ⟨?_, rfl⟩
    show iv _ = iv _
    have h2 := of_decide_eq_false h2
    simp [cmpI, h, h2]
def orI : List Int → Int
  | [] => 0
  | x :: l => if x ≠ 0 then x else orI l
theorem s_Or_int (l : List Int) (c : Nat) (hl : l.length < 1000000) : Ctr Tryd.prog F_cmp_Or_int [.sl 0 0 l.length c] [.arr (l.map (.int .i64)) T_int] (fun v H => v = iv (orI l) ∧ H = [.arr (l.map (.int .i64)) T_int]) := by
  refine i_cmp_Or_int.spec follows ?_
  refine VLoop.mk Nat (fun i => [(0, .sl 0 0 l.length c), (3, iv 0), (6, .sl 0 0 l.length c), (7, iv l.length), (8, iv i)]) (fun i => [.arr (l.map (.int .i64)) T_int])
    (fun i => i ≤ l.length ∧ orI l = orI (l.drop i)) (fun i => l.length - i) 0 [0] ⟨⟨Nat.zero_le _, rfl⟩, rfl, rfl, rfl⟩ ?_
  rintro i ⟨hi, ho⟩ g
  refine And.intro (fun h => ?_) (fun h => ?_)
  · have h := of_decide_eq_true h
    have hil : i < l.length := by omega
    have hg : (l.map (Value.int .i64))[0 + (i : Int).toNat * 1]? = some (.int .i64 l[i]) := by simp [hil]
    have hd : l.drop i = l[i] :: l.drop (i + 1) := (List.drop_eq_getElem_cons hil)
    have hw : IntKind.i64.wrap ((i : Int) + 1) = ((i + 1 : Nat) : Int) := wrap64 (by have := hl; omega)
    refine And.intro ⟨Int.natCast_nonneg i, h, by simp⟩ (Exists.intro _ (And.intro hg ?_))
    refine And.intro (fun h2 => ?_) (fun h2 => ?_)
    · refine VRet.mk [0] (iv _) [.arr (l.map (.int .i64)) T_int] ⟨rfl, rfl, rfl⟩ ⟨?_, rfl⟩
      show iv _ = iv _
      have h2 : l[i] ≠ 0 := by simpa using h2
      rw [ho, hd]; simp [orI, h2]
    · refine Exists.intro _ (And.intro hw ?_)
      refine Exists.intro (i + 1) (Exists.intro [0] (And.intro ⟨⟨hil, ?_⟩, by omega⟩ ⟨rfl, rfl, rfl⟩))
      have h2 : l[i] = 0 := by simpa using h2
      rw [ho, hd]; simp [orI, h2]
  · have h := of_decide_eq_false h
    refine VRet.mk [0] (iv _) [.arr (l.map (.int .i64)) T_int] ⟨rfl, rfl, rfl⟩ ⟨?_, rfl⟩
    show iv _ = iv _
    rw [ho, List.drop_eq_nil_of_le (by omega)]; rfl
def cmpD (x y : Int × Int) : Int := orI [cmpI x.1 y.1, cmpI x.2 y.2]
theorem s_dots_Order (a b c d : Int) : Ctr Tryd.prog F_dots_Order [.agg (dcells a b), .agg (dcells c d)] [] (fun v H => v = iv (cmpD (a, b) (c, d)) ∧ H = []) := by
  refine i_dots_Order.spec follows ?_
  refine VCall.mk [] (s_Compare_int a c) ⟨rfl, rfl, rfl⟩ ?_
  rintro _ _ ⟨rfl, rfl⟩
  refine And.intro rfl (And.intro rfl ?_)
  refine VCall.mk [] (s_Compare_int64 b d) ⟨rfl, rfl, rfl⟩ ?_
  rintro _ _ ⟨rfl, rfl⟩
  refine VCall.mk [2] (s_Or_int [cmpI a c, cmpI b d] 2 (by simp)) ⟨rfl, rfl, rfl⟩ ?_
  rintro _ _ ⟨rfl, rfl⟩
  exact VRet.mk [] (iv _) [] ⟨rfl, rfl, rfl⟩ ⟨rfl, rfl⟩
end Go.Proofs

namespace Go.Proofs
open Go Go.V Go.Lib
set_option maxRecDepth 100000
set_option linter.unusedVariables false

/-- From here on contracts do not count draws. -/
instance laxHere : V.Mode := laxM
abbrev es : Value := .string (ByteArray.mk #[])
abbrev SE : List SO := [.cells [.mp 1, .mp 2] T_orset_Set, .map [] 0, .map [] 0]
abbrev TE : List SO := [.cells [iv 0, iv 0, iv 0, iv 0, iv 0, iv 0, iv 0, iv 0, iv 0, iv 0, iv 0, iv 0, iv 0, iv 0] T_tally_Tally]
abbrev LE : List SO := [.cells [.raw (.bool false), .raw es, iv 0, iv 0, iv 0] T_last_Last]
abbrev SG (es' : List MapEntry) (c : Nat) : List SO := [.cells [.mp 1, .mp 2] T_orset_Set, .map es' c, .map [] 0]
abbrev TA (a b : Int) : List SO := [.cells [iv a, iv 0, iv 0, iv 0, iv 0, iv 0, iv 0, iv b, iv 0, iv 0, iv 0, iv 0, iv 0, iv 0] T_tally_Tally]
abbrev LA (b : Bool) (x : ByteArray) (t r n : Int) : List SO := [.cells [.raw (.bool b), .raw (.string x), iv t, iv r, iv n] T_last_Last]
abbrev vS : SV := .ifc T_value_Set (.agg [.ptr 0 0])
abbrev vN : SV := .ifc T_value_Number (.agg [.ptr 0 0])
abbrev vT : SV := .ifc T_value_Text (.agg [.ptr 0 0])
theorem s_orset_New : Ctr Tryd.prog F_orset_New [] [] (fun x H => x = .ptr 0 0 ∧ H = SE) := by
  refine i_orset_New.spec follows ?_
  exact VRet.mk [2, 0, 1] (.ptr 0 0) SE ⟨rfl, rfl, rfl⟩ ⟨rfl, rfl⟩
theorem s_tally_New : Ctr Tryd.prog F_tally_New [] [] (fun x H => x = .ptr 0 0 ∧ H = TE) := by
  refine i_tally_New.spec follows ?_
  exact VRet.mk [0] (.ptr 0 0) TE ⟨rfl, rfl, rfl⟩ ⟨rfl, rfl⟩
theorem s_last_New : Ctr Tryd.prog F_last_New [] [] (fun x H => x = .ptr 0 0 ∧ H = LE) := by
  refine i_last_New.spec follows ?_
  exact VRet.mk [0] (.ptr 0 0) LE ⟨rfl, rfl, rfl⟩ ⟨rfl, rfl⟩
def NewPost (k : Int) (x : SV) (H : List SO) : Prop :=
  (k = 1 ∧ x = .tup [vS, iv 0] ∧ H = SE) ∨ (k = 2 ∧ x = .tup [vN, iv 0] ∧ H = TE) ∨ (k = 3 ∧ x = .tup [vT, iv 0] ∧ H = LE) ∨ (¬ (1 ≤ k ∧ k ≤ 3) ∧ x = .tup [.raw .nilIface, iv 1] ∧ H = [])
theorem s_value_New (k : Int) : Ctr Tryd.prog F_value_New [iv k] [] (NewPost k) := by
  refine i_value_New.spec follows ?_
  refine And.intro (fun h1 => ?_) (fun h1 => ?_)
  · have h1 := of_decide_eq_true h1
    refine VCall.mk [] s_orset_New ⟨rfl, rfl, rfl⟩ ?_
    rintro _ _ ⟨rfl, rfl⟩
    exact VRet.mk [0, 1, 2] (.tup [vS, iv 0]) SE ⟨rfl, rfl, rfl⟩ (.inl ⟨h1, rfl, rfl⟩)
  have h1 := of_decide_eq_false h1
  refine And.intro (fun h2 => ?_) (fun h2 => ?_)
  · have h2 := of_decide_eq_true h2
    refine VCall.mk [] s_tally_New ⟨rfl, rfl, rfl⟩ ?_
    rintro _ _ ⟨rfl, rfl⟩
    exact VRet.mk [0] (.tup [vN, iv 0]) TE ⟨rfl, rfl, rfl⟩ (.inr (.inl ⟨h2, rfl, rfl⟩))
  have h2 := of_decide_eq_false h2
  refine And.intro (fun h3 => ?_) (fun h3 => ?_)
  · have h3 := of_decide_eq_true h3
    refine VCall.mk [] s_last_New ⟨rfl, rfl, rfl⟩ ?_
    rintro _ _ ⟨rfl, rfl⟩
    exact VRet.mk [0] (.tup [vT, iv 0]) LE ⟨rfl, rfl, rfl⟩ (.inr (.inr (.inl ⟨h3, rfl, rfl⟩)))
  have h3 := of_decide_eq_false h3
  exact VRet.mk [] (.tup [.raw .nilIface, iv 1]) [] ⟨rfl, rfl, rfl⟩ (.inr (.inr (.inr ⟨by omega, rfl, rfl⟩)))
/-! ### What lies behind the face -/
theorem s_AsSet_S (es' : List MapEntry) (c : Nat) : Ctr Tryd.prog F_value_AsSet [vS] (SG es' c) (fun x H => x = .tup [.ptr 0 0, bv true] ∧ H = (SG es' c)) := by
  refine i_value_AsSet.spec follows ?_
  exact VRet.mk [0, 1, 2] (.tup [.ptr 0 0, bv true]) (SG es' c) ⟨rfl, rfl, rfl⟩ ⟨rfl, rfl⟩
theorem s_AsSet_N (p q : Int) : Ctr Tryd.prog F_value_AsSet [vN] (TA p q) (fun x H => x = .tup [.raw (.pointer none), bv false] ∧ H = (TA p q)) := by
  refine i_value_AsSet.spec follows ?_
  exact VRet.mk [0] (.tup [.raw (.pointer none), bv false]) (TA p q) ⟨rfl, rfl, rfl⟩ ⟨rfl, rfl⟩
theorem s_AsSet_T (b : Bool) (y : ByteArray) (t p n : Int) : Ctr Tryd.prog F_value_AsSet [vT] (LA b y t p n) (fun x H => x = .tup [.raw (.pointer none), bv false] ∧ H = (LA b y t p n)) := by
  refine i_value_AsSet.spec follows ?_
  exact VRet.mk [0] (.tup [.raw (.pointer none), bv false]) (LA b y t p n) ⟨rfl, rfl, rfl⟩ ⟨rfl, rfl⟩
theorem s_AsNumber_S (es' : List MapEntry) (c : Nat) : Ctr Tryd.prog F_value_AsNumber [vS] (SG es' c) (fun x H => x = .tup [.raw (.pointer none), bv false] ∧ H = (SG es' c)) := by
  refine i_value_AsNumber.spec follows ?_
  exact VRet.mk [0, 1, 2] (.tup [.raw (.pointer none), bv false]) (SG es' c) ⟨rfl, rfl, rfl⟩ ⟨rfl, rfl⟩
theorem s_AsNumber_N (p q : Int) : Ctr Tryd.prog F_value_AsNumber [vN] (TA p q) (fun x H => x = .tup [.ptr 0 0, bv true] ∧ H = (TA p q)) := by
  refine i_value_AsNumber.spec follows ?_
  exact VRet.mk [0] (.tup [.ptr 0 0, bv true]) (TA p q) ⟨rfl, rfl, rfl⟩ ⟨rfl, rfl⟩
theorem s_AsNumber_T (b : Bool) (y : ByteArray) (t p n : Int) : Ctr Tryd.prog F_value_AsNumber [vT] (LA b y t p n) (fun x H => x = .tup [.raw (.pointer none), bv false] ∧ H = (LA b y t p n)) := by
  refine i_value_AsNumber.spec follows ?_
  exact VRet.mk [0] (.tup [.raw (.pointer none), bv false]) (LA b y t p n) ⟨rfl, rfl, rfl⟩ ⟨rfl, rfl⟩
theorem s_AsText_S (es' : List MapEntry) (c : Nat) : Ctr Tryd.prog F_value_AsText [vS] (SG es' c) (fun x H => x = .tup [.raw (.pointer none), bv false] ∧ H = (SG es' c)) := by
  refine i_value_AsText.spec follows ?_
  exact VRet.mk [0, 1, 2] (.tup [.raw (.pointer none), bv false]) (SG es' c) ⟨rfl, rfl, rfl⟩ ⟨rfl, rfl⟩
theorem s_AsText_N (p q : Int) : Ctr Tryd.prog F_value_AsText [vN] (TA p q) (fun x H => x = .tup [.raw (.pointer none), bv false] ∧ H = (TA p q)) := by
  refine i_value_AsText.spec follows ?_
  exact VRet.mk [0] (.tup [.raw (.pointer none), bv false]) (TA p q) ⟨rfl, rfl, rfl⟩ ⟨rfl, rfl⟩
theorem s_AsText_T (b : Bool) (y : ByteArray) (t p n : Int) : Ctr Tryd.prog F_value_AsText [vT] (LA b y t p n) (fun x H => x = .tup [.ptr 0 0, bv true] ∧ H = (LA b y t p n)) := by
  refine i_value_AsText.spec follows ?_
  exact VRet.mk [0] (.tup [.ptr 0 0, bv true]) (LA b y t p n) ⟨rfl, rfl, rfl⟩ ⟨rfl, rfl⟩
/-! ### What empty ones show -/
theorem extraB : Builder.Extra Tryd.prog Tryd.laysJoin_ren where
  sizeBuilder := by kernel_rfl
  liesBuilder := by kernel_rfl
  t5 := by kernel_rfl
  a5 := fun w => Tryd.isAgg5 w
  z5 := fun w => Tryd.sizeOf5 w
  v5 := fun w => Tryd.zeroValue5 w
  infoByte := by kernel_rfl
  cellsByte := by kernel_rfl
  sizeByte := by kernel_rfl
  neB5 := by decide
theorem s_Join0 (sep : ByteArray) : Ctr Tryd.prog F_strings_Join [.raw (.slice none 0 0), .raw (.string sep)] [] (fun x H => x = .raw es ∧ H = []) :=
  ctr_same [.raw (.slice none 0 0), .raw (.string sep)] [] es fun ρ w => Any.strings_Join_none Tryd.laysJoin extraB none 0 sep w
theorem dec0 : decDigits 0 = [48] := by unfold decDigits; rfl
theorem s_Fmt0 : Ctr Tryd.prog F_strconv_FormatInt [iv 0, iv 10] [] (fun x H => x = .raw (.string (ByteArray.mk #[48])) ∧ H = []) := by
  have h : ∀ (ρ : Rho) (w : World), Calls Tryd.prog F_strconv_FormatInt (valL ρ [iv 0, iv 10]).toArray w fun e w' => e = .returned (.string ⟨(decDigits 0).toArray⟩) ∧ w' = w := fun ρ w => Any.strconv_FormatInt_10_small Tryd.laysFmt 0 (by decide) w
  rw [dec0] at h
  exact ctr_same [iv 0, iv 10] [] (.string (ByteArray.mk #[48])) h
theorem s_Sort0 : Ctr Tryd.prog F_slices_Sort_sl_string_string [.raw (.slice none 0 0)] [] (fun x H => x = .raw (.tuple #[]) ∧ H = []) :=
  ctr_same [.raw (.slice none 0 0)] [] (.tuple #[]) fun ρ w => Any.slices_Sort_string_none Tryd.laysSort none 0 w
theorem s_Compact0 : Ctr Tryd.prog F_slices_Compact_sl_string_string [.raw (.slice none 0 0)] [] (fun x H => x = .raw (.slice none 0 0) ∧ H = []) := by
  refine i_slices_Compact_sl_string_string.spec follows ?_
  refine And.intro (fun _ => ?_) (fun h => absurd (of_decide_eq_false h) (by decide))
  exact VRet.mk [] (.raw (.slice none 0 0)) [] ⟨rfl, rfl, rfl⟩ ⟨rfl, rfl⟩
theorem s_All0 : Ctr Tryd.prog F_orset_Set_All [.ptr 0 0] SE (fun x H => x = .raw (.slice none 0 0) ∧ H = SE) := by
  refine i_orset_Set_All.spec follows ?_
  refine VLoop.mk Unit (fun _ => [(0, .ptr 0 0), (3, .raw (.slice none 0 0)), (10, .ptr 3 0)]) (fun _ => SE ++ [.iter (some 1) 0 [] 0]) (fun _ => True) (fun _ => 0) () [0, 1, 2, 3] ⟨trivial, rfl, rfl, rfl⟩ ?_
  rintro _ _ g
  refine And.intro ⟨fun e he => by simp at he, Nat.le_refl _⟩ (And.intro (fun _ => ?_) (fun e he => by simp at he))
  refine VCall.mk [] s_Sort0 ⟨rfl, rfl, rfl⟩ ?_
  rintro _ _ ⟨rfl, rfl⟩
  refine VCall.mk [] s_Compact0 ⟨rfl, rfl, rfl⟩ ?_
  rintro _ _ ⟨rfl, rfl⟩
  exact VRet.mk [0, 1, 2] (.raw (.slice none 0 0)) SE ⟨rfl, rfl, rfl⟩ ⟨rfl, rfl⟩
theorem z14 {i : Int} (k : Nat) (hk : k = 0 ∨ k = 7) (h : 0 ≤ i ∧ i < 7) : ([iv 0, iv 0, iv 0, iv 0, iv 0, iv 0, iv 0, iv 0, iv 0, iv 0, iv 0, iv 0, iv 0, iv 0] : List SV)[k + i.toNat * 1]? = some (iv 0) := by
  have h7 : i.toNat < 7 := by omega
  generalize i.toNat = j at h7
  rcases hk with rfl | rfl
  · match j, h7 with | 0, _ | 1, _ | 2, _ | 3, _ | 4, _ | 5, _ | 6, _ => rfl
  · match j, h7 with | 0, _ | 1, _ | 2, _ | 3, _ | 4, _ | 5, _ | 6, _ => rfl
theorem s_Value0 : Ctr Tryd.prog F_tally_Tally_Value [.ptr 0 0] TE (fun x H => x = iv 0 ∧ H = TE) := by
  refine i_tally_Tally_Value.spec follows ?_
  refine VLoop.mk Nat (fun i => [(0, .ptr 0 0), (3, iv 0), (5, iv i)]) (fun _ => TE) (fun i => i ≤ 7) (fun i => 7 - i) 0 [0] ⟨Nat.zero_le _, rfl, rfl, rfl⟩ ?_
  rintro i hi g
  refine And.intro (fun h => ?_) (fun h => ?_)
  · have h := of_decide_eq_true h
    have hi7 : 0 ≤ (i : Int) ∧ (i : Int) < 7 := ⟨Int.natCast_nonneg i, h⟩
    have hwb : -9223372036854775808 ≤ (i : Int) + 1 ∧ (i : Int) + 1 ≤ 9223372036854775807 := by omega
    refine And.intro hi7 (Exists.intro _ (And.intro (z14 0 (.inl rfl) hi7) ?_))
    refine And.intro hi7 (Exists.intro _ (And.intro (z14 7 (.inr rfl) hi7) ?_))
    refine Exists.intro 0 (And.intro (by decide) ?_)
    refine Exists.intro 0 (And.intro (by decide) ?_)
    refine Exists.intro ((i + 1 : Nat) : Int) (And.intro (wrap64 hwb) ?_)
    exact Exists.intro (i + 1) (Exists.intro [0] (And.intro ⟨by omega, by omega⟩ ⟨rfl, rfl, rfl⟩))
  · exact VRet.mk [0] (iv 0) TE ⟨rfl, rfl, rfl⟩ ⟨rfl, rfl⟩
theorem s_LValue0 : Ctr Tryd.prog F_last_Last_Value [.ptr 0 0] LE (fun x H => x = .tup [.raw es, bv false] ∧ H = LE) := by
  refine i_last_Last_Value.spec follows ?_
  exact VRet.mk [0] (.tup [.raw es, bv false]) LE ⟨rfl, rfl, rfl⟩ ⟨rfl, rfl⟩
theorem s_Show_S : Ctr Tryd.prog F_value_Show [vS] SE (fun x H => x = .raw es ∧ H = SE) := by
  refine i_value_Show.spec follows ?_
  refine VCall.mk [0, 1, 2] (s_AsSet_S [] 0) ⟨rfl, rfl, rfl⟩ ?_
  rintro _ _ ⟨rfl, rfl⟩
  refine And.intro (fun _ => ?_) (fun h => absurd h (by simp))
  refine VCall.mk [0, 1, 2] s_All0 ⟨rfl, rfl, rfl⟩ ?_
  rintro _ _ ⟨rfl, rfl⟩
  refine VCall.mk [] (s_Join0 _) ⟨rfl, rfl, rfl⟩ ?_
  rintro _ _ ⟨rfl, rfl⟩
  exact VRet.mk [0, 1, 2] (.raw es) SE ⟨rfl, rfl, rfl⟩ ⟨rfl, rfl⟩
theorem s_Show_N : Ctr Tryd.prog F_value_Show [vN] TE (fun x H => x = .raw (.string (ByteArray.mk #[48])) ∧ H = TE) := by
  refine i_value_Show.spec follows ?_
  refine VCall.mk [0] (s_AsSet_N 0 0) ⟨rfl, rfl, rfl⟩ ?_
  rintro _ _ ⟨rfl, rfl⟩
  refine And.intro (fun h => absurd h (by simp)) (fun _ => ?_)
  refine VCall.mk [0] (s_AsNumber_N 0 0) ⟨rfl, rfl, rfl⟩ ?_
  rintro _ _ ⟨rfl, rfl⟩
  refine And.intro (fun _ => ?_) (fun h => absurd h (by simp))
  refine VCall.mk [0] s_Value0 ⟨rfl, rfl, rfl⟩ ?_
  rintro _ _ ⟨rfl, rfl⟩
  refine VCall.mk [] s_Fmt0 ⟨rfl, rfl, rfl⟩ ?_
  rintro _ _ ⟨rfl, rfl⟩
  exact VRet.mk [0] (.raw (.string (ByteArray.mk #[48]))) TE ⟨rfl, rfl, rfl⟩ ⟨rfl, rfl⟩
theorem s_Show_T : Ctr Tryd.prog F_value_Show [vT] LE (fun x H => x = .raw es ∧ H = LE) := by
  refine i_value_Show.spec follows ?_
  refine VCall.mk [0] (s_AsSet_T false (ByteArray.mk #[]) 0 0 0) ⟨rfl, rfl, rfl⟩ ?_
  rintro _ _ ⟨rfl, rfl⟩
  refine And.intro (fun h => absurd h (by simp)) (fun _ => ?_)
  refine VCall.mk [0] (s_AsNumber_T false (ByteArray.mk #[]) 0 0 0) ⟨rfl, rfl, rfl⟩ ?_
  rintro _ _ ⟨rfl, rfl⟩
  refine And.intro (fun h => absurd h (by simp)) (fun _ => ?_)
  refine VCall.mk [0] (s_AsText_T false (ByteArray.mk #[]) 0 0 0) ⟨rfl, rfl, rfl⟩ ?_
  rintro _ _ ⟨rfl, rfl⟩
  refine And.intro (fun _ => ?_) (fun h => absurd h (by simp))
  refine VCall.mk [0] s_LValue0 ⟨rfl, rfl, rfl⟩ ?_
  rintro _ _ ⟨rfl, rfl⟩
  exact VRet.mk [0] (.raw es) LE ⟨rfl, rfl, rfl⟩ ⟨rfl, rfl⟩
theorem s_Kind_S (es' : List MapEntry) (c : Nat) : Ctr Tryd.prog F_value_Set_Kind [.agg [.ptr 0 0]] (SG es' c) (fun x H => x = iv 1 ∧ H = (SG es' c)) := by
  refine i_value_Set_Kind.spec follows ?_
  exact VRet.mk [0, 1, 2] (iv 1) (SG es' c) ⟨rfl, rfl, rfl⟩ ⟨rfl, rfl⟩
theorem s_Kind_N (p q : Int) : Ctr Tryd.prog F_value_Number_Kind [.agg [.ptr 0 0]] (TA p q) (fun x H => x = iv 2 ∧ H = (TA p q)) := by
  refine i_value_Number_Kind.spec follows ?_
  exact VRet.mk [0] (iv 2) (TA p q) ⟨rfl, rfl, rfl⟩ ⟨rfl, rfl⟩
theorem s_Kind_T (b : Bool) (y : ByteArray) (t p n : Int) : Ctr Tryd.prog F_value_Text_Kind [.agg [.ptr 0 0]] (LA b y t p n) (fun x H => x = iv 3 ∧ H = (LA b y t p n)) := by
  refine i_value_Text_Kind.spec follows ?_
  exact VRet.mk [0] (iv 3) (LA b y t p n) ⟨rfl, rfl, rfl⟩ ⟨rfl, rfl⟩
end Go.Proofs

namespace Go.Proofs
open Go Go.V Go.Lib
set_option maxRecDepth 100000
set_option linter.unusedVariables false

abbrev encT (s : ByteArray) : Value := .string s
theorem kT : KeyT Tryd.prog T_map_api_Dot_string T_string encD := keyT_Dot (by kernel_rfl)
theorem lookT (ms : List ((Int × Int) × ByteArray × Nat)) (d : Int × Int) : LookupIs Tryd.prog T_map_api_Dot_string (ents encD encT ms) (encD d) (encT ((MP.get ms d).getD (ByteArray.mk #[]))) ((MP.get ms d).isSome) := by
  have := lookup_is (encv := encT) kT (z := encT (ByteArray.mk #[])) (by kernel_rfl) ms d
  cases h : MP.get ms d <;> rw [h] at this <;> exact this
/-! ### What is done with an empty one -/
theorem s_Add0 (x : ByteArray) : Ctr Tryd.prog F_orset_Set_Add [.ptr 0 0, .agg (dcells 0 1), .raw (.string x)] SE (fun r H => ∃ e es' c, r = iv e ∧ H = [.cells [.mp 1, .mp 2] T_orset_Set, .map es' c, .map [] 0]) := by
  refine i_orset_Set_Add.spec follows ?_
  refine VCall.mk [] (s_vec_Dot 0 1) ⟨rfl, rfl, rfl⟩ ?_
  rintro _ _ ⟨rfl, rfl⟩
  refine And.intro (fun _ => ?_) (fun h => absurd h (by decide))
  refine And.intro (fun _ => VRet.mk [0, 1, 2] (iv 1) SE ⟨rfl, rfl, rfl⟩ ⟨1, [], 0, rfl, rfl⟩) (fun _ => ?_)
  refine Exists.intro (.raw (encT ((MP.get ([] : List ((Int × Int) × ByteArray × Nat)) (0, 1)).getD (ByteArray.mk #[])))) (Exists.intro _ (Exists.intro _ (And.intro (lookT [] (0, 1)) (And.intro rfl ?_))))
  refine And.intro (fun h => absurd h (by simp [get_nil])) (fun _ => ?_)
  refine Exists.intro _ (Exists.intro _ (And.intro (update_is (encv := encT) kT [] 0 (0, 1) x) ?_))
  exact VRet.mk [0, 1, 2] (iv 0) [.cells [.mp 1, .mp 2] T_orset_Set, .map (ents encD encT (MP.put [] (0, 1) x 0)) (if (MP.get ([] : List ((Int × Int) × ByteArray × Nat)) (0, 1)).isSome then 0 else 0 + 1), .map [] 0] ⟨rfl, rfl, rfl⟩ ⟨0, _, _, rfl, rfl⟩
theorem putz (k : Nat) (hk : k = 0 ∨ k = 7) (y : Int) : ∃ l : List SV, paste ([iv 0, iv 0, iv 0, iv 0, iv 0, iv 0, iv 0, iv 0, iv 0, iv 0, iv 0, iv 0, iv 0, iv 0] : List SV) k [iv y] = some l ∧ (l = [iv y, iv 0, iv 0, iv 0, iv 0, iv 0, iv 0, iv 0, iv 0, iv 0, iv 0, iv 0, iv 0, iv 0] ∨ l = [iv 0, iv 0, iv 0, iv 0, iv 0, iv 0, iv 0, iv y, iv 0, iv 0, iv 0, iv 0, iv 0, iv 0]) := by
  rcases hk with rfl | rfl
  · exact ⟨_, rfl, .inl rfl⟩
  · exact ⟨_, rfl, .inr rfl⟩
theorem s_TAdd0 (by' : Int) : Ctr Tryd.prog F_tally_Tally_Add [.ptr 0 0, iv 0, iv by'] TE (fun r H => ∃ e a b, r = iv e ∧ H = TA a b) := by
  refine i_tally_Tally_Add.spec follows ?_
  refine VCall.mk [] (s_vec_Rep 0) ⟨rfl, rfl, rfl⟩ ?_
  rintro _ _ ⟨rfl, rfl⟩
  refine And.intro (fun _ => ?_) (fun h => absurd h (by decide))
  refine And.intro (fun h1 => ?_) (fun _ => VRet.mk [0] (iv 1) TE ⟨rfl, rfl, rfl⟩ ⟨1, 0, 0, rfl, rfl⟩)
  have h1 := of_decide_eq_false h1
  refine And.intro (fun _ => VRet.mk [0] (iv 1) TE ⟨rfl, rfl, rfl⟩ ⟨1, 0, 0, rfl, rfl⟩) (fun h2 => ?_)
  have h2 := of_decide_eq_false h2
  have h07 : (0 : Int) ≤ 0 ∧ (0 : Int) < 7 := by decide
  refine And.intro (fun h3 => ?_) (fun h3 => ?_)
  · have h3 := of_decide_eq_true h3
    refine Exists.intro (-by') (And.intro (show IntKind.i64.wrap (0 - by') = -by' from by rw [Int.zero_sub]; exact wrap64 (by omega)) ?_)
    refine And.intro h07 (Exists.intro _ (And.intro (z14 7 (.inr rfl) h07) ?_))
    refine Exists.intro 1125899906842624 (And.intro (by decide) ?_)
    refine And.intro (fun _ => VRet.mk [0] (iv 2) TE ⟨rfl, rfl, rfl⟩ ⟨2, 0, 0, rfl, rfl⟩) (fun _ => ?_)
    refine And.intro h07 (Exists.intro _ (And.intro (z14 7 (.inr rfl) h07) ?_))
    refine Exists.intro (-by') (And.intro (show IntKind.i64.wrap (0 + -by') = -by' from by rw [Int.zero_add]; exact wrap64 (by omega)) ?_)
    refine And.intro h07 ?_
    refine Exists.intro [iv 0, iv 0, iv 0, iv 0, iv 0, iv 0, iv 0, iv (-by'), iv 0, iv 0, iv 0, iv 0, iv 0, iv 0] (And.intro rfl ?_)
    exact VRet.mk [0] (iv 0) (TA 0 (-by')) ⟨rfl, rfl, rfl⟩ ⟨0, 0, (-by'), rfl, rfl⟩
  · have h3 := of_decide_eq_false h3
    refine And.intro h07 (Exists.intro _ (And.intro (z14 0 (.inl rfl) h07) ?_))
    refine Exists.intro 1125899906842624 (And.intro (by decide) ?_)
    refine And.intro (fun _ => VRet.mk [0] (iv 2) TE ⟨rfl, rfl, rfl⟩ ⟨2, 0, 0, rfl, rfl⟩) (fun _ => ?_)
    refine And.intro h07 (Exists.intro _ (And.intro (z14 0 (.inl rfl) h07) ?_))
    refine Exists.intro (by') (And.intro (show IntKind.i64.wrap (0 + by') = by' from by rw [Int.zero_add]; exact wrap64 (by omega)) ?_)
    refine And.intro h07 ?_
    refine Exists.intro [iv by', iv 0, iv 0, iv 0, iv 0, iv 0, iv 0, iv 0, iv 0, iv 0, iv 0, iv 0, iv 0, iv 0] (And.intro rfl ?_)
    exact VRet.mk [0] (iv 0) (TA by' 0) ⟨rfl, rfl, rfl⟩ ⟨0, by', 0, rfl, rfl⟩
theorem s_Write0 (x : ByteArray) : Ctr Tryd.prog F_last_Last_Write [.ptr 0 0, .raw (.string x), iv 1, .agg (dcells 0 1)] LE (fun r H => ∃ b e b' y t p n, r = .tup [bv b, iv e] ∧ H = LA b' y t p n) := by
  refine i_last_Last_Write.spec follows ?_
  refine And.intro (fun h1 => ?_) (fun _ => VRet.mk [0] (.tup [bv false, iv 1]) LE ⟨rfl, rfl, rfl⟩ ⟨false, 1, false, ByteArray.mk #[], 0, 0, 0, rfl, rfl⟩)
  refine And.intro (fun _ => ?_) (fun h => absurd (of_decide_eq_true h) (by decide))
  refine And.intro (fun _ => ?_) (fun h => absurd (of_decide_eq_true h) (by decide))
  refine VCall.mk [] (s_vec_Dot 0 1) ⟨rfl, rfl, rfl⟩ ?_
  rintro _ _ ⟨rfl, rfl⟩
  refine And.intro (fun h => absurd h (by decide)) (fun _ => ?_)
  refine VCall.mk [] (s_Compare_int64 1 0) ⟨rfl, rfl, rfl⟩ ?_
  rintro _ _ ⟨rfl, rfl⟩
  refine And.intro rfl (And.intro rfl (And.intro rfl ?_))
  refine VCall.mk [] (s_dots_Order 0 1 0 0) ⟨rfl, rfl, rfl⟩ ?_
  rintro _ _ ⟨rfl, rfl⟩
  refine VCall.mk [2] (s_Or_int [cmpI 1 0, cmpD (0, 1) (0, 0)] 2 (by decide)) ⟨rfl, rfl, rfl⟩ ?_
  rintro _ _ ⟨rfl, rfl⟩
  refine And.intro (fun h => absurd (show false = true from h) (by decide)) (fun _ => ?_)
  refine And.intro (fun h => absurd (show false = true from h) (by decide)) (fun _ => ?_)
  exact VRet.mk [0] (.tup [bv true, iv 0]) (LA true x 1 0 1) ⟨rfl, rfl, rfl⟩ ⟨true, 0, true, x, 1, 0, 1, rfl, rfl⟩
/-! ### What is told of the number -/
theorem m_S : MethodIs Tryd.prog T_value_Set "Kind" F_value_Set_Kind := methodIs_of rfl rfl rfl rfl rfl
theorem m_N : MethodIs Tryd.prog T_value_Number "Kind" F_value_Number_Kind := methodIs_of rfl rfl rfl rfl rfl
theorem m_T : MethodIs Tryd.prog T_value_Text "Kind" F_value_Text_Kind := methodIs_of rfl rfl rfl rfl rfl
theorem s_awake : Ctr Tryd.prog F_rostrumlaw12_awake [] [] (fun x H => x = bv true ∧ H = []) := by
  refine i_rostrumlaw12_awake.spec follows ?_
  refine VCall.mk [] (s_value_New 2) ⟨rfl, rfl, rfl⟩ ?_
  rintro _ _ (⟨h, _⟩ | ⟨_, rfl, rfl⟩ | ⟨h, _⟩ | ⟨h, _⟩)
  · omega
  rotate_left 1
  · omega
  · omega
  refine And.intro (fun _ => ?_) (fun h => absurd h (by decide))
  refine VCall.mk [0] (s_AsNumber_N 0 0) ⟨rfl, rfl, rfl⟩ ?_
  rintro _ _ ⟨rfl, rfl⟩
  refine VCall.mk [0] (s_AsSet_N 0 0) ⟨rfl, rfl, rfl⟩ ?_
  rintro _ _ ⟨rfl, rfl⟩
  refine Exists.intro F_value_Number_Kind (And.intro ⟨m_N, by kernel_rfl⟩ ?_)
  refine VCall.mk [0] (s_Kind_N 0 0) ⟨rfl, rfl, rfl⟩ ?_
  rintro _ _ ⟨rfl, rfl⟩
  refine And.intro (fun _ => ?_) (fun h => absurd (of_decide_eq_false h) (by decide))
  refine And.intro (fun _ => ?_) (fun h => absurd h (by decide))
  refine And.intro (fun _ => ?_) (fun h => absurd h (by decide))
  refine VCall.mk [0] s_Show_N ⟨rfl, rfl, rfl⟩ ?_
  rintro _ _ ⟨rfl, rfl⟩
  exact VRet.mk [] (bv ((ByteArray.mk #[48]).toList == (ByteArray.mk #[48]).toList)) [] ⟨rfl, rfl, rfl⟩ ⟨by rw [beq_self_eq_true], rfl⟩
end Go.Proofs

