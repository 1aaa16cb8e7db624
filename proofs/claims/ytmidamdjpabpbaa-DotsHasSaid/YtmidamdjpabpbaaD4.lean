/- Part of the proof that the statement named in the last file holds: lemmas of the prover's own. No conditions. -/
import Derived.Test.YtmidamdjpabpbaaD3
import Derived.Test.YtmidamdjpabpbaaV32
namespace Go.Proofs
open Go Go.V
set_option maxRecDepth 100000
set_option linter.unusedVariables false

theorem s_isNaN_int (n : Int) : Ctr Try.prog F_cmp_isNaN_int [iv n] [] (fun v H => v = bv false ∧ H = []) := by
  refine i_cmp_isNaN_int.spec follows ?_
  refine VRet.mk [] (bv _) [] ⟨rfl, rfl, rfl⟩ ⟨?_, rfl⟩
  show bv _ = bv _
  simp
theorem s_isNaN_int64 (n : Int) : Ctr Try.prog F_cmp_isNaN_int64 [iv n] [] (fun v H => v = bv false ∧ H = []) := by
  refine i_cmp_isNaN_int64.spec follows ?_
  refine VRet.mk [] (bv _) [] ⟨rfl, rfl, rfl⟩ ⟨?_, rfl⟩
  show bv _ = bv _
  simp

def cmpI (a b : Int) : Int := if a < b then -1 else if b < a then 1 else 0
theorem s_Compare_int (a b : Int) : Ctr Try.prog F_cmp_Compare_int [iv a, iv b] [] (fun v H => v = iv (cmpI a b) ∧ H = []) := by
  refine i_cmp_Compare_int.spec follows ?_
  refine VCall.mk [] (s_isNaN_int a) ⟨rfl, rfl, rfl⟩ ?_
  rintro _ _ ⟨rfl, rfl⟩
  refine VCall.mk [] (s_isNaN_int b) ⟨rfl, rfl, rfl⟩ ?_
  rintro _ _ ⟨rfl, rfl⟩
  refine And.intro (fun h => Bool.noConfusion h) (fun _ => ?_)
  refine And.intro (fun h => Bool.noConfusion h) (fun _ => ?_)
  refine And.intro (fun h => ?_) (fun h => ?_)
  · refine VRet.mk [] (iv _) [] ⟨rfl, rfl, rfl⟩ ⟨?_, rfl⟩
    show iv _ = iv _
    have h := of_decide_eq_true h
    simp [cmpI, h]
  have h := of_decide_eq_false h
  refine And.intro (fun h2 => ?_) (fun h2 => ?_)
  · refine VRet.mk [] (iv _) [] ⟨rfl, rfl, rfl⟩ ⟨?_, rfl⟩
    show iv _ = iv _
    have h2 := of_decide_eq_true h2
    simp [cmpI, h, h2]
  · refine VRet.mk [] (iv _) [] ⟨rfl, rfl, rfl⟩ ⟨?_, rfl⟩
    show iv _ = iv _
    have h2 := of_decide_eq_false h2
    simp [cmpI, h, h2]
theorem s_Compare_int64 (a b : Int) : Ctr Try.prog F_cmp_Compare_int64 [iv a, iv b] [] (fun v H => v = iv (cmpI a b) ∧ H = []) := by
  refine i_cmp_Compare_int64.spec follows ?_
  refine VCall.mk [] (s_isNaN_int64 a) ⟨rfl, rfl, rfl⟩ ?_
  rintro _ _ ⟨rfl, rfl⟩
  refine VCall.mk [] (s_isNaN_int64 b) ⟨rfl, rfl, rfl⟩ ?_
  rintro _ _ ⟨rfl, rfl⟩
  refine And.intro (fun h => Bool.noConfusion h) (fun _ => ?_)
  refine And.intro (fun h => Bool.noConfusion h) (fun _ => ?_)
  refine And.intro (fun h => ?_) (fun h => ?_)
  · refine VRet.mk [] (iv _) [] ⟨rfl, rfl, rfl⟩ ⟨?_, rfl⟩
    show iv _ = iv _
    have h := of_decide_eq_true h
    simp [cmpI, h]
  have h := of_decide_eq_false h
  refine And.intro (fun h2 => ?_) (fun h2 => ?_)
  · refine VRet.mk [] (iv _) [] ⟨rfl, rfl, rfl⟩ ⟨?_, rfl⟩
    show iv _ = iv _
    have h2 := of_decide_eq_true h2
    simp [cmpI, h, h2]
  · refine VRet.mk [] (iv _) [] ⟨rfl, rfl, rfl⟩ ⟨?_, rfl⟩
    show iv _ = iv _
    have h2 := of_decide_eq_false h2
    simp [cmpI, h, h2]

def orI : List Int → Int
  | [] => 0
  | x :: l => if x ≠ 0 then x else orI l

theorem s_Or_int (l : List Int) (c : Nat) (hl : l.length < 1000000) : Ctr Try.prog F_cmp_Or_int [.sl 0 0 l.length c] [.arr (l.map (.int .i64)) T_int] (fun v H => v = iv (orI l) ∧ H = [.arr (l.map (.int .i64)) T_int]) := by
  refine i_cmp_Or_int.spec follows ?_
  refine VLoop.mk Nat (fun i => [(0, .sl 0 0 l.length c), (3, iv 0), (6, .sl 0 0 l.length c), (7, iv l.length), (8, iv i)]) (fun i => [.arr (l.map (.int .i64)) T_int])
    (fun i => i ≤ l.length ∧ orI l = orI (l.drop i)) (fun i => l.length - i) 0 [0] ⟨⟨Nat.zero_le _, rfl⟩, rfl, rfl, rfl⟩ ?_
  rintro i ⟨hi, ho⟩ g
  refine And.intro (fun h => ?_) (fun h => ?_)
  · have h := of_decide_eq_true h
    have hil : i < l.length := by omega
    have hg : (l.map (Value.int .i64))[0 + (i : Int).toNat * 1]? = some (.int .i64 l[i]) := by simp [hil]
    have hd : l.drop i = l[i] :: l.drop (i + 1) := (List.drop_eq_getElem_cons hil)
    have hw : IntKind.i64.wrap ((i : Int) + 1) = ((i + 1 : Nat) : Int) := wrap64 (by have := hl; omega)
    refine And.intro ⟨Int.natCast_nonneg i, h, by simp⟩ (Exists.intro _ (And.intro hg ?_))
    refine And.intro (fun h2 => ?_) (fun h2 => ?_)
    · refine VRet.mk [0] (iv _) [.arr (l.map (.int .i64)) T_int] ⟨rfl, rfl, rfl⟩ ⟨?_, rfl⟩
      show iv _ = iv _
      have h2 : l[i] ≠ 0 := by simpa using h2
      rw [ho, hd]; simp [orI, h2]
    · refine Exists.intro _ (And.intro hw ?_)
      refine Exists.intro (i + 1) (Exists.intro [0] (And.intro ⟨⟨hil, ?_⟩, by omega⟩ ⟨rfl, rfl, rfl⟩))
      have h2 : l[i] = 0 := by simpa using h2
      rw [ho, hd]; simp [orI, h2]
  · have h := of_decide_eq_false h
    refine VRet.mk [0] (iv _) [.arr (l.map (.int .i64)) T_int] ⟨rfl, rfl, rfl⟩ ⟨?_, rfl⟩
    show iv _ = iv _
    rw [ho, List.drop_eq_nil_of_le (by omega)]; rfl

def cmpD (x y : Int × Int) : Int := orI [cmpI x.1 y.1, cmpI x.2 y.2]
theorem s_dots_Order (a b c d : Int) : Ctr Try.prog F_dots_Order [.agg (dcells a b), .agg (dcells c d)] [] (fun v H => v = iv (cmpD (a, b) (c, d)) ∧ H = []) := by
  refine i_dots_Order.spec follows ?_
  refine VCall.mk [] (s_Compare_int a c) ⟨rfl, rfl, rfl⟩ ?_
  rintro _ _ ⟨rfl, rfl⟩
  refine And.intro rfl (And.intro rfl ?_)
  refine VCall.mk [] (s_Compare_int64 b d) ⟨rfl, rfl, rfl⟩ ?_
  rintro _ _ ⟨rfl, rfl⟩
  refine VCall.mk [2] (s_Or_int [cmpI a c, cmpI b d] 2 (by simp)) ⟨rfl, rfl, rfl⟩ ?_
  rintro _ _ ⟨rfl, rfl⟩
  exact VRet.mk [] (iv _) [] ⟨rfl, rfl, rfl⟩ ⟨rfl, rfl⟩
end Go.Proofs
