/- Part of the proof that the statement named in the last file holds: lemmas of the prover's own. No conditions. -/
import Derived.Test.YtfnjbdnnnpbeaaaGreatDoorVD
import Derived.Test.YtfnjbdnnnpbeaaaGreatDoorK14
import Derived.Test.YtfnjbdnnnpbeaaaGreatDoorL14
namespace Go.Proofs
open Go Go.V
set_option maxRecDepth 100000
set_option linter.unusedVariables false
set_option linter.unusedSectionVars false
variable [V.Mode]

def isRep (n : Int) : Bool := decide (0 ≤ n ∧ n < 7)
theorem isRep_iff {n : Int} : isRep n = true ↔ 0 ≤ n ∧ n < 7 := by simp [isRep]
theorem s_vec_Rep (n : Int) : Ctr Tryz.prog F_vec_Rep [iv n] [] (fun v H => v = bv (isRep n) ∧ H = []) := by
  refine i_vec_Rep.spec follows ?_
  refine And.intro (fun h => ?_) (fun h => ?_)
  · refine VRet.mk [] (bv _) [] ⟨rfl, rfl, rfl⟩ ⟨?_, rfl⟩
    show bv _ = bv _
    have h := of_decide_eq_true h
    simp [isRep, h]
  · refine VRet.mk [] (bv _) [] ⟨rfl, rfl, rfl⟩ ⟨?_, rfl⟩
    show bv _ = bv _
    have h := of_decide_eq_false h
    simp [isRep, h]
def isDot (r n : Int) : Bool := isRep r && (decide (1 ≤ n) && decide (n ≤ 1099511627776))
theorem s_vec_Dot (r n : Int) : Ctr Tryz.prog F_vec_Dot [.agg (dcells r n)] [] (fun v H => v = bv (isDot r n) ∧ H = []) := by
  refine i_vec_Dot.spec follows ?_
  refine VCall.mk [] (s_vec_Rep _) ⟨rfl, rfl, rfl⟩ ?_
  rintro _ _ ⟨rfl, rfl⟩
  refine And.intro (fun h => ?_) (fun h => ?_)
  · refine And.intro (fun h2 => ?_) (fun h2 => ?_)
    · refine VRet.mk [] (bv _) [] ⟨rfl, rfl, rfl⟩ ⟨?_, rfl⟩
      show bv _ = bv _
      simp [isDot, h, h2]
    · refine VRet.mk [] (bv _) [] ⟨rfl, rfl, rfl⟩ ⟨?_, rfl⟩
      show bv _ = bv _
      simp [isDot, h, h2]
  · refine VRet.mk [] (bv _) [] ⟨rfl, rfl, rfl⟩ ⟨?_, rfl⟩
    show bv _ = bv _
    simp [isDot, h]
def has (v : Nat → Int) (r n : Int) : Bool := isRep r && (decide (1 ≤ n) && decide (n ≤ v r.toNat))
theorem s_vec_Has (v : Nat → Int) (r n : Int) : Ctr Tryz.prog F_vec_Has [.agg (vcells v), .agg (dcells r n)] [] (fun x H => x = bv (has v r n) ∧ H = []) := by
  refine i_vec_Has.spec follows ?_
  refine VCall.mk [] (s_vec_Rep _) ⟨rfl, rfl, rfl⟩ ?_
  rintro _ _ ⟨rfl, rfl⟩
  refine And.intro (fun h => ?_) (fun h => ?_)
  · refine And.intro (fun h2 => ?_) (fun h2 => ?_)
    · refine And.intro (isRep_iff.1 h) (Exists.intro _ (And.intro (vcells_get' v (isRep_iff.1 h) []) ?_))
      refine VRet.mk [] (bv _) [] ⟨rfl, rfl, rfl⟩ ⟨?_, rfl⟩
      show bv _ = bv _
      simp [has, h, h2]
    · refine VRet.mk [] (bv _) [] ⟨rfl, rfl, rfl⟩ ⟨?_, rfl⟩
      show bv _ = bv _
      simp [has, h, h2]
  · refine VRet.mk [] (bv _) [] ⟨rfl, rfl, rfl⟩ ⟨?_, rfl⟩
    show bv _ = bv _
    simp [has, h]
abbrev encD (d : Int × Int) : Value := .agg #[.int .i64 d.1, .int .i64 d.2]
theorem keyT_Dot {mt et : TypeId} (h : Tryz.prog.underlying mt = some (.map T_api_Dot et)) : KeyT Tryz.prog mt et encD where
  ex := by
    have h1 : clsT Tryz.prog 2 T_api_Dot = some [.i, .i] := by kernel_rfl
    have h2 : isAggT Tryz.prog T_api_Dot = some true := by kernel_rfl
    refine ⟨T_api_Dot, 2, _, h, by omega, by omega, h1, fun a => ⟨[.int .i64 a.1, .int .i64 a.2], by simp [mkV, h2], rfl, fun b ys hb hl => ?_⟩⟩
    have : ys = [.int .i64 b.1, .int .i64 b.2] := by
      simp only [mkV, h2, if_true] at hb
      injection hb with hb
      have := congrArg Array.toList hb
      simpa using this.symm
    subst this
    refine ⟨decide (a.1 = b.1) && decide (a.2 = b.2), by simp [eqV, eq1V], ?_⟩
    simp [Prod.ext_iff]
  bits := fun a => by simp [Instr.sameBits]
theorem s_isNaN_int (n : Int) : Ctr Tryz.prog F_cmp_isNaN_int [iv n] [] (fun v H => v = bv false ∧ H = []) := by
  refine i_cmp_isNaN_int.spec follows ?_
  refine VRet.mk [] (bv _) [] ⟨rfl, rfl, rfl⟩ ⟨?_, rfl⟩
  show bv _ = bv _
  simp
theorem s_isNaN_int64 (n : Int) : Ctr Tryz.prog F_cmp_isNaN_int64 [iv n] [] (fun v H => v = bv false ∧ H = []) := by
  refine i_cmp_isNaN_int64.spec follows ?_
  refine VRet.mk [] (bv _) [] ⟨rfl, rfl, rfl⟩ ⟨?_, rfl⟩
  show bv _ = bv _
  simp
def cmpI (a b : Int) : Int := if a < b then -1 else if b < a then 1 else 0
theorem s_Compare_int (a b : Int) : Ctr Tryz.prog F_cmp_Compare_int [iv a, iv b] [] (fun v H => v = iv (cmpI a b) ∧ H = []) := by
  refine i_cmp_Compare_int.spec follows ?_
  refine VCall.mk [] (s_isNaN_int a) ⟨rfl, rfl, rfl⟩ ?_
  rintro _ _ ⟨rfl, rfl⟩
  refine VCall.mk [] (s_isNaN_int b) ⟨rfl, rfl, rfl⟩ ?_
  rintro _ _ ⟨rfl, rfl⟩
  refine And.intro (fun h => Bool.noConfusion h) (fun _ => ?_)
  refine And.intro (fun h => Bool.noConfusion h) (fun _ => ?_)
  refine And.intro (fun h => ?_) (fun h => ?_)
  · refine VRet.mk [] (iv _) [] ⟨rfl, rfl, rfl⟩ ⟨?_, rfl⟩
    show iv _ = iv _
    have h := of_decide_eq_true h
    simp [cmpI, h]
  have h := of_decide_eq_false h
  refine And.intro (fun h2 => ?_) (fun h2 => ?_)
  · refine VRet.mk [] (iv _) [] ⟨rfl, rfl, rfl⟩ ⟨?_, rfl⟩
    show iv _ = iv _
    have h2 := of_decide_eq_true h2
    simp [cmpI, h, h2]
  · refine VRet.mk [] (iv _) [] ⟨rfl, rfl, rfl⟩ ⟨?_, rfl⟩
    show iv _ = iv _
    have h2 := of_decide_eq_false h2
    simp [cmpI, h, h2]
theorem s_Compare_int64 (a b : Int) : Ctr Tryz.prog F_cmp_Compare_int64 [iv a, iv b] [] (fun v H => v = iv (cmpI a b) ∧ H = []) := by
  refine i_cmp_Compare_int64.spec follows ?_
  refine VCall.mk [] (s_isNaN_int64 a) ⟨rfl, rfl, rfl⟩ ?_
  rintro _ _ ⟨rfl, rfl⟩
  refine VCall.mk [] (s_isNaN_int64 b) ⟨rfl, rfl, rfl⟩ ?_
  rintro _ _ ⟨rfl, rfl⟩
  refine And.intro (fun h => Bool.noConfusion h) (fun _ => ?_)
  refine And.intro (fun h => Bool.noConfusion h) (fun _ => ?_)
  refine And.intro (fun h => ?_) (fun h => ?_)
  · refine VRet.mk [] (iv _) [] ⟨rfl, rfl, rfl⟩ ⟨?_, rfl⟩
    show iv _ = iv _
    have h := of_decide_eq_true h
    simp [cmpI, h]
  have h := of_decide_eq_false h
  refine And.intro (fun h2 => ?_) (fun h2 => ?_)
  · refine VRet.mk [] (iv _) [] ⟨rfl, rfl, rfl⟩ ⟨?_, rfl⟩
    show iv _ = iv _
    have h2 := of_decide_eq_true h2
    simp [cmpI, h, h2]
  · refine VRet.mk [] (iv _) [] ⟨rfl, rfl, rfl⟩ ⟨?_, rfl⟩
    show iv _ = iv _
    have h2 := of_decide_eq_false h2
    simp [cmpI, h, h2]
def orI : List Int → Int
  | [] => 0
  | x :: l => if x ≠ 0 then x else orI l
theorem s_Or_int (l : List Int) (c : Nat) (hl : l.length < 1000000) : Ctr Tryz.prog F_cmp_Or_int [.sl 0 0 l.length c] [.arr (l.map (.int .i64)) T_int] (fun v H => v = iv (orI l) ∧ H = [.arr (l.map (.int .i64)) T_int]) := by
  refine i_cmp_Or_int.spec follows ?_
  refine VLoop.mk Nat (fun i => [(0, .sl 0 0 l.length c), (3, iv 0), (6, .sl 0 0 l.length c), (7, iv l.length), (8, iv i)]) (fun i => [.arr (l.map (.int .i64)) T_int])
    (fun i => i ≤ l.length ∧ orI l = orI (l.drop i)) (fun i => l.length - i) 0 [0] ⟨⟨Nat.zero_le _, rfl⟩, rfl, rfl, rfl⟩ ?_
  rintro i ⟨hi, ho⟩ g
  refine And.intro (fun h => ?_) (fun h => ?_)
  · have h := of_decide_eq_true h
    have hil : i < l.length := by omega
    have hg : (l.map (Value.int .i64))[0 + (i : Int).toNat * 1]? = some (.int .i64 l[i]) := by simp [hil]
    have hd : l.drop i = l[i] :: l.drop (i + 1) := (List.drop_eq_getElem_cons hil)
    have hw : IntKind.i64.wrap ((i : Int) + 1) = ((i + 1 : Nat) : Int) := wrap64 (by have := hl; omega)
    refine And.intro ⟨Int.natCast_nonneg i, h, by simp⟩ (Exists.intro _ (And.intro hg ?_))
    refine And.intro (fun h2 => ?_) (fun h2 => ?_)
    · refine VRet.mk [0] (iv _) [.arr (l.map (.int .i64)) T_int] ⟨rfl, rfl, rfl⟩ ⟨?_, rfl⟩
      show iv _ = iv _
      have h2 : l[i] ≠ 0 := by simpa using h2
      rw [ho, hd]; simp [orI, h2]
    · refine Exists.intro _ (And.intro hw ?_)
      refine Exists.intro (i + 1) (Exists.intro [0] (And.intro ⟨⟨hil, ?_⟩, by omega⟩ ⟨rfl, rfl, rfl⟩))
      have h2 : l[i] = 0 := by simpa using h2
      rw [ho, hd]; simp [orI, h2]
  · have h := of_decide_eq_false h
    refine VRet.mk [0] (iv _) [.arr (l.map (.int .i64)) T_int] ⟨rfl, rfl, rfl⟩ ⟨?_, rfl⟩
    show iv _ = iv _
    rw [ho, List.drop_eq_nil_of_le (by omega)]; rfl
def cmpD (x y : Int × Int) : Int := orI [cmpI x.1 y.1, cmpI x.2 y.2]
theorem s_dots_Order (a b c d : Int) : Ctr Tryz.prog F_dots_Order [.agg (dcells a b), .agg (dcells c d)] [] (fun v H => v = iv (cmpD (a, b) (c, d)) ∧ H = []) := by
  refine i_dots_Order.spec follows ?_
  refine VCall.mk [] (s_Compare_int a c) ⟨rfl, rfl, rfl⟩ ?_
  rintro _ _ ⟨rfl, rfl⟩
  refine And.intro rfl (And.intro rfl ?_)
  refine VCall.mk [] (s_Compare_int64 b d) ⟨rfl, rfl, rfl⟩ ?_
  rintro _ _ ⟨rfl, rfl⟩
  refine VCall.mk [2] (s_Or_int [cmpI a c, cmpI b d] 2 (by simp)) ⟨rfl, rfl, rfl⟩ ?_
  rintro _ _ ⟨rfl, rfl⟩
  exact VRet.mk [] (iv _) [] ⟨rfl, rfl, rfl⟩ ⟨rfl, rfl⟩
end Go.Proofs

namespace Go.Proofs
open Go Go.V Go.Lib
set_option maxRecDepth 100000
set_option linter.unusedVariables false
/-- From here on contracts do not count draws. -/
instance laxHere : V.Mode := laxM
/-! ### Bytes -/
theorem brow_nil_of {xs : List Value} {o c : Nat} {l : List Int} (h : Brow xs o c l) (hx : xs = []) : l = [] := by
  subst hx
  have := h.1; have := h.2.1
  simp at this
  exact List.length_eq_zero_iff.1 (by omega)
theorem brow_nil : Brow [] 0 0 [] := ⟨Nat.le_refl _, by simp, rfl⟩
theorem s_bytes_Clone (l : List Int) (xs : List Value) (te : TypeId) (o c : Nat) (hb : Brow xs o c l) (hl : l.length ≤ 10000000000) :
    Ctr Tryz.prog F_bytes_Clone [.sl 0 o l.length c] [.arr xs te] (fun x H => ∃ o' c' ys, x = .sl 1 o' l.length c' ∧ H = [.arr xs te, .arr ys T_uint8] ∧ Brow ys o' c' l) := by
  refine i_bytes_Clone.spec follows ?_
  refine fun b hbn => ?_
  refine And.intro (fun h => ?_) (fun _ => ?_)
  · have hx : xs = [] := by
      refine Classical.byContradiction fun hn => ?_
      rw [hbn hn] at h; cases h
    have hl0 := brow_nil_of hb hx
    refine VRet.nil T_uint8 [0] [] ⟨rfl, rfl⟩ (VRet.mk [0, 1] (.sl 1 0 0 0) [.arr xs te, .arr [] T_uint8] ⟨rfl, rfl, rfl⟩ ⟨0, 0, [], ?_, rfl, ?_⟩)
    · rw [hl0]; rfl
    · rw [hl0]; exact brow_nil
  refine And.intro ⟨⟨Nat.zero_le _, by simp, rfl⟩, ⟨?_, ?_⟩, by omega⟩ ?_
  · rw [hb.take1]; simp
  · rw [hb.take1]; exact cellsOK_ints l
  intro zs' o' c' hz
  refine VRet.mk [0, 2] (.sl 1 o' (0 + l.length) c') [.arr xs te, .arr zs' T_uint8] ⟨rfl, rfl, rfl⟩ ⟨o', c', zs', ?_, rfl, ?_, ?_, ?_⟩
  · show SV.sl 1 o' (0 + l.length) c' = _; rw [Nat.zero_add]
  · omega
  · omega
  · have := hz.2.2
    rw [hb.take1] at this
    simpa using this
structure BX where
  xs : List Value
  o : Nat
  c : Nat
  l : List Int
  u : Nat
theorem s_pack_Num (l : List Int) (xs : List Value) (te : TypeId) (o c : Nat) (hb : Brow xs o c l) (hl : l.length ≤ 9000000000) (v : Int) (hv : 0 ≤ v ∧ v < 4611686018427387904) :
    Ctr Tryz.prog F_pack_Num [.sl 0 o l.length c, iv v] [.arr xs te] (fun x H => ∃ o' c' ys, x = .sl 1 o' (l ++ Go.V.numB (2 * v.toNat)).length c' ∧ H = [.arr xs te, .arr ys T_uint8] ∧ Brow ys o' c' (l ++ Go.V.numB (2 * v.toNat))) := by
  refine i_pack_Num.spec follows ?_
  have hlen := numB_len10 (u := 2 * v.toNat) (by omega)
  refine VCall.mk [0] (s_bytes_Clone l xs te o c hb (by omega)) ⟨rfl, rfl, rfl⟩ ?_
  rintro _ _ ⟨o1, c1, ys1, rfl, rfl, hb1⟩
  refine Exists.intro _ (And.intro (w64u (n := v) (by omega)) ?_)
  refine And.intro (by omega) (Exists.intro _ (And.intro (shl1 hv) ?_))
  refine And.intro (by omega) (Exists.intro _ (And.intro (shr63 hv) ?_))
  refine Exists.intro _ (And.intro (w64u (n := 0) (by omega)) ?_)
  refine Exists.intro _ (And.intro (xor0 (u := 2 * v.toNat) (by omega)) ?_)
  refine VLoop.mk BX (fun x => [(5, .sl 1 x.o x.l.length x.c), (6, .raw (.int .u64 (x.u : Int)))])
    (fun x => [.arr xs te, .arr x.xs T_uint8])
    (fun x => Brow x.xs x.o x.c x.l ∧ x.l ++ Go.V.numB x.u = l ++ Go.V.numB (2 * v.toNat) ∧ x.u < 18446744073709551616) (fun x => x.u) ⟨ys1, o1, c1, l, 2 * v.toNat⟩ [0, 1] ⟨⟨hb1, rfl, by simp only; omega⟩, rfl, rfl, rfl⟩ ?_
  clear hb1
  rintro ⟨xs2, o2, c2, l2, u⟩ ⟨hB, hN, hu64⟩ g
  simp only at hB hN hu64
  have hNl := congrArg List.length hN
  simp only [List.length_append] at hNl
  have hlu : l2.length ≤ 10000000000 := by omega
  refine And.intro (fun h => ?_) (fun h => ?_)
  · have h := of_decide_eq_true h
    have hu : ¬ u < 128 := by simp only at h; omega
    refine Exists.intro _ (And.intro (Go.V.w8 u) ?_)
    refine Exists.intro _ (And.intro (Go.V.or8 u) ?_)
    refine And.intro ⟨⟨hB.1, by have := hB.2.1; simpa using this, rfl⟩, ⟨rfl, rfl⟩, by simp only; omega⟩ ?_
    intro zs' o' c' hz
    refine And.intro (by omega) (Exists.intro _ (And.intro (Go.V.sh7 u) ?_))
    refine Exists.intro ⟨zs', o', c', l2 ++ [((u % 128 + 128 : Nat) : Int)], u / 128⟩ (Exists.intro [0, 3] (And.intro ⟨⟨⟨?_, ?_, ?_⟩, ?_, by show u / 128 < _; omega⟩, ?_⟩ ⟨?_, rfl, rfl⟩))
    · have := hz.1; simp only at this; simp; omega
    · have := hz.2.1; simpa using this
    · have := hz.2.2
      simp only at this
      rw [hB.take1] at this
      simpa using this
    · rw [← hN, numB_ge hu, List.append_assoc]; rfl
    · show u / 128 < u; omega
    · show [nkb (.sl 3 o' (l2.length + 1) c'), _] = [nkb (.sl 3 o' (l2 ++ [((u % 128 + 128 : Nat) : Int)]).length c'), _]
      rw [List.length_append]; rfl
  · have h := of_decide_eq_false h
    have hu : u < 128 := by simp only at h; omega
    refine Exists.intro _ (And.intro (Go.V.w8 u) ?_)
    refine And.intro ⟨⟨hB.1, by have := hB.2.1; simpa using this, rfl⟩, ⟨rfl, rfl⟩, by simp only; omega⟩ ?_
    intro zs' o' c' hz
    have hm : u % 256 = u := by omega
    rw [numB_lt hu] at hN
    refine VRet.mk [0, 3] (.sl 1 o' (l2.length + 1) c') [.arr xs te, .arr zs' T_uint8] ⟨rfl, rfl, rfl⟩ ⟨o', c', zs', ?_, rfl, ?_⟩
    · show SV.sl 1 o' (l2.length + 1) c' = _; rw [← hN, List.length_append]; rfl
    · rw [← hN]
      refine ⟨?_, ?_, ?_⟩
      · have := hz.1; simp only at this; simp; omega
      · have := hz.2.1; simpa using this
      · have := hz.2.2
        simp only at this
        rw [hB.take1, hm] at this
        simpa using this
def vecB (v : Nat → Int) : Nat → List Int
  | 0 => []
  | n + 1 => vecB v n ++ Go.V.numB (2 * (v n).toNat)
theorem vecB_len {v : Nat → Int} (hv : ∀ r, r < 7 → 0 ≤ v r ∧ v r ≤ 2305843009213693951) : ∀ n, n ≤ 7 → (vecB v n).length ≤ 10 * n
  | 0, _ => by simp [vecB]
  | n + 1, h => by
    have := vecB_len hv n (by omega)
    have := hv n (by omega)
    have := numB_len10 (u := 2 * (v n).toNat) (by omega)
    rw [vecB, List.length_append]; omega

theorem s_vec_Put (l : List Int) (xs : List Value) (te : TypeId) (o c : Nat) (hb : Brow xs o c l) (hl : l.length ≤ 8000000000) (v : Nat → Int) (hv : ∀ r, r < 7 → 0 ≤ v r ∧ v r ≤ 2305843009213693951) :
    Ctr Tryz.prog F_vec_Put [.sl 0 o l.length c, .agg (vcells v)] [.arr xs te] (fun x H => ∃ o' c' ys, x = .sl 1 o' (l ++ vecB v 7).length c' ∧ H = [.arr xs te, .arr ys T_uint8] ∧ Brow ys o' c' (l ++ vecB v 7)) := by
  refine i_vec_Put.spec follows ?_
  refine VLoop.mk (Option BX) (fun x => match x with | none => [(0, .sl 0 o l.length c), (7, .agg (vcells v)), (8, iv (0 : Nat))] | some x => [(0, .sl 1 x.o x.l.length x.c), (7, .agg (vcells v)), (8, iv (x.u : Nat))])
    (fun x => match x with | none => [.arr xs te] | some x => [.arr xs te, .arr x.xs T_uint8])
    (fun x => match x with | none => True | some x => Brow x.xs x.o x.c x.l ∧ x.l = l ++ vecB v x.u ∧ x.u ≤ 7) (fun x => match x with | none => 8 | some x => 7 - x.u) none [0] ⟨trivial, rfl, rfl, rfl⟩ ?_
  rintro (_ | ⟨xs2, o2, c2, l2, i⟩) hinv g
  · refine And.intro (fun _ => ?_) (fun h => absurd h (by decide))
    have := hv 0 (by omega)
    refine And.intro ⟨by omega, by omega⟩ (Exists.intro _ (And.intro rfl ?_))
    refine VCall.mk [0] (s_pack_Num l xs te o c hb (by omega) (v 0) (by omega)) ⟨rfl, rfl, rfl⟩ ?_
    rintro _ _ ⟨o', c', ys, rfl, rfl, hB⟩
    refine Exists.intro _ (And.intro (wrap64 (n := ((0 : Nat) : Int) + 1) (by omega)) ?_)
    exact Exists.intro (some ⟨ys, o', c', l ++ Go.V.numB (2 * (v 0).toNat), 1⟩) (Exists.intro [0, 1] (And.intro ⟨⟨hB, by simp [vecB], by show 1 ≤ 7; omega⟩, by show 7 - 1 < 8; omega⟩ ⟨rfl, rfl, rfl⟩))
  have hinv : Brow xs2 o2 c2 l2 ∧ l2 = l ++ vecB v i ∧ i ≤ 7 := hinv
  obtain ⟨hB, rfl, hi⟩ := hinv
  have hvl := vecB_len hv i hi
  refine And.intro (fun h => ?_) (fun h => ?_)
  · have h := of_decide_eq_true h
    have hi7 : 0 ≤ (i : Int) ∧ (i : Int) < 7 := ⟨by omega, h⟩
    have hvi := hv i (by simp only at h; omega)
    have hw : IntKind.i64.wrap ((i : Int) + 1) = ((i + 1 : Nat) : Int) := wrap64 (by omega)
    have hg : (vcells v)[(i : Int).toNat * 1]? = some (iv (v (i : Int).toNat)) := by have := vcells_get' v hi7 []; simpa using this
    refine And.intro hi7 (Exists.intro _ (And.intro hg ?_))
    refine VCall.mk [1] (s_pack_Num (l ++ vecB v i) xs2 T_uint8 o2 c2 hB (by rw [List.length_append]; omega) (v (i : Int).toNat) (by rw [Int.toNat_natCast]; omega)) ⟨rfl, rfl, rfl⟩ ?_
    rintro _ _ ⟨o', c', ys, rfl, rfl, hB'⟩
    refine Exists.intro _ (And.intro hw ?_)
    refine Exists.intro (some ⟨ys, o', c', l ++ vecB v i ++ Go.V.numB (2 * (v (i : Int).toNat).toNat), i + 1⟩) (Exists.intro [0, 2] (And.intro ⟨⟨hB', ?_, by show i + 1 ≤ 7; simp only at h; omega⟩, ?_⟩ ⟨rfl, rfl, rfl⟩))
    · rw [Int.toNat_natCast, List.append_assoc]; rfl
    · show 7 - (i + 1) < 7 - i; simp only at h; omega
  · have h := of_decide_eq_false h
    have h7 : i = 7 := by simp only at h; omega
    subst h7
    exact VRet.mk [0, 1] (.sl 1 o2 (l ++ vecB v 7).length c2) [.arr xs te, .arr xs2 T_uint8] ⟨rfl, rfl, rfl⟩ ⟨o2, c2, xs2, rfl, rfl, hB⟩
theorem s_pack_Bytes (l m : List Int) (xs zs : List Value) (te te2 : TypeId) (o c o2 c2 : Nat) (hb : Brow xs o c l) (hb2 : Brow zs o2 c2 m) (hl : l.length ≤ 8000000000) (hm : m.length ≤ 500000000) :
    Ctr Tryz.prog F_pack_Bytes [.sl 0 o l.length c, .sl 1 o2 m.length c2] [.arr xs te, .arr zs te2]
      (fun x H => ∃ o' c' ys, x = .sl 2 o' (l ++ Go.V.numB (2 * m.length) ++ m).length c' ∧ H = [.arr xs te, .arr zs te2, .arr ys T_uint8] ∧ Brow ys o' c' (l ++ Go.V.numB (2 * m.length) ++ m)) := by
  refine i_pack_Bytes.spec follows ?_
  have hn := numB_len10 (u := 2 * m.length) (by omega)
  have hN := s_pack_Num l xs te o c hb (by omega) (m.length : Int) (by omega)
  rw [Int.toNat_natCast] at hN
  refine VCall.mk [0] hN ⟨rfl, rfl, rfl⟩ ?_
  rintro _ _ ⟨o1, c1, ys1, rfl, rfl, hb1⟩
  have hlen : (l ++ Go.V.numB (2 * m.length)).length ≤ 8000000010 := by rw [List.length_append]; omega
  refine And.intro ⟨⟨hb1.1, by have := hb1.2.1; simpa using this, rfl⟩, ⟨?_, ?_⟩, by omega⟩ ?_
  · rw [hb2.take1]; simp
  · rw [hb2.take1]; exact cellsOK_ints m
  intro zs' o' c' hz
  refine VRet.mk [0, 1, 3] (.sl 2 o' ((l ++ Go.V.numB (2 * m.length)).length + m.length) c') [.arr xs te, .arr zs te2, .arr zs' T_uint8] ⟨rfl, rfl, rfl⟩ ⟨o', c', zs', ?_, rfl, ?_, ?_, ?_⟩
  · rw [List.length_append (bs := m)]
  · have := hz.1; rw [List.length_append (bs := m)]; exact this
  · have := hz.2.1; simpa using this
  · have := hz.2.2
    rw [hb2.take1, hb1.take1, Nat.mul_one] at this
    rw [List.length_append (bs := m), List.map_append (l₂ := m)]
    exact this
def strL (s : ByteArray) : List Int := s.data.toList.map fun b => (b.toNat : Int)
theorem strL_len (s : ByteArray) : (strL s).length = s.size := by simp [strL]
def textB (s : ByteArray) : List Int := Go.V.numB (2 * s.size) ++ strL s
theorem s_pack_Text (l : List Int) (s : ByteArray) (xs : List Value) (te : TypeId) (o c : Nat) (hb : Brow xs o c l) (hl : l.length ≤ 8000000000) (hs : s.size ≤ 1000) :
    Ctr Tryz.prog F_pack_Text [.sl 0 o l.length c, .raw (.string s)] [.arr xs te]
      (fun x H => ∃ o' c' ys, x = .sl 1 o' (l ++ textB s).length c' ∧ H = [.arr xs te, .arr ys T_uint8] ∧ Brow ys o' c' (l ++ textB s)) := by
  refine i_pack_Text.spec follows ?_
  refine fun cp hcp => ?_
  have hbs : Brow (s.data.toList.map (fun b => Value.int .u8 b.toNat) ++ List.replicate (cp - s.size) (.int .u8 0)) 0 cp (strL s) := by
    refine ⟨by rw [strL_len]; exact hcp, ?_, ?_⟩
    · have : s.data.toList.length = s.size := by simp
      simp only [List.length_append, List.length_map, List.length_replicate]; omega
    · rw [List.drop_zero, strL_len]
      have : (s.data.toList.map (fun b => Value.int .u8 b.toNat)).length = s.size := by simp
      rw [List.take_append_of_le_length (by omega), List.take_of_length_le (by omega), strL, List.map_map]
      rfl
  have hB := s_pack_Bytes l (strL s) xs _ te T_uint8 o c 0 cp hb hbs hl (by rw [strL_len]; omega)
  rw [strL_len] at hB
  refine VCall.mk [0, 1] hB ⟨rfl, rfl, rfl⟩ ?_
  rintro _ _ ⟨o1, c1, ys1, rfl, rfl, hb1⟩
  rw [List.append_assoc] at hb1
  refine VRet.mk [0, 2] (.sl 1 o1 (l ++ Go.V.numB (2 * s.size) ++ strL s).length c1) [.arr xs te, .arr ys1 T_uint8] ⟨rfl, rfl, rfl⟩ ⟨o1, c1, ys1, ?_, rfl, hb1⟩
  rw [List.append_assoc]; rfl
end Go.Proofs

namespace Go.Proofs
open Go Go.V Go.Lib
set_option maxRecDepth 100000
set_option linter.unusedVariables false

/-! ### Rows; dots in order -/
theorem RowG.snoc {α : Type} {cl : α → List Value} {k : Nat} {xs zs : List Value} {o c o' cp n : Nat} {d : List α} {x : α} (h : RowG cl k xs o c d) (hn : n = d.length) (h1 : n + 1 ≤ cp) (h2 : o' + cp * k ≤ zs.length) (h3 : (zs.drop o').take ((n + 1) * k) = (xs.drop o).take (n * k) ++ cl x) :
    RowG cl k zs o' cp (d ++ [x]) := by
  subst hn
  refine ⟨by simpa using h1, h2, ?_⟩
  rw [List.length_append, List.flatMap_append]
  rw [h.2.2] at h3
  simpa using h3
abbrev dcl (d : Int × Int) : List Value := [.int .i64 d.1, .int .i64 d.2]
theorem cmpD_lt {x y : Int × Int} : cmpD x y < 0 ↔ x.1 < y.1 ∨ (x.1 = y.1 ∧ x.2 < y.2) := by
  simp only [cmpD, orI, cmpI]
  by_cases h1 : x.1 < y.1
  · simp [h1]
  · by_cases h2 : y.1 < x.1
    · simp [h1, h2]; omega
    · by_cases h3 : x.2 < y.2
      · simp [h1, h2, h3]; omega
      · by_cases h4 : y.2 < x.2
        · simp [h1, h2, h3, h4]
        · simp [h1, h2, h3, h4]
theorem ltOf_cmpD {x y : Int × Int} : ltOf cmpD x y = true ↔ x.1 < y.1 ∨ (x.1 = y.1 ∧ x.2 < y.2) := by
  simp only [ltOf, decide_eq_true_iff]; exact cmpD_lt
theorem swo_cmpD : Sort.SWO (ltOf cmpD) where
  irrefl := fun x => by rw [Bool.eq_false_iff, Ne, ltOf_cmpD]; omega
  trans := fun x y z => by rw [ltOf_cmpD, ltOf_cmpD, ltOf_cmpD]; omega
  ntrans := fun x y z => by rw [Bool.eq_false_iff, Bool.eq_false_iff, Bool.eq_false_iff, Ne, Ne, Ne, ltOf_cmpD, ltOf_cmpD, ltOf_cmpD]; omega
theorem Ctr.weak [V.Mode] {P : Program} {f : FuncId} {args : List SV} {H : List SO} {Post Post' : SV → List SO → Prop} (h : Ctr P f args H Post) (hp : ∀ v H', Post v H' → Post' v H') : Ctr P f args H Post' := by
  intro ρ g w h1 h2
  refine Calls.mono (h ρ g w h1 h2) ?_
  rintro e w' ⟨ρ', v, H', h3, h4, h5, h6, h7, h8⟩
  exact ⟨ρ', v, H', h3, h4, h5, h6, h7, hp _ _ h8⟩
theorem s_SortFunc (d : List (Int × Int)) (xs : List Value) (o c : Nat) (hr : RowG dcl 2 xs o c d) (hl : d.length ≤ 1000000) : Ctr Tryz.prog F_slices_SortFunc_sl_api_Dot_api_Dot [.sl 0 o d.length c, .fn F_dots_Order []] [.arr xs T_api_Dot]
    (fun x H => ∃ d' xs', x = .tup [] ∧ H = [.arr xs' T_api_Dot] ∧ d'.Perm d ∧ d'.Pairwise (fun a b => ¬ cmpD b a < 0) ∧ RowG dcl 2 xs' o c d') := by
  obtain ⟨h1, h2, h3⟩ := hr
  have h := sortK_ctr Tryz.sortDot Tryz.sortDot_agg Tryz.sortDot_size (cells := dcl) (fun _ => rfl) (by omega) (fun _ => rfl) cmpD swo_cmpD (gq := F_dots_Order) (by kernel_rfl)
    (fun x y => @Ctr.weak strictM _ _ _ _ _ _ (@s_dots_Order strictM x.1 x.2 y.1 y.2) (fun v H' h => h.1)) (H := [.arr xs T_api_Dot]) (j := 0) (off := o) (cap := c) (xs := xs) (e := T_api_Dot) rfl d h3 (by omega) (by omega)
  refine Ctr.weak h ?_
  rintro v H' ⟨rfl, d', hp, hs, rfl⟩
  have hl := hp.length_eq
  have hf : (d'.flatMap dcl).length = d'.length * 2 := flatMap_len (f := dcl) (k := 2) (fun _ => rfl) d'
  refine ⟨d', _, rfl, rfl, hp, ?_, by omega, by rw [rowSet_len (by omega)]; omega, ?_⟩
  · refine hs.imp fun {a b} h => ?_
    simpa [ltOf] using h
  · rw [← hf]; exact rowSet_cut (by omega)
def ltDD (a b : Int × Int) : Prop := a.1 < b.1 ∨ (a.1 = b.1 ∧ a.2 < b.2)
def ltDB (a b : Int × Int) : Bool := decide (a.1 < b.1) || (decide (a.1 = b.1) && decide (a.2 < b.2))
theorem ltDB_iff {a b : Int × Int} : ltDB a b = true ↔ ltDD a b := by simp [ltDB, ltDD]
def insD (d : Int × Int) : List (Int × Int) → List (Int × Int)
  | [] => [d]
  | e :: l => bif ltDB d e then d :: e :: l else e :: insD d l
def sortD (l : List (Int × Int)) : List (Int × Int) := l.foldr insD []
theorem mem_insD {d x : Int × Int} : ∀ {l : List (Int × Int)}, x ∈ insD d l ↔ x = d ∨ x ∈ l
  | [] => by simp [insD]
  | e :: l => by
    unfold insD
    cases ltDB d e
    · simp only [cond_false, List.mem_cons, mem_insD (l := l)]
      constructor
      · rintro (h | h | h)
        · exact .inr (.inl h)
        · exact .inl h
        · exact .inr (.inr h)
      · rintro (h | h | h)
        · exact .inr (.inl h)
        · exact .inl h
        · exact .inr (.inr h)
    · simp
theorem mem_sortD {x : Int × Int} : ∀ {l : List (Int × Int)}, x ∈ sortD l ↔ x ∈ l
  | [] => by simp [sortD]
  | e :: l => by
    show x ∈ insD e (sortD l) ↔ _
    rw [mem_insD, mem_sortD (l := l), List.mem_cons]
theorem ltDD.trans {a b c : Int × Int} (h1 : ltDD a b) (h2 : ltDD b c) : ltDD a c := by unfold ltDD at *; omega
theorem ltDD.irr {a : Int × Int} : ¬ ltDD a a := by unfold ltDD; omega
theorem ltDD.tri {a b : Int × Int} (h : a ≠ b) : ltDD a b ∨ ltDD b a := by
  obtain ⟨a1, a2⟩ := a
  obtain ⟨b1, b2⟩ := b
  simp only [ne_eq, Prod.mk.injEq] at h
  unfold ltDD
  simp only
  omega
theorem srt_insD {d : Int × Int} : ∀ {l : List (Int × Int)}, l.Pairwise ltDD → d ∉ l → (insD d l).Pairwise ltDD
  | [], _, _ => by simp [insD]
  | e :: l, h, hd => by
    simp only [List.pairwise_cons] at h
    simp only [List.mem_cons, not_or] at hd
    unfold insD
    cases hq : ltDB d e
    · refine List.pairwise_cons.2 ⟨fun x hx => ?_, srt_insD h.2 hd.2⟩
      rcases mem_insD.1 hx with h1 | h1
      · subst h1
        rcases ltDD.tri hd.1 with h2 | h2
        · rw [ltDB_iff.2 h2] at hq; cases hq
        · exact h2
      · exact h.1 x h1
    · have hq := ltDB_iff.1 hq
      refine List.pairwise_cons.2 ⟨fun x hx => ?_, List.pairwise_cons.2 h⟩
      rcases List.mem_cons.1 hx with h1 | h1
      · subst h1; exact hq
      · exact hq.trans (h.1 x h1)
theorem srt_sortD : ∀ {l : List (Int × Int)}, l.Nodup → (sortD l).Pairwise ltDD
  | [], _ => by simp [sortD]
  | e :: l, h => by
    have h := List.nodup_cons.1 h
    exact srt_insD (srt_sortD h.2) (fun k => h.1 (mem_sortD.1 k))
theorem srt_ext : ∀ {l m : List (Int × Int)}, l.Pairwise ltDD → m.Pairwise ltDD → (∀ x, x ∈ l ↔ x ∈ m) → l = m
  | [], [], _, _, _ => rfl
  | [], b :: m, _, _, h => absurd ((h b).2 (by simp)) (by simp)
  | a :: l, [], _, _, h => absurd ((h a).1 (by simp)) (by simp)
  | a :: l, b :: m, hl, hm, h => by
    have hl := List.pairwise_cons.1 hl
    have hm := List.pairwise_cons.1 hm
    have hab : a = b := by
      have h1 := List.mem_cons.1 ((h a).1 (by simp))
      have h2 := List.mem_cons.1 ((h b).2 (by simp))
      rcases h1 with h1 | h1
      · exact h1
      · rcases h2 with h2 | h2
        · exact h2.symm
        · exact absurd ((hm.1 a h1).trans (hl.1 b h2)) ltDD.irr
    subst hab
    congr 1
    refine srt_ext hl.2 hm.2 fun x => ⟨fun hx => ?_, fun hx => ?_⟩
    · rcases List.mem_cons.1 ((h x).1 (List.mem_cons.2 (.inr hx))) with h1 | h1
      · subst h1; exact absurd (hl.1 x hx) ltDD.irr
      · exact h1
    · rcases List.mem_cons.1 ((h x).2 (List.mem_cons.2 (.inr hx))) with h1 | h1
      · subst h1; exact absurd (hm.1 x hx) ltDD.irr
      · exact h1
theorem cmp_srt {d l : List (Int × Int)} (hn : l.Nodup) (hp : d.Perm l) (hs : d.Pairwise fun a b => ¬ cmpD b a < 0) : d = sortD l := by
  have hnd : d.Nodup := hp.nodup_iff.2 hn
  refine srt_ext ?_ (srt_sortD hn) fun x => by rw [mem_sortD, hp.mem_iff]
  refine List.Pairwise.imp_of_mem ?_ (List.pairwise_and_iff.2 ⟨hs, hnd⟩)
  rintro ⟨a1, a2⟩ ⟨b1, b2⟩ _ _ ⟨h1, h2⟩
  rw [cmpD_lt] at h1
  unfold ltDD
  simp only [ne_eq, Prod.mk.injEq] at h1 h2 ⊢
  omega
def zB (v : Int) : List Int := Go.V.numB (2 * v.toNat)
theorem zB_len {v : Int} (h : v < 4611686018427387904) : (zB v).length ≤ 10 := numB_len10 (by omega)
theorem flat_take {α : Type} {f : α → List Int} {l : List α} {i : Nat} (hi : i < l.length) : (l.take (i + 1)).flatMap f = (l.take i).flatMap f ++ f l[i] := by
  rw [← List.take_append_getElem hi, List.flatMap_append]; simp
theorem mem_put {K V : Type} [DecidableEq K] {e : K × V × Nat} : ∀ {ms : List (K × V × Nat)} {k : K} {v : V} {c : Nat}, e ∈ MP.put ms k v c → e ∈ ms ∨ (e.1 = k ∧ e.2.1 = v)
  | [], k, v, c, h => by simp [MP.put] at h; subst h; exact .inr ⟨rfl, rfl⟩
  | x :: ms, k, v, c, h => by
    unfold MP.put at h
    split at h
    · rename_i hk
      rcases List.mem_cons.1 h with h1 | h1
      · subst h1; exact .inr ⟨hk.symm, rfl⟩
      · exact .inl (by simp [h1])
    · rcases List.mem_cons.1 h with h1 | h1
      · exact .inl (by simp [h1])
      · rcases mem_put h1 with h2 | h2
        · exact .inl (by simp [h2])
        · exact .inr h2
theorem get_of_mem {K V : Type} [DecidableEq K] : ∀ {ms : List (K × V × Nat)} {e : K × V × Nat}, (ms.map (·.1)).Nodup → e ∈ ms → MP.get ms e.1 = some e.2.1
  | [], e, _, h => by simp at h
  | x :: ms, e, hn, h => by
    simp only [List.map_cons, List.nodup_cons] at hn
    rw [get_cons]
    rcases List.mem_cons.1 h with h1 | h1
    · subst h1; simp
    · have : e.1 ≠ x.1 := fun k => hn.1 (List.mem_map.2 ⟨e, h1, k⟩)
      rw [if_neg this]; exact get_of_mem hn.2 h1
theorem mem_of_get {K V : Type} [DecidableEq K] : ∀ {ms : List (K × V × Nat)} {k : K} {v : V}, MP.get ms k = some v → ∃ e, e ∈ ms ∧ e.1 = k ∧ e.2.1 = v
  | [], k, v, h => by simp [get_nil] at h
  | x :: ms, k, v, h => by
    rw [get_cons] at h
    split at h
    · rename_i hk
      exact ⟨x, by simp, hk.symm, by simpa using h⟩
    · obtain ⟨e, h1, h2, h3⟩ := mem_of_get h
      exact ⟨e, by simp [h1], h2, h3⟩
/-! ### Sets: two maps -/
abbrev encT (s : ByteArray) : Value := .string s
abbrev encV (v : Nat → Int) : Value := .agg #[.int .i64 (v 0), .int .i64 (v 1), .int .i64 (v 2), .int .i64 (v 3), .int .i64 (v 4), .int .i64 (v 5), .int .i64 (v 6)]
abbrev MS := List ((Int × Int) × ByteArray × Nat)
abbrev GM := List (ByteArray × (Nat → Int) × Nat)
theorem keyT_Str {mt et : TypeId} (h : Tryz.prog.underlying mt = some (.map T_string et)) : KeyT Tryz.prog mt et encT where
  ex := by
    have h1 : clsT Tryz.prog 2 T_string = some [.s] := by kernel_rfl
    have h2 : isAggT Tryz.prog T_string = some false := by kernel_rfl
    refine ⟨T_string, 2, _, h, by omega, by omega, h1, fun a => ⟨[.string a], by simp [mkV, h2], rfl, fun b ys hb hl => ?_⟩⟩
    match ys, hl with
    | [y], _ =>
      have hy : y = .string b := by simpa [mkV, h2] using hb.symm
      subst hy
      refine ⟨a == b, by simp [eqV, eq1V], ?_⟩
      cases a with | mk x => cases b with | mk z =>
        show (x == z) = true ↔ _
        simp
  bits := fun a => by
    cases a with | mk x =>
      show (x == x) = true
      exact beq_self_eq_true x
theorem kT : KeyT Tryz.prog T_map_api_Dot_string T_string encD := keyT_Dot (by kernel_rfl)
theorem lookT (ms : MS) (d : Int × Int) : LookupIs Tryz.prog T_map_api_Dot_string (ents encD encT ms) (encD d) (encT ((MP.get ms d).getD (ByteArray.mk #[]))) ((MP.get ms d).isSome) := by
  have := lookup_is (encv := encT) kT (z := encT (ByteArray.mk #[])) (by kernel_rfl) ms d
  cases h : MP.get ms d <;> rw [h] at this <;> exact this
def vz : Nat → Int := fun _ => 0
theorem kG : KeyT Tryz.prog T_map_string_vec_Vec T_vec_Vec encT := keyT_Str (by kernel_rfl)
theorem lookG (gs : GM) (x : ByteArray) : LookupIs Tryz.prog T_map_string_vec_Vec (ents encT encV gs) (encT x) (encV ((MP.get gs x).getD vz)) ((MP.get gs x).isSome) := by
  have := lookup_is (encv := encV) kG (z := encV vz) (by kernel_rfl) gs x
  cases h : MP.get gs x <;> rw [h] at this <;> exact this
abbrev SO2 (ms : MS) (c : Nat) (gs : GM) (c2 : Nat) : List SO := [.cells [.mp 1, .mp 2] T_orset_Set, .map (ents encD encT ms) c, .map (ents encT encV gs) c2]
/-- What was taken away of a text. -/
def goneAt (gs : GM) (x : ByteArray) : Nat → Int := (MP.get gs x).getD vz
def liveB (gs : GM) (e : (Int × Int) × ByteArray × Nat) : Bool := !has (goneAt gs e.2.1) e.1.1 e.1.2
theorem s_live (ms : MS) (c : Nat) (gs : GM) (c2 : Nat) (r n : Int) (x : ByteArray) : Ctr Tryz.prog F_orset_Set_live [.ptr 0 0, .agg (dcells r n), .raw (.string x)] (SO2 ms c gs c2) (fun v H => v = bv (!has (goneAt gs x) r n) ∧ H = SO2 ms c gs c2) := by
  refine i_orset_Set_live.spec follows ?_
  refine Exists.intro (.agg (vcells (goneAt gs x))) (Exists.intro _ (Exists.intro _ (And.intro (lookG gs x) (And.intro rfl ?_))))
  refine VCall.mk [] (s_vec_Has _ r n) ⟨rfl, rfl, rfl⟩ ?_
  rintro _ _ ⟨rfl, rfl⟩
  exact VRet.mk [0, 1, 2] (bv (!has (goneAt gs x) r n)) (SO2 ms c gs c2) ⟨rfl, rfl, rfl⟩ ⟨rfl, rfl⟩
/-! ### A set's texts, sorted, once each -/
abbrev tcl (e : (Int × Int) × ByteArray × Nat) : List Value := [.string e.2.1]
abbrev txt (e : (Int × Int) × ByteArray × Nat) : List UInt8 := e.2.1.data.toList
theorem tcl_st (l : MS) : l.flatMap tcl = (l.map txt).flatMap stcl := by
  induction l with
  | nil => rfl
  | cons e l ih => rw [List.flatMap_cons, List.map_cons, List.flatMap_cons, ih]
def sortX (l : List (List UInt8)) : List (List UInt8) := l.mergeSort fun x y => decide (x ≤ y)
theorem sortX_len (l : List (List UInt8)) : (sortX l).length = l.length := List.length_mergeSort _
theorem sortX_pw (l : List (List UInt8)) : (sortX l).Pairwise fun a b => a ≤ b := by
  have := List.pairwise_mergeSort (le := fun x y : List UInt8 => decide (x ≤ y)) (fun a b c h1 h2 => by
    simp only [decide_eq_true_eq] at h1 h2 ⊢
    exact List.le_trans h1 h2) (fun a b => by
    simp only [Bool.or_eq_true, decide_eq_true_eq]
    exact List.le_total a b) l
  exact this.imp fun h => by simpa using h
theorem sortX_eq {l m : List (List UInt8)} (h : l.Perm m) : sortX l = sortX m :=
  List.Perm.eq_of_pairwise (le := fun a b => a ≤ b) (fun a b _ _ h1 h2 => List.le_antisymm h1 h2) (sortX_pw l) (sortX_pw m) ((List.mergeSort_perm _ _).trans (h.trans (List.mergeSort_perm _ _).symm))
def allT (ms : MS) (gs : GM) : List (List UInt8) := compact (sortX ((ms.filter (liveB gs)).map txt))
theorem s_SortS (d : List (List UInt8)) (xs : List Value) (o c : Nat) (hr : RowG stcl 1 xs o c d) (hl : d.length ≤ 1000000) :
    Ctr Tryz.prog F_slices_Sort_sl_string_string [.sl 0 o d.length c] [.arr xs T_string] (fun x H => ∃ xs', x = .tup [] ∧ H = [.arr xs' T_string] ∧ RowG stcl 1 xs' o c (sortX d)) := by
  obtain ⟨h1, h2, h3⟩ := hr
  rw [Nat.mul_one] at h3
  have h := sortS_ctr Tryz.laysSort (H := [.arr xs T_string]) (j := 0) (off := o) (cap := c) (xs := xs) (e := T_string) rfl d h3 (by omega) (by omega)
  refine Ctr.weak h ?_
  rintro v H' ⟨rfl, rfl⟩
  have hm : (sortX d).length = d.length := sortX_len d
  have hf : ((sortX d).flatMap stcl).length = d.length := by rw [flatMap_len (f := stcl) (k := 1) (fun _ => rfl), hm]; omega
  refine ⟨_, rfl, rfl, by rw [hm]; exact h1, by rw [rowSet_len (by show o + ((sortX d).flatMap stcl).length ≤ _; omega)]; exact h2, ?_⟩
  rw [hm, Nat.mul_one, ← hf]; exact rowSet_cut (by show o + ((sortX d).flatMap stcl).length ≤ _; omega)
theorem s_CompactS (d : List (List UInt8)) (xs : List Value) (o c : Nat) (hr : RowG stcl 1 xs o c d) (hl : d.length ≤ 1000000) :
    Ctr Tryz.prog F_slices_Compact_sl_string_string [.sl 0 o d.length c] [.arr xs T_string] (fun x H => ∃ xs', x = .sl 0 o (compact d).length c ∧ H = [.arr xs' T_string] ∧ RowG stcl 1 xs' o c (compact d)) := by
  obtain ⟨h1, h2, h3⟩ := hr
  rw [Nat.mul_one] at h3
  have h := compactS_ctr Tryz.laysComp (H := [.arr xs T_string]) (j := 0) (off := o) (cap := c) (xs := xs) (e := T_string) rfl d h3 (by omega) h1 (by omega)
  refine Ctr.weak h ?_
  rintro v H' ⟨rfl, rfl⟩
  have hcl := compact_len d
  have hm : (compact d ++ List.replicate (d.length - (compact d).length) []).length = d.length := by rw [List.length_append, List.length_replicate]; omega
  have hf : ((compact d ++ List.replicate (d.length - (compact d).length) []).flatMap stcl).length = d.length := by rw [flatMap_len (f := stcl) (k := 1) (fun _ => rfl), hm]; omega
  have hcut := rowSet_cut (xs := xs) (o := o) (ys := (compact d ++ List.replicate (d.length - (compact d).length) []).flatMap stcl) (by omega)
  have hfc : ((compact d).flatMap stcl).length = (compact d).length := by rw [flatMap_len (f := stcl) (k := 1) (fun _ => rfl)]; omega
  refine ⟨_, rfl, rfl, by omega, by rw [rowSet_len (by omega)]; exact h2, ?_⟩
  have hY : (((compact d ++ List.replicate (d.length - (compact d).length) []).flatMap stcl)).take (compact d).length = (compact d).flatMap stcl := by
    rw [List.flatMap_append, List.take_append_of_le_length (by rw [hfc]; exact Nat.le_refl _), List.take_of_length_le (by rw [hfc]; exact Nat.le_refl _)]
  rw [Nat.mul_one]
  generalize (compact d ++ List.replicate (d.length - (compact d).length) []).flatMap stcl = Y at *
  have := congrArg (List.take (compact d).length) hcut
  rw [List.take_take, hf, Nat.min_eq_left hcl, hY] at this
  exact this
structure ALX where
  pre : MS
  seen : List Nat
  n : Nat
  xs : List Value
  o : Nat
  c : Nat
theorem s_All (ms : MS) (c : Nat) (gs : GM) (c2 : Nat) (hm : MOK ms c) (hk : (ms.map (·.1)).Nodup) (hl : ms.length ≤ 1000000) :
    Ctr Tryz.prog F_orset_Set_All [.ptr 0 0] (SO2 ms c gs c2) (fun x H => ∃ xs o cp, x = .sl 3 o (allT ms gs).length cp ∧ H = SO2 ms c gs c2 ++ [.arr xs T_string] ∧ RowG stcl 1 xs o cp (allT ms gs)) := by
  refine i_orset_Set_All.spec follows ?_
  refine VLoop.nil T_string [3] [] ⟨rfl, rfl⟩ ?_
  refine VLoop.mk ALX (fun x => [(0, .ptr 0 0), (3, .sl 4 x.o x.n x.c), (10, .ptr 3 0)]) (fun x => SO2 ms c gs c2 ++ [.iter (some 1) c x.seen c, .arr x.xs T_string]) (fun x => Been ms x.pre x.seen ∧ x.n = (x.pre.filter (liveB gs)).length ∧ RowG tcl 1 x.xs x.o x.c (x.pre.filter (liveB gs))) (fun x => ms.length - x.pre.length) ⟨[], [], 0, [], 0, 0⟩ [0, 1, 2, 3, 4]
    ⟨⟨Been.nil _, rfl, ⟨Nat.le_refl _, by simp, by simp⟩⟩, rfl, rfl, rfl⟩ ?_
  rintro ⟨pre, seen, n, xs, o, cp⟩ ⟨h1, hn, hr⟩ g
  simp only at h1 hn hr
  refine And.intro ⟨fun e he => ?_, Nat.le_refl _⟩ (And.intro (fun hall => ?_) (fun e he hns => ?_))
  · obtain ⟨x, hx, rfl⟩ := List.mem_map.1 he
    exact hm.1 x hx
  · have hsub : ∀ x, x ∈ ms → x ∈ pre := fun x hx => h1.all hm.2 hx (hall _ (List.mem_map.2 ⟨x, hx, rfl⟩))
    have hnd : pre.Nodup := by have := h1.nd; rw [h1.eq] at this; exact nodup_of_map _ this
    have hp : pre.Perm ms := (List.perm_ext_iff_of_nodup hnd (nodup_of_map _ hk)).2 fun a => ⟨h1.sub a, hsub a⟩
    have hpl := hp.length_eq
    have hfl := List.length_filter_le (liveB gs) pre
    have hr2 : RowG stcl 1 xs o cp ((pre.filter (liveB gs)).map txt) := by
      refine ⟨by rw [List.length_map]; exact hr.1, hr.2.1, ?_⟩
      rw [List.length_map, ← tcl_st]; exact hr.2.2
    have hE : sortX ((pre.filter (liveB gs)).map txt) = sortX ((ms.filter (liveB gs)).map txt) := sortX_eq ((hp.filter _).map _)
    subst hn
    have hS := s_SortS ((pre.filter (liveB gs)).map txt) xs o cp hr2 (by rw [List.length_map]; omega)
    rw [List.length_map] at hS
    refine VCall.mk [4] hS ⟨rfl, rfl, rfl⟩ ?_
    rintro _ _ ⟨xs', rfl, rfl, hr'⟩
    have hsl : (sortX ((pre.filter (liveB gs)).map txt)).length = (pre.filter (liveB gs)).length := by rw [sortX_len, List.length_map]
    have hC := s_CompactS (sortX ((pre.filter (liveB gs)).map txt)) xs' o cp hr' (by rw [hsl]; omega)
    rw [hsl, hE] at hC
    refine VCall.mk [4] hC ⟨rfl, rfl, rfl⟩ ?_
    rintro _ _ ⟨xs2, rfl, rfl, hr3⟩
    exact VRet.mk [0, 1, 2, 4] (.sl 3 o (allT ms gs).length cp) (SO2 ms c gs c2 ++ [.arr xs2 T_string]) ⟨rfl, rfl, rfl⟩ ⟨xs2, o, cp, rfl, rfl, hr3⟩
  · obtain ⟨x, hx, rfl⟩ := List.mem_map.1 he
    have hns : x.2.2 ∉ seen := hns
    have hlen : ms.length - (pre ++ [x]).length < ms.length - pre.length := by classical exact h1.len hx hns
    have hmore := h1.more hx hns
    have hfl := List.length_filter_le (liveB gs) pre
    have hnb : (n + 1) * 16 ≤ 1099511627776 := by omega
    refine Exists.intro x.2.2 (Exists.intro (ent encD encT x) (And.intro (last_snoc _ _) (And.intro (find_ents hm.2 hx) (And.intro rfl ?_))))
    refine VCall.mk [0, 1, 2] (s_live ms c gs c2 x.1.1 x.1.2 x.2.1) ⟨rfl, rfl, rfl⟩ ?_
    rintro _ _ ⟨rfl, rfl⟩
    refine And.intro (fun hv => ?_) (fun hv => ?_)
    · have hv : liveB gs x = true := hv
      refine And.intro ⟨⟨by rw [hn]; exact hr.1, hr.2.1, rfl⟩, ⟨rfl, rfl⟩, hnb⟩ ?_
      intro xs' o' c' hz
      refine Exists.intro ⟨pre ++ [x], seen ++ [x.2.2], n + 1, xs', o', c'⟩ (Exists.intro [0, 1, 2, 3, 7] (And.intro ⟨⟨hmore, ?_, ?_⟩, hlen⟩ ⟨rfl, rfl, rfl⟩))
      · simp only; rw [hn, List.filter_append, List.length_append]; simp [hv]
      · simp only; rw [List.filter_append]
        have : [x].filter (liveB gs) = [x] := by simp [hv]
        rw [this]
        exact RowG.snoc hr hn hz.1 hz.2.1 hz.2.2
    · have hv : liveB gs x = false := hv
      refine Exists.intro ⟨pre ++ [x], seen ++ [x.2.2], n, xs, o, cp⟩ (Exists.intro [0, 1, 2, 3, 4] (And.intro ⟨⟨hmore, ?_, ?_⟩, hlen⟩ ⟨rfl, rfl, rfl⟩))
      · simp only; rw [hn, List.filter_append, List.length_append]; simp [hv]
      · simp only; rw [List.filter_append]
        have : [x].filter (liveB gs) = [] := by simp [hv]
        rw [this, List.append_nil]; exact hr
end Go.Proofs

namespace Go.Proofs
open Go Go.V Go.Lib
set_option maxRecDepth 100000
set_option linter.unusedVariables false

/-! ### By which dots a text is there -/
def dotE (gs : GM) (x : ByteArray) (e : (Int × Int) × ByteArray × Nat) : Bool := decide (x = e.2.1) && liveB gs e
def dotsT (ms : MS) (gs : GM) (x : ByteArray) : List (Int × Int) := sortD ((ms.filter (dotE gs x)).map (·.1))
theorem sortD_len {l : List (Int × Int)} (h : l.Nodup) : (sortD l).length = l.length := by
  have h1 : (sortD l).Nodup := (srt_sortD h).imp fun h e => by subst e; exact ltDD.irr h
  exact ((List.perm_ext_iff_of_nodup h1 h).2 fun a => mem_sortD).length_eq
theorem dotsT_nd {ms : MS} (hk : (ms.map (·.1)).Nodup) (gs : GM) (x : ByteArray) : ((ms.filter (dotE gs x)).map (·.1)).Nodup := hk.sublist (List.filter_sublist.map _)
theorem dotsT_len {ms : MS} (hk : (ms.map (·.1)).Nodup) (gs : GM) (x : ByteArray) : (dotsT ms gs x).length ≤ ms.length := by
  rw [dotsT, sortD_len (dotsT_nd hk gs x), List.length_map]; exact List.length_filter_le _ _
theorem str_beq (x y : ByteArray) : (x.toList == y.toList) = decide (x = y) := by
  rw [ByteArray.toList_eq, ByteArray.toList_eq]
  by_cases h : x = y
  · subst h; simp
  · rw [decide_eq_false h, beq_eq_false_iff_ne]
    intro e; apply h
    cases x; cases y
    simp only at e
    rw [Array.toList_inj.1 e]
theorem s_Dots (ms : MS) (c : Nat) (gs : GM) (c2 : Nat) (x : ByteArray) (hm : MOK ms c) (hk : (ms.map (·.1)).Nodup) (hl : ms.length ≤ 1000000) :
    Ctr Tryz.prog F_orset_Set_Dots [.ptr 0 0, .raw (.string x)] (SO2 ms c gs c2) (fun v H => ∃ xs o cp, v = .sl 3 o (dotsT ms gs x).length cp ∧ H = SO2 ms c gs c2 ++ [.arr xs T_api_Dot] ∧ RowG dcl 2 xs o cp (dotsT ms gs x)) := by
  refine i_orset_Set_Dots.spec follows ?_
  refine VLoop.nil T_api_Dot [5] [] ⟨rfl, rfl⟩ ?_
  refine VLoop.mk ALX (fun y => [(0, .ptr 0 0), (1, .raw (.string x)), (5, .sl 4 y.o y.n y.c), (12, .ptr 3 0)]) (fun y => SO2 ms c gs c2 ++ [.iter (some 1) c y.seen c, .arr y.xs T_api_Dot]) (fun y => Been ms y.pre y.seen ∧ y.n = ((y.pre.filter (dotE gs x)).map (·.1)).length ∧ RowG dcl 2 y.xs y.o y.c ((y.pre.filter (dotE gs x)).map (·.1))) (fun y => ms.length - y.pre.length) ⟨[], [], 0, [], 0, 0⟩ [0, 1, 2, 3, 4]
    ⟨⟨Been.nil _, rfl, ⟨Nat.le_refl _, by simp, by simp⟩⟩, rfl, rfl, rfl⟩ ?_
  rintro ⟨pre, seen, n, xs, o, cp⟩ ⟨h1, hn, hr⟩ g
  simp only at h1 hn hr
  refine And.intro ⟨fun e he => ?_, Nat.le_refl _⟩ (And.intro (fun hall => ?_) (fun e he hns => ?_))
  · obtain ⟨y, hy, rfl⟩ := List.mem_map.1 he
    exact hm.1 y hy
  · have hsub : ∀ y, y ∈ ms → y ∈ pre := fun y hy => h1.all hm.2 hy (hall _ (List.mem_map.2 ⟨y, hy, rfl⟩))
    have hnd : pre.Nodup := by have := h1.nd; rw [h1.eq] at this; exact nodup_of_map _ this
    have hp : pre.Perm ms := (List.perm_ext_iff_of_nodup hnd (nodup_of_map _ hk)).2 fun a => ⟨h1.sub a, hsub a⟩
    have hpl := hp.length_eq
    have hfl := List.length_filter_le (dotE gs x) pre
    subst hn
    have hS := s_SortFunc ((pre.filter (dotE gs x)).map (·.1)) xs o cp hr (by rw [List.length_map]; omega)
    refine VCall.mk [4] hS ⟨rfl, rfl, rfl⟩ ?_
    rintro _ _ ⟨d', xs', rfl, rfl, hp', hs, hr'⟩
    have hd : d' = dotsT ms gs x := cmp_srt (dotsT_nd hk gs x) (hp'.trans ((hp.filter _).map _)) hs
    have hdl := hp'.length_eq
    subst hd
    rw [← hdl]
    exact VRet.mk [0, 1, 2, 4] (.sl 3 o (dotsT ms gs x).length cp) (SO2 ms c gs c2 ++ [.arr xs' T_api_Dot]) ⟨rfl, rfl, rfl⟩ ⟨xs', o, cp, rfl, rfl, hr'⟩
  · obtain ⟨y, hy, rfl⟩ := List.mem_map.1 he
    have hns : y.2.2 ∉ seen := hns
    have hlen : ms.length - (pre ++ [y]).length < ms.length - pre.length := by classical exact h1.len hy hns
    have hmore := h1.more hy hns
    have hfl := List.length_filter_le (dotE gs x) pre
    have hn1 : n = (pre.filter (dotE gs x)).length := by rw [hn, List.length_map]
    have hnb : (n + 1) * 16 ≤ 1099511627776 := by omega
    have hno : dotE gs x y = false → ∃ (x' : ALX) (σ : List Nat), ((Been ms x'.pre x'.seen ∧ x'.n = ((x'.pre.filter (dotE gs x)).map (·.1)).length ∧ RowG dcl 2 x'.xs x'.o x'.c ((x'.pre.filter (dotE gs x)).map (·.1))) ∧ ms.length - x'.pre.length < ms.length - pre.length) ∧ x' = ⟨pre ++ [y], seen ++ [y.2.2], n, xs, o, cp⟩ ∧ σ = [0, 1, 2, 3, 4] := fun hv => by
      have e : (pre ++ [y]).filter (dotE gs x) = pre.filter (dotE gs x) := by rw [List.filter_append]; simp [hv]
      refine ⟨⟨pre ++ [y], seen ++ [y.2.2], n, xs, o, cp⟩, [0, 1, 2, 3, 4], ⟨⟨hmore, ?_, ?_⟩, hlen⟩, rfl, rfl⟩
      · simp only; rw [e]; exact hn
      · simp only; rw [e]; exact hr
    refine Exists.intro y.2.2 (Exists.intro (ent encD encT y) (And.intro (last_snoc _ _) (And.intro (find_ents hm.2 hy) (And.intro rfl ?_))))
    refine And.intro (fun hx => ?_) (fun hx => ?_)
    · have hx : x = y.2.1 := by have hx : (x.toList == y.2.1.toList) = true := hx; rw [str_beq] at hx; exact of_decide_eq_true hx
      refine VCall.mk [0, 1, 2] (s_live ms c gs c2 y.1.1 y.1.2 x) ⟨rfl, rfl, rfl⟩ ?_
      rintro _ _ ⟨rfl, rfl⟩
      refine And.intro (fun hv => ?_) (fun hv => ?_)
      · have hv : dotE gs x y = true := by have hv : (!has (goneAt gs x) y.1.1 y.1.2) = true := hv; unfold dotE liveB; rw [← hx, hv, decide_eq_true rfl]; rfl
        have e : ((pre ++ [y]).filter (dotE gs x)).map (·.1) = (pre.filter (dotE gs x)).map (·.1) ++ [y.1] := by rw [List.filter_append]; simp [hv]
        refine And.intro ⟨⟨by rw [hn]; exact hr.1, hr.2.1, rfl⟩, ⟨rfl, rfl⟩, hnb⟩ ?_
        intro xs' o' c' hz
        refine Exists.intro ⟨pre ++ [y], seen ++ [y.2.2], n + 1, xs', o', c'⟩ (Exists.intro [0, 1, 2, 3, 7] (And.intro ⟨⟨hmore, ?_, ?_⟩, hlen⟩ ⟨rfl, rfl, rfl⟩))
        · simp only; rw [e, hn, List.length_append]; rfl
        · simp only; rw [e]; exact RowG.snoc hr hn hz.1 hz.2.1 hz.2.2
      · have hv : dotE gs x y = false := by have hv : (!has (goneAt gs x) y.1.1 y.1.2) = false := hv; unfold dotE liveB; rw [← hx, hv]; simp
        obtain ⟨x', σ, hi, rfl, rfl⟩ := hno hv
        exact Exists.intro ⟨pre ++ [y], seen ++ [y.2.2], n, xs, o, cp⟩ (Exists.intro [0, 1, 2, 3, 4] (And.intro hi ⟨rfl, rfl, rfl⟩))
    · have hv : dotE gs x y = false := by have hx : (x.toList == y.2.1.toList) = false := hx; rw [str_beq] at hx; unfold dotE; rw [hx]; rfl
      obtain ⟨x', σ, hi, rfl, rfl⟩ := hno hv
      exact Exists.intro ⟨pre ++ [y], seen ++ [y.2.2], n, xs, o, cp⟩ (Exists.intro [0, 1, 2, 3, 4] (And.intro hi ⟨rfl, rfl, rfl⟩))
/-! ### A set's bytes -/
def dotB (d : Int × Int) : List Int := zB d.1 ++ zB d.2
def oneB (ms : MS) (gs : GM) (t : List UInt8) : List Int := textB ⟨t.toArray⟩ ++ zB ((dotsT ms gs ⟨t.toArray⟩).length : Nat) ++ (dotsT ms gs ⟨t.toArray⟩).flatMap dotB
def setB (ms : MS) (gs : GM) : List Int := zB ((allT ms gs).length : Nat) ++ (allT ms gs).flatMap (oneB ms gs)
/-- What holds of a set. -/
structure SI (ms : MS) (c : Nat) (gs : GM) (c2 N : Nat) : Prop where
  m : MOK ms c
  km : (ms.map (·.1)).Nodup
  ml : ms.length ≤ N
  me : ∀ e, e ∈ ms → isDot e.1.1 e.1.2 = true ∧ e.2.1.size ≤ 100
  g : MOK gs c2
  gk : (gs.map (·.1)).Nodup
  gl : gs.length ≤ N
theorem mem_compact {t : List UInt8} {l : List (List UInt8)} (h : t ∈ compact l) : t ∈ l := by
  unfold compact compactUpTo at h
  obtain ⟨i, hi, rfl⟩ := List.mem_map.1 h
  have hi := List.mem_range.1 ((List.mem_filter.1 hi).1)
  rw [getElem!_pos l.toArray i (by simpa using hi)]
  simp
theorem mem_allT {ms : MS} {gs : GM} {t : List UInt8} (h : t ∈ allT ms gs) : ∃ e, e ∈ ms ∧ liveB gs e = true ∧ txt e = t := by
  have := (List.mergeSort_perm _ _).mem_iff.1 (mem_compact h)
  obtain ⟨e, he, rfl⟩ := List.mem_map.1 this
  exact ⟨e, (List.mem_filter.1 he).1, (List.mem_filter.1 he).2, rfl⟩
theorem allT_len (ms : MS) (gs : GM) : (allT ms gs).length ≤ ms.length := by
  refine Nat.le_trans (compact_len _) ?_
  rw [sortX_len, List.length_map]; exact List.length_filter_le _ _
theorem isDot_bd {r n : Int} (h : isDot r n = true) : (0 ≤ r ∧ r < 7) ∧ 1 ≤ n ∧ n ≤ 1099511627776 := by
  unfold isDot at h
  simp only [Bool.and_eq_true, decide_eq_true_eq] at h
  exact ⟨isRep_iff.1 h.1, h.2.1, h.2.2⟩
theorem flat_lenC {α : Type} {f : α → List Int} {C : Nat} : ∀ {l : List α}, (∀ a, a ∈ l → (f a).length ≤ C) → (l.flatMap f).length ≤ C * l.length
  | [], _ => by simp
  | a :: l, h => by
    have h1 := h a (by simp)
    have h2 := flat_lenC (f := f) (l := l) (fun b hb => h b (by simp [hb]))
    rw [List.flatMap_cons, List.length_append, List.length_cons, Nat.mul_add]
    omega
section
variable {ms : MS} {c : Nat} {gs : GM} {c2 N : Nat}
theorem SI.dots (h : SI ms c gs c2 N) {x : ByteArray} {d : Int × Int} (hd : d ∈ dotsT ms gs x) : isDot d.1 d.2 = true := by
  obtain ⟨e, he, rfl⟩ := List.mem_map.1 (mem_sortD.1 hd)
  exact (h.me e ((List.mem_filter.1 he).1)).1
theorem SI.txt (h : SI ms c gs c2 N) {t : List UInt8} (ht : t ∈ allT ms gs) : t.length ≤ 100 := by
  obtain ⟨e, he, _, rfl⟩ := mem_allT ht
  have := (h.me e he).2
  simpa using this
theorem dotB_len {d : Int × Int} (h : isDot d.1 d.2 = true) : (dotB d).length ≤ 20 := by
  have := isDot_bd h
  have h1 := zB_len (v := d.1) (by omega)
  have h2 := zB_len (v := d.2) (by omega)
  rw [dotB, List.length_append]; omega
theorem SI.dotsB (h : SI ms c gs c2 N) (hN : N ≤ 100) (x : ByteArray) (i : Nat) : (((dotsT ms gs x).take i).flatMap dotB).length ≤ 2000 := by
  have h1 := flat_lenC (f := dotB) (C := 20) (l := (dotsT ms gs x).take i) fun d hd => dotB_len (h.dots (List.mem_of_mem_take hd))
  have h2 := dotsT_len h.km gs x
  have h3 := h.ml
  rw [List.length_take] at h1
  omega
theorem SI.oneB (h : SI ms c gs c2 N) (hN : N ≤ 100) {t : List UInt8} (ht : t ∈ allT ms gs) : (oneB ms gs t).length ≤ 3000 := by
  have h1 := h.dotsB hN ⟨t.toArray⟩ (dotsT ms gs ⟨t.toArray⟩).length
  rw [List.take_length] at h1
  have h2 := dotsT_len h.km gs ⟨t.toArray⟩
  have h3 := zB_len (v := ((dotsT ms gs ⟨t.toArray⟩).length : Nat)) (by have := h.ml; omega)
  have h4 := h.txt ht
  have h5 : (textB ⟨t.toArray⟩).length ≤ 110 := by
    have e : (⟨t.toArray⟩ : ByteArray).size = t.length := by simp [ByteArray.size]
    have := numB_len10 (u := 2 * (⟨t.toArray⟩ : ByteArray).size) (by rw [e]; omega)
    rw [textB, List.length_append, strL_len, e]; rw [e] at this; omega
  rw [Go.Proofs.oneB, List.length_append, List.length_append]; omega
theorem SI.allB (h : SI ms c gs c2 N) (hN : N ≤ 100) (i : Nat) : (((allT ms gs).take i).flatMap (Go.Proofs.oneB ms gs)).length ≤ 300000 := by
  have h1 := flat_lenC (f := Go.Proofs.oneB ms gs) (C := 3000) (l := (allT ms gs).take i) fun d hd => h.oneB hN (List.mem_of_mem_take hd)
  have h2 := allT_len ms gs
  have h3 := h.ml
  rw [List.length_take] at h1
  omega
theorem SI.setB_len (h : SI ms c gs c2 N) (hN : N ≤ 100) : (setB ms gs).length ≤ 300010 := by
  have h1 := h.allB hN (allT ms gs).length
  rw [List.take_length] at h1
  have h2 := allT_len ms gs
  have h3 := zB_len (v := ((allT ms gs).length : Nat)) (by have := h.ml; omega)
  rw [setB, List.length_append]; omega
end
theorem s_SPut (ms : MS) (c : Nat) (gs : GM) (c2 N : Nat) (hI : SI ms c gs c2 N) (hN : N ≤ 100) (l : List Int) (xs : List Value) (te : TypeId) (o cp : Nat) (hb : Brow xs o cp l) (hl : l.length ≤ 1000000) :
    Ctr Tryz.prog F_orset_Set_Put [.ptr 0 0, .sl 3 o l.length cp] (SO2 ms c gs c2 ++ [.arr xs te]) (fun v H => ∃ o' c' ys, v = .sl 4 o' (l ++ setB ms gs).length c' ∧ H = SO2 ms c gs c2 ++ [.arr xs te, .arr ys T_uint8] ∧ Brow ys o' c' (l ++ setB ms gs)) := by
  have hml := hI.ml
  have hal := allT_len ms gs
  refine i_orset_Set_Put.spec follows ?_
  refine VCall.mk [0, 1, 2] (s_All ms c gs c2 hI.m hI.km (by omega)) ⟨rfl, rfl, rfl⟩ ?_
  rintro _ _ ⟨ax, ao, ac, rfl, rfl, hA⟩
  refine VCall.mk [3] (s_pack_Num l xs te o cp hb (by omega) ((allT ms gs).length : Nat) (by omega)) ⟨rfl, rfl, rfl⟩ ?_
  rintro _ _ ⟨o1, c1, y1, rfl, rfl, b1⟩
  have hz0 := zB_len (v := ((allT ms gs).length : Nat)) (by omega)
  have b1' : Brow y1 o1 c1 (l ++ zB ((allT ms gs).length : Nat)) := b1
  refine VLoop.mk BX (fun y => [(0, .ptr 0 0), (1, .sl 5 y.o y.l.length y.c), (17, .sl 4 ao (allT ms gs).length ac), (18, iv (allT ms gs).length), (19, iv (y.u : Nat))])
    (fun y => SO2 ms c gs c2 ++ [.arr xs te, .arr ax T_string, .arr y.xs T_uint8]) (fun y => Brow y.xs y.o y.c y.l ∧ y.u ≤ (allT ms gs).length ∧ y.l = l ++ zB ((allT ms gs).length : Nat) ++ ((allT ms gs).take y.u).flatMap (oneB ms gs)) (fun y => (allT ms gs).length - y.u) ⟨y1, o1, c1, l ++ zB ((allT ms gs).length : Nat), 0⟩ [0, 1, 2, 3, 4, 5]
    ⟨⟨b1', Nat.zero_le _, by simp⟩, rfl, rfl, rfl⟩ ?_
  rintro ⟨y2, o2, c2', l2, i⟩ ⟨b2, hi, hl2⟩ g
  simp only at b2 hi hl2
  have hl2n : l2.length ≤ 1300010 := by rw [hl2, List.length_append, List.length_append]; have := hI.allB hN i; omega
  refine And.intro (fun t1 => ?_) (fun t1 => ?_)
  · have t1 : (i : Int) < ((allT ms gs).length : Nat) := of_decide_eq_true t1
    have hil : i < (allT ms gs).length := by omega
    have hwi : IntKind.i64.wrap ((i : Int) + 1) = ((i + 1 : Nat) : Int) := wrap64 (by omega)
    have hroom : ao + (allT ms gs).length * 1 ≤ ax.length := by have := hA.2.1; have := hA.1; omega
    have ci : ax[ao + (i : Int).toNat * 1]? = some (.string ⟨((allT ms gs)[i]).toArray⟩) := by
      have := hA.at (fun _ => rfl) hil (j := 0) (by decide)
      simpa [encStr] using this
    have hti := List.getElem_mem hil
    generalize hte : (allT ms gs)[i] = t at ci hti
    refine And.intro ⟨Int.natCast_nonneg i, t1, hroom⟩ (Exists.intro _ (And.intro ci ?_))
    refine VCall.mk [0, 1, 2] (s_Dots ms c gs c2 ⟨t.toArray⟩ hI.m hI.km (by omega)) ⟨rfl, rfl, rfl⟩ ?_
    rintro _ _ ⟨dx, dO, dc, rfl, rfl, hD⟩
    have htl := hI.txt hti
    have hsz : (⟨t.toArray⟩ : ByteArray).size ≤ 1000 := by simp [ByteArray.size]; omega
    have hdl := dotsT_len hI.km gs ⟨t.toArray⟩
    have htB : (textB ⟨t.toArray⟩).length ≤ 110 := by
      have e : (⟨t.toArray⟩ : ByteArray).size = t.length := by simp [ByteArray.size]
      have := numB_len10 (u := 2 * (⟨t.toArray⟩ : ByteArray).size) (by rw [e]; omega)
      rw [textB, List.length_append, strL_len, e]; rw [e] at this; omega
    have hDb : ∀ d, d ∈ dotsT ms gs ⟨t.toArray⟩ → isDot d.1 d.2 = true := fun d hd => hI.dots hd
    have hdB := hI.dotsB hN ⟨t.toArray⟩
    have hoB : oneB ms gs t = textB ⟨t.toArray⟩ ++ zB ((dotsT ms gs ⟨t.toArray⟩).length : Nat) ++ (dotsT ms gs ⟨t.toArray⟩).flatMap dotB := rfl
    generalize dotsT ms gs ⟨t.toArray⟩ = ds at hD hdl hDb hdB hoB
    refine VCall.mk [5] (s_pack_Text l2 ⟨t.toArray⟩ y2 T_uint8 o2 c2' b2 (by omega) hsz) ⟨rfl, rfl, rfl⟩ ?_
    rintro _ _ ⟨o3, c3, y3, rfl, rfl, b3⟩
    refine VCall.mk [7] (s_pack_Num (l2 ++ textB ⟨t.toArray⟩) y3 T_uint8 o3 c3 b3 (by rw [List.length_append]; omega) (ds.length : Nat) (by omega)) ⟨rfl, rfl, rfl⟩ ?_
    rintro _ _ ⟨o4, c4, y4, rfl, rfl, b4⟩
    have b4' : Brow y4 o4 c4 (l2 ++ textB ⟨t.toArray⟩ ++ zB (ds.length : Nat)) := b4
    have hz1 := zB_len (v := (ds.length : Nat)) (by omega)
    refine VLoop.mk BX (fun y => [(0, .ptr 0 0), (1, .sl 6 y.o y.l.length y.c), (17, .sl 4 ao (allT ms gs).length ac), (18, iv (allT ms gs).length), (19, iv (i : Nat)), (32, .sl 5 dO ds.length dc), (33, iv ds.length), (34, iv (y.u : Nat))])
      (fun y => SO2 ms c gs c2 ++ [.arr xs te, .arr ax T_string, .arr dx T_api_Dot, .arr y.xs T_uint8]) (fun y => Brow y.xs y.o y.c y.l ∧ y.u ≤ ds.length ∧ y.l = l2 ++ textB ⟨t.toArray⟩ ++ zB (ds.length : Nat) ++ (ds.take y.u).flatMap dotB) (fun y => ds.length - y.u) ⟨y4, o4, c4, l2 ++ textB ⟨t.toArray⟩ ++ zB (ds.length : Nat), 0⟩ [0, 1, 2, 3, 4, 6, 8]
      ⟨⟨b4', Nat.zero_le _, by simp⟩, rfl, rfl, rfl⟩ ?_
    rintro ⟨y5, o5, c5, l5, j⟩ ⟨b5, hj, hl5⟩ g2
    simp only at b5 hj hl5
    have hl5n : l5.length ≤ 1400000 := by rw [hl5, List.length_append, List.length_append, List.length_append]; have := hdB j; omega
    refine And.intro (fun t2 => ?_) (fun t2 => ?_)
    · have t2 : (j : Int) < (ds.length : Nat) := of_decide_eq_true t2
      have hjl : j < ds.length := by omega
      have hwj : IntKind.i64.wrap ((j : Int) + 1) = ((j + 1 : Nat) : Int) := wrap64 (by omega)
      have cj := hD.cut (fun _ => rfl) hjl
      have hroom2 : dO + ds.length * 2 ≤ dx.length := by have := hD.2.1; have := Nat.mul_le_mul_right 2 hD.1; omega
      have hbd := isDot_bd (hDb _ (List.getElem_mem hjl))
      refine And.intro ⟨Int.natCast_nonneg j, t2, hroom2⟩ (Exists.intro _ (And.intro (by rw [Int.toNat_natCast]; exact cj) ?_))
      refine VCall.mk [6] (s_pack_Num l5 y5 T_uint8 o5 c5 b5 (by omega) ds[j].1 (by omega)) ⟨rfl, rfl, rfl⟩ ?_
      rintro _ _ ⟨o6, c6, y6, rfl, rfl, b6⟩
      refine And.intro rfl ?_
      have hz6 := zB_len (v := ds[j].1) (by omega)
      have b6' : Brow y6 o6 c6 (l5 ++ zB ds[j].1) := b6
      refine VCall.mk [8] (s_pack_Num (l5 ++ zB ds[j].1) y6 T_uint8 o6 c6 b6' (by rw [List.length_append]; omega) ds[j].2 (by omega)) ⟨rfl, rfl, rfl⟩ ?_
      rintro _ _ ⟨o7, c7, y7, rfl, rfl, b7⟩
      have b7' : Brow y7 o7 c7 (l5 ++ zB ds[j].1 ++ zB ds[j].2) := b7
      refine Exists.intro _ (And.intro hwj ?_)
      refine Exists.intro ⟨y7, o7, c7, l5 ++ zB ds[j].1 ++ zB ds[j].2, j + 1⟩ (Exists.intro [0, 1, 2, 3, 4, 5, 9] (And.intro ⟨⟨b7', hjl, ?_⟩, by simp only; omega⟩ ⟨rfl, rfl, rfl⟩))
      simp only
      rw [flat_take hjl, hl5, dotB, List.append_assoc, List.append_assoc, List.append_assoc, List.append_assoc]
    · have hjl : j = ds.length := by have t2 := of_decide_eq_false t2; simp only at t2; omega
      subst hjl
      rw [List.take_length] at hl5
      refine Exists.intro _ (And.intro hwi ?_)
      refine Exists.intro ⟨y5, o5, c5, l5, i + 1⟩ (Exists.intro [0, 1, 2, 3, 4, 6] (And.intro ⟨⟨b5, hil, ?_⟩, by simp only; omega⟩ ⟨rfl, rfl, rfl⟩))
      simp only
      rw [flat_take hil, hl5, hte, hoB, hl2]
      simp only [List.append_assoc]
  · have hil : i = (allT ms gs).length := by have t1 := of_decide_eq_false t1; simp only at t1; omega
    subst hil
    rw [List.take_length] at hl2
    have e : l2 = l ++ setB ms gs := by rw [hl2, setB, List.append_assoc]
    subst e
    exact VRet.mk [0, 1, 2, 3, 5] (.sl 4 o2 (l ++ setB ms gs).length c2') (SO2 ms c gs c2 ++ [.arr xs te, .arr y2 T_uint8]) ⟨rfl, rfl, rfl⟩ ⟨o2, c2', y2, rfl, rfl, b2⟩
end Go.Proofs

namespace Go.Proofs
open Go Go.V Go.Lib
set_option maxRecDepth 100000
set_option linter.unusedVariables false

/-! ### A set is added to -/
def addE (ms : MS) (r n : Int) (x : ByteArray) : Int :=
  if isDot r n = false ∨ 100 < x.size then 1 else match MP.get ms (r, n) with
  | some y => if y = x then 0 else 5
  | none => 0
def addM (ms : MS) (c : Nat) (r n : Int) (x : ByteArray) : MS := if addE ms r n x = 0 then MP.put ms (r, n) x c else ms
def addC (ms : MS) (c : Nat) (r n : Int) (x : ByteArray) : Nat := if addE ms r n x = 0 then (if (MP.get ms (r, n)).isSome then c else c + 1) else c
theorem s_SAdd (ms : MS) (c : Nat) (gs : GM) (c2 : Nat) (r n : Int) (x : ByteArray) : Ctr Tryz.prog F_orset_Set_Add [.ptr 0 0, .agg (dcells r n), .raw (.string x)] (SO2 ms c gs c2) (fun v H => v = iv (addE ms r n x) ∧ H = SO2 (addM ms c r n x) (addC ms c r n x) gs c2) := by
  have no : addE ms r n x ≠ 0 → ∀ e, addE ms r n x = e → iv e = iv (addE ms r n x) ∧ SO2 ms c gs c2 = SO2 (addM ms c r n x) (addC ms c r n x) gs c2 := by
    rintro h e rfl
    exact ⟨rfl, by unfold addM addC; rw [if_neg h, if_neg h]⟩
  have yes : addE ms r n x = 0 → iv 0 = iv (addE ms r n x) ∧ SO2 (MP.put ms (r, n) x c) (if (MP.get ms (r, n)).isSome then c else c + 1) gs c2 = SO2 (addM ms c r n x) (addC ms c r n x) gs c2 := by
    intro h
    exact ⟨by rw [h], by unfold addM addC; rw [if_pos h, if_pos h]⟩
  refine i_orset_Set_Add.spec follows ?_
  refine VCall.mk [] (s_vec_Dot r n) ⟨rfl, rfl, rfl⟩ ?_
  rintro _ _ ⟨rfl, rfl⟩
  have bad : (isDot r n = false ∨ 100 < x.size) → addE ms r n x = 1 := fun h => by unfold addE; rw [if_pos h]
  refine And.intro (fun h1 => ?_) (fun h1 => ?_)
  · have h1 : isDot r n = true := by simpa using h1
    refine And.intro (fun h2 => ?_) (fun h2 => ?_)
    · have h2 : (100 : Int) < (x.size : Int) := of_decide_eq_true h2
      have h9 := bad (.inr (by omega))
      exact VRet.mk [0, 1, 2] (iv 1) (SO2 ms c gs c2) ⟨rfl, rfl, rfl⟩ (no (by rw [h9]; decide) 1 h9)
    · have h2 : ¬ (100 : Int) < (x.size : Int) := of_decide_eq_false h2
      have hne : ¬ (isDot r n = false ∨ 100 < x.size) := by rw [h1]; simp; omega
      refine Exists.intro (.raw (encT ((MP.get ms (r, n)).getD (ByteArray.mk #[])))) (Exists.intro _ (Exists.intro _ (And.intro (lookT ms (r, n)) (And.intro rfl ?_))))
      have upd := update_is (encv := encT) kT ms c (r, n) x
      refine And.intro (fun h3 => ?_) (fun h3 => ?_)
      · have h3 : (MP.get ms (r, n)).isSome = true := h3
        obtain ⟨y, hy⟩ := Option.isSome_iff_exists.1 h3
        refine And.intro (fun h4 => ?_) (fun h4 => ?_)
        · have h4 : (!(((MP.get ms (r, n)).getD (ByteArray.mk #[])).toList == x.toList)) = true := h4
          rw [hy, str_beq] at h4
          have h9 : addE ms r n x = 5 := by unfold addE; rw [if_neg hne, hy]; simp at h4; simp [h4]
          exact VRet.mk [0, 1, 2] (iv 5) (SO2 ms c gs c2) ⟨rfl, rfl, rfl⟩ (no (by rw [h9]; decide) 5 h9)
        · have h4 : (!(((MP.get ms (r, n)).getD (ByteArray.mk #[])).toList == x.toList)) = false := h4
          rw [hy, str_beq] at h4
          have h9 : addE ms r n x = 0 := by unfold addE; rw [if_neg hne, hy]; simp at h4; simp [h4]
          refine Exists.intro _ (Exists.intro _ (And.intro upd ?_))
          exact VRet.mk [0, 1, 2] (iv 0) (SO2 (MP.put ms (r, n) x c) (if (MP.get ms (r, n)).isSome then c else c + 1) gs c2) ⟨rfl, rfl, rfl⟩ (yes h9)
      · have h3 : (MP.get ms (r, n)).isSome = false := h3
        have hy : MP.get ms (r, n) = none := by simpa using h3
        have h9 : addE ms r n x = 0 := by unfold addE; rw [if_neg hne, hy]
        refine Exists.intro _ (Exists.intro _ (And.intro upd ?_))
        exact VRet.mk [0, 1, 2] (iv 0) (SO2 (MP.put ms (r, n) x c) (if (MP.get ms (r, n)).isSome then c else c + 1) gs c2) ⟨rfl, rfl, rfl⟩ (yes h9)
  · have h1 : isDot r n = false := by simpa using h1
    have h9 := bad (.inl h1)
    exact VRet.mk [0, 1, 2] (iv 1) (SO2 ms c gs c2) ⟨rfl, rfl, rfl⟩ (no (by rw [h9]; decide) 1 h9)
/-! ### Numbers -/
abbrev TO (u d : Nat → Int) : List SO := [.cells (vcells u ++ vcells d) T_tally_Tally]
theorem tget0 (u d : Nat → Int) {n : Int} (h : 0 ≤ n ∧ n < 7) : (vcells u ++ vcells d)[0 + n.toNat * 1]? = some (iv (u n.toNat)) := vcells_get' u h _
theorem tget7 (u d : Nat → Int) {n : Int} (h : 0 ≤ n ∧ n < 7) : (vcells u ++ vcells d)[7 + n.toNat * 1]? = some (iv (d n.toNat)) := by
  have h7 : n.toNat < 7 := by omega
  generalize n.toNat = i at *
  match i, h7 with | 0, _ | 1, _ | 2, _ | 3, _ | 4, _ | 5, _ | 6, _ => rfl
theorem tput0 (u d : Nat → Int) (x : Int) {n : Int} (h : 0 ≤ n ∧ n < 7) : paste (vcells u ++ vcells d) (0 + n.toNat * 1) [iv x] = some (vcells (upv u n.toNat x) ++ vcells d) := vcells_put u x h _
theorem tput7 (u d : Nat → Int) (x : Int) {n : Int} (h : 0 ≤ n ∧ n < 7) : paste (vcells u ++ vcells d) (7 + n.toNat * 1) [iv x] = some (vcells u ++ vcells (upv d n.toNat x)) := by
  have h7 : n.toNat < 7 := by omega
  generalize n.toNat = i at *
  match i, h7 with | 0, _ | 1, _ | 2, _ | 3, _ | 4, _ | 5, _ | 6, _ => simp [paste, upv]
structure TI (u d : Nat → Int) : Prop where
  u : ∀ r, r < 7 → 0 ≤ u r ∧ u r ≤ 1125899906842624
  d : ∀ r, r < 7 → 0 ≤ d r ∧ d r ≤ 1125899906842624
def tadE (u d : Nat → Int) (r by' : Int) : Int :=
  if isRep r = false ∨ by' < -1099511627776 ∨ 1099511627776 < by' then 1
  else if by' < 0 then (if 1125899906842624 - d r.toNat < -by' then 2 else 0)
  else (if 1125899906842624 - u r.toNat < by' then 2 else 0)
def tadU (u d : Nat → Int) (r by' : Int) : Nat → Int := if tadE u d r by' = 0 ∧ ¬ by' < 0 then upv u r.toNat (u r.toNat + by') else u
def tadD (u d : Nat → Int) (r by' : Int) : Nat → Int := if tadE u d r by' = 0 ∧ by' < 0 then upv d r.toNat (d r.toNat + -by') else d
theorem s_TAdd (u d : Nat → Int) (hT : TI u d) (r by' : Int) : Ctr Tryz.prog F_tally_Tally_Add [.ptr 0 0, iv r, iv by'] (TO u d) (fun v H => v = iv (tadE u d r by') ∧ H = TO (tadU u d r by') (tadD u d r by')) := by
  have no : tadE u d r by' ≠ 0 → ∀ e, tadE u d r by' = e → iv e = iv (tadE u d r by') ∧ TO u d = TO (tadU u d r by') (tadD u d r by') := by
    rintro h e rfl
    exact ⟨rfl, by unfold tadU tadD; rw [if_neg (fun k => h k.1), if_neg (fun k => h k.1)]⟩
  have bad : (isRep r = false ∨ by' < -1099511627776 ∨ 1099511627776 < by') → tadE u d r by' = 1 := fun h => by unfold tadE; rw [if_pos h]
  refine i_tally_Tally_Add.spec follows ?_
  refine VCall.mk [] (s_vec_Rep r) ⟨rfl, rfl, rfl⟩ ?_
  rintro _ _ ⟨rfl, rfl⟩
  refine And.intro (fun h1 => ?_) (fun h1 => ?_)
  rotate_left 1
  · have h9 := bad (.inl (by simpa using h1))
    exact VRet.mk [0] (iv 1) (TO u d) ⟨rfl, rfl, rfl⟩ (no (by rw [h9]; decide) 1 h9)
  have h1 : isRep r = true := by simpa using h1
  have hr := isRep_iff.1 h1
  refine And.intro (fun h2 => ?_) (fun h2 => ?_)
  rotate_left 1
  · have h9 := bad (.inr (.inl (of_decide_eq_true h2)))
    exact VRet.mk [0] (iv 1) (TO u d) ⟨rfl, rfl, rfl⟩ (no (by rw [h9]; decide) 1 h9)
  have h2 : ¬ by' < -1099511627776 := of_decide_eq_false h2
  refine And.intro (fun h3 => ?_) (fun h3 => ?_)
  · have h9 := bad (.inr (.inr (of_decide_eq_true h3)))
    exact VRet.mk [0] (iv 1) (TO u d) ⟨rfl, rfl, rfl⟩ (no (by rw [h9]; decide) 1 h9)
  have h3 : ¬ 1099511627776 < by' := of_decide_eq_false h3
  have hE : tadE u d r by' = if by' < 0 then (if 1125899906842624 - d r.toNat < -by' then 2 else 0) else (if 1125899906842624 - u r.toNat < by' then 2 else 0) := by
    unfold tadE; rw [if_neg (by rw [h1]; simp; omega)]
  have hu := hT.u r.toNat (by omega)
  have hd := hT.d r.toNat (by omega)
  refine And.intro (fun h4 => ?_) (fun h4 => ?_)
  · have h4 : by' < 0 := of_decide_eq_true h4
    rw [if_pos h4] at hE
    refine Exists.intro (-by') (And.intro (show IntKind.i64.wrap (0 - by') = -by' from by rw [Int.zero_sub]; exact wrap64 (by omega)) ?_)
    refine And.intro hr (Exists.intro _ (And.intro (tget7 u d hr) ?_))
    refine Exists.intro (1125899906842624 - d r.toNat) (And.intro (wrap64 (by omega)) ?_)
    refine And.intro (fun h5 => ?_) (fun h5 => ?_)
    · have h5 : 1125899906842624 - d r.toNat < -by' := of_decide_eq_true h5
      rw [if_pos h5] at hE
      exact VRet.mk [0] (iv 2) (TO u d) ⟨rfl, rfl, rfl⟩ (no (by rw [hE]; decide) 2 hE)
    have h5 : ¬ 1125899906842624 - d r.toNat < -by' := of_decide_eq_false h5
    rw [if_neg h5] at hE
    refine And.intro hr (Exists.intro _ (And.intro (tget7 u d hr) ?_))
    refine Exists.intro (d r.toNat + -by') (And.intro (wrap64 (by omega)) ?_)
    refine And.intro hr ?_
    refine Exists.intro _ (And.intro (tput7 u d (d r.toNat + -by') hr) ?_)
    exact VRet.mk [0] (iv 0) (TO u (upv d r.toNat (d r.toNat + -by'))) ⟨rfl, rfl, rfl⟩ ⟨by rw [hE], by unfold tadU tadD; rw [if_neg (fun k => k.2 h4), if_pos ⟨hE, h4⟩]⟩
  · have h4 : ¬ by' < 0 := of_decide_eq_false h4
    rw [if_neg h4] at hE
    refine And.intro hr (Exists.intro _ (And.intro (tget0 u d hr) ?_))
    refine Exists.intro (1125899906842624 - u r.toNat) (And.intro (wrap64 (by omega)) ?_)
    refine And.intro (fun h5 => ?_) (fun h5 => ?_)
    · have h5 : 1125899906842624 - u r.toNat < by' := of_decide_eq_true h5
      rw [if_pos h5] at hE
      exact VRet.mk [0] (iv 2) (TO u d) ⟨rfl, rfl, rfl⟩ (no (by rw [hE]; decide) 2 hE)
    have h5 : ¬ 1125899906842624 - u r.toNat < by' := of_decide_eq_false h5
    rw [if_neg h5] at hE
    refine And.intro hr (Exists.intro _ (And.intro (tget0 u d hr) ?_))
    refine Exists.intro (u r.toNat + by') (And.intro (wrap64 (by omega)) ?_)
    refine And.intro hr ?_
    refine Exists.intro _ (And.intro (tput0 u d (u r.toNat + by') hr) ?_)
    exact VRet.mk [0] (iv 0) (TO (upv u r.toNat (u r.toNat + by')) d) ⟨rfl, rfl, rfl⟩ ⟨by rw [hE], by unfold tadU tadD; rw [if_pos ⟨hE, h4⟩, if_neg (fun k => h4 k.2)]⟩
theorem TI.add {u d : Nat → Int} (h : TI u d) (r by' : Int) : TI (tadU u d r by') (tadD u d r by') := by
  by_cases he : tadE u d r by' = 0
  · have h0 := he
    unfold tadE at h0
    split at h0
    · cases h0
    rename_i hn
    simp only [not_or] at hn
    have hr := isRep_iff.1 (by simpa using hn.1)
    by_cases h4 : by' < 0
    · rw [if_pos h4] at h0
      split at h0
      · cases h0
      rename_i h5
      have hd := h.d r.toNat (by omega)
      refine ⟨fun i hi => ?_, fun i hi => ?_⟩
      · unfold tadU; rw [if_neg (fun k => k.2 h4)]; exact h.u i hi
      · unfold tadD; rw [if_pos ⟨he, h4⟩]; unfold upv
        split
        · omega
        · exact h.d i hi
    · rw [if_neg h4] at h0
      split at h0
      · cases h0
      rename_i h5
      have hd := h.u r.toNat (by omega)
      refine ⟨fun i hi => ?_, fun i hi => ?_⟩
      · unfold tadU; rw [if_pos ⟨he, h4⟩]; unfold upv
        split
        · omega
        · exact h.u i hi
      · unfold tadD; rw [if_neg (fun k => h4 k.2)]; exact h.d i hi
  · unfold tadU tadD; rw [if_neg (fun k => he k.1), if_neg (fun k => he k.1)]; exact h
theorem TI.zero : TI vz vz := ⟨fun _ _ => ⟨Int.le_refl _, by show (0 : Int) ≤ _; decide⟩, fun _ _ => ⟨Int.le_refl _, by show (0 : Int) ≤ _; decide⟩⟩
/-- The number. -/
def sumT (u d : Nat → Int) : Nat → Int
  | 0 => 0
  | i + 1 => sumT u d i + (u i - d i)
theorem sumT_bd {u d : Nat → Int} (h : TI u d) : ∀ i : Nat, i ≤ 7 → -(1125899906842624 * (i : Int)) ≤ sumT u d i ∧ sumT u d i ≤ 1125899906842624 * (i : Int)
  | 0, _ => by simp [sumT]
  | i + 1, hi => by
    have := sumT_bd h i (by omega)
    have h1 := h.u i (by omega)
    have h2 := h.d i (by omega)
    rw [sumT]
    omega
theorem s_TValue (u d : Nat → Int) (hT : TI u d) : Ctr Tryz.prog F_tally_Tally_Value [.ptr 0 0] (TO u d) (fun x H => x = iv (sumT u d 7) ∧ H = TO u d) := by
  refine i_tally_Tally_Value.spec follows ?_
  refine VLoop.mk Nat (fun i => [(0, .ptr 0 0), (3, iv (sumT u d i)), (5, iv i)]) (fun _ => TO u d) (fun i => i ≤ 7) (fun i => 7 - i) 0 [0] ⟨Nat.zero_le _, rfl, rfl, rfl⟩ ?_
  rintro i hi g
  refine And.intro (fun h => ?_) (fun h => ?_)
  · have h := of_decide_eq_true h
    have hi7 : 0 ≤ (i : Int) ∧ (i : Int) < 7 := ⟨Int.natCast_nonneg i, h⟩
    have hwb : -9223372036854775808 ≤ (i : Int) + 1 ∧ (i : Int) + 1 ≤ 9223372036854775807 := by omega
    have hs := sumT_bd hT i (by omega)
    have h1 := hT.u i (by omega)
    have h2 := hT.d i (by omega)
    refine And.intro hi7 (Exists.intro _ (And.intro (tget0 u d hi7) ?_))
    refine And.intro hi7 (Exists.intro _ (And.intro (tget7 u d hi7) ?_))
    refine Exists.intro (u i - d i) (And.intro (by rw [Int.toNat_natCast]; exact wrap64 (by omega)) ?_)
    refine Exists.intro (sumT u d (i + 1)) (And.intro (wrap64 (n := sumT u d i + (u i - d i)) (by omega)) ?_)
    refine Exists.intro ((i + 1 : Nat) : Int) (And.intro (wrap64 hwb) ?_)
    exact Exists.intro (i + 1) (Exists.intro [0] (And.intro ⟨by omega, by omega⟩ ⟨rfl, rfl, rfl⟩))
  · have h7 : i = 7 := by have h := of_decide_eq_false h; omega
    subst h7
    exact VRet.mk [0] (iv (sumT u d 7)) (TO u d) ⟨rfl, rfl, rfl⟩ ⟨rfl, rfl⟩
def talB (u d : Nat → Int) : List Int := vecB u 7 ++ vecB d 7
theorem talB_len {u d : Nat → Int} (h : TI u d) : (talB u d).length ≤ 140 := by
  have h1 := vecB_len (v := u) (fun r hr => by have := h.u r hr; omega) 7 (Nat.le_refl _)
  have h2 := vecB_len (v := d) (fun r hr => by have := h.d r hr; omega) 7 (Nat.le_refl _)
  rw [talB, List.length_append]; omega
theorem s_TPut (u d : Nat → Int) (hT : TI u d) (l : List Int) (xs : List Value) (te : TypeId) (o cp : Nat) (hb : Brow xs o cp l) (hl : l.length ≤ 1000000) :
    Ctr Tryz.prog F_tally_Tally_Put [.ptr 0 0, .sl 1 o l.length cp] (TO u d ++ [.arr xs te]) (fun v H => ∃ o' c' ys, v = .sl 2 o' (l ++ talB u d).length c' ∧ H = TO u d ++ [.arr xs te, .arr ys T_uint8] ∧ Brow ys o' c' (l ++ talB u d)) := by
  have hu : ∀ r, r < 7 → 0 ≤ u r ∧ u r ≤ 2305843009213693951 := fun r hr => by have := hT.u r hr; omega
  have hd : ∀ r, r < 7 → 0 ≤ d r ∧ d r ≤ 2305843009213693951 := fun r hr => by have := hT.d r hr; omega
  have hv := vecB_len (v := u) hu 7 (Nat.le_refl _)
  refine i_tally_Tally_Put.spec follows ?_
  refine VCall.mk [1] (s_vec_Put l xs te o cp hb (by omega) u hu) ⟨rfl, rfl, rfl⟩ ?_
  rintro _ _ ⟨o1, c1, y1, rfl, rfl, b1⟩
  refine And.intro rfl (And.intro rfl ?_)
  refine VCall.mk [2] (s_vec_Put (l ++ vecB u 7) y1 T_uint8 o1 c1 b1 (by rw [List.length_append]; omega) d hd) ⟨rfl, rfl, rfl⟩ ?_
  rintro _ _ ⟨o2, c2, y2, rfl, rfl, b2⟩
  rw [List.append_assoc] at b2 ⊢
  exact VRet.mk [0, 1, 3] (.sl 2 o2 (l ++ talB u d).length c2) (TO u d ++ [.arr xs te, .arr y2 T_uint8]) ⟨rfl, rfl, rfl⟩ ⟨o2, c2, y2, rfl, rfl, b2⟩
end Go.Proofs

namespace Go.Proofs
open Go Go.V Go.Lib
set_option maxRecDepth 100000
set_option linter.unusedVariables false

/-! ### A set is taken from -/
def vmax (v w : Nat → Int) : Nat → Int := fun r => if w r > v r then w r else v r
theorem s_vec_Merge (v w : Nat → Int) : Ctr Tryz.prog F_vec_Merge [.agg (vcells v), .agg (vcells w)] [] (fun x H => x = .agg (vcells (vmax v w)) ∧ H = []) := by
  refine i_vec_Merge.spec follows ?_
  refine VLoop.mk (Nat × (Nat → Int)) (fun x => [(2, .ptr 0 0), (3, .ptr 1 0), (4, .ptr 2 0), (6, iv x.1)]) (fun x => [.cells (vcells x.2) T_vec_Vec, .cells (vcells w) T_vec_Vec, .cells (vcells fun _ => 0) T_vec_Vec])
    (fun x => x.1 ≤ 7 ∧ ∀ j, j < 7 → x.2 j = if j < x.1 then vmax v w j else v j) (fun x => 7 - x.1) (0, v) [0, 1, 2] ⟨⟨Nat.zero_le _, fun j _ => by rw [if_neg (by omega)]⟩, rfl, rfl, rfl⟩ ?_
  rintro ⟨i, y⟩ ⟨hi, hy⟩ g
  simp only at hi hy
  refine And.intro (fun h => ?_) (fun h => ?_)
  · have h := of_decide_eq_true h
    simp only at h
    have hi7 : 0 ≤ (i : Int) ∧ (i : Int) < 7 := ⟨by omega, h⟩
    have hw : IntKind.i64.wrap ((i : Int) + 1) = ((i + 1 : Nat) : Int) := wrap64 (by omega)
    refine And.intro hi7 (Exists.intro _ (And.intro (vcells_get' y hi7 []) ?_))
    refine And.intro hi7 (Exists.intro _ (And.intro (vcells_get' w hi7 []) ?_))
    refine And.intro hi7 ?_
    refine Exists.intro _ (And.intro (vcells_put y (if w (i : Int).toNat > y (i : Int).toNat then w (i : Int).toNat else y (i : Int).toNat) hi7 []) ?_)
    refine Exists.intro _ (And.intro hw ?_)
    refine Exists.intro (i + 1, upv y (i : Int).toNat (if w (i : Int).toNat > y (i : Int).toNat then w (i : Int).toNat else y (i : Int).toNat)) (Exists.intro [0, 1, 2] (And.intro ⟨⟨by simp only; omega, fun j hj => ?_⟩, by simp only; omega⟩ ⟨rfl, rfl, rfl⟩))
    simp only [upv, Int.toNat_natCast]
    have h1 := hy i (by omega)
    rw [if_neg (by omega)] at h1
    by_cases e : j = i
    · subst e
      rw [show (if j < j + 1 then vmax v w j else v j) = vmax v w j from if_pos (by omega), if_pos rfl, h1]; rfl
    · rw [if_neg e, hy j hj]
      by_cases h2 : j < i
      · rw [if_pos h2, if_pos (by omega)]
      · rw [if_neg h2, if_neg (by omega)]
  · have h := of_decide_eq_false h
    simp only at h
    have h7 : i = 7 := by omega
    subst h7
    have e : vcells y = vcells (vmax v w) := by
      have hj : ∀ j, j < 7 → y j = vmax v w j := fun j hj => by have := hy j hj; rw [if_pos hj] at this; exact this
      rw [vcells, vcells, hj 0 (by omega), hj 1 (by omega), hj 2 (by omega), hj 3 (by omega), hj 4 (by omega), hj 5 (by omega), hj 6 (by omega)]
    exact VRet.mk [] (.agg (vcells y)) [] ⟨rfl, rfl, rfl⟩ ⟨by rw [e], rfl⟩
def leB (v w : Nat → Int) : Bool := (List.range 7).all fun i => decide (v i ≤ w i)
theorem leB_iff {v w : Nat → Int} : leB v w = true ↔ ∀ i, i < 7 → v i ≤ w i := by simp [leB]
theorem s_vec_Le (v w : Nat → Int) : Ctr Tryz.prog F_vec_Le [.agg (vcells v), .agg (vcells w)] [] (fun x H => x = bv (leB v w) ∧ H = []) := by
  refine i_vec_Le.spec follows ?_
  refine VLoop.mk Nat (fun i => [(2, .ptr 0 0), (3, .ptr 1 0), (6, iv i)]) (fun i => [.cells (vcells v) T_vec_Vec, .cells (vcells w) T_vec_Vec]) (fun i => i ≤ 7 ∧ ∀ j, j < i → v j ≤ w j) (fun i => 7 - i) 0 [0, 1]
    ⟨⟨by omega, fun j hj => by omega⟩, rfl, rfl, rfl⟩ ?_
  rintro i ⟨hi, hd⟩ g
  refine And.intro (fun h => ?_) (fun h => ?_)
  · have h := of_decide_eq_true h
    have hi7 : 0 ≤ (i : Int) ∧ (i : Int) < 7 := ⟨by omega, h⟩
    have hw : IntKind.i64.wrap ((i : Int) + 1) = ((i + 1 : Nat) : Int) := wrap64 (by omega)
    refine And.intro hi7 (Exists.intro _ (And.intro (vcells_get' v hi7 []) ?_))
    refine And.intro hi7 (Exists.intro _ (And.intro (vcells_get' w hi7 []) ?_))
    refine And.intro (fun h2 => ?_) (fun h2 => ?_)
    · have h2 := of_decide_eq_true h2
      refine VRet.mk [] (bv false) [] ⟨rfl, rfl, rfl⟩ ⟨?_, rfl⟩
      have : leB v w = false := by
        rw [Bool.eq_false_iff, Ne, leB_iff]
        intro hh
        have := hh i (by omega)
        rw [Int.toNat_natCast] at h2
        omega
      rw [this]
    · have h2 := of_decide_eq_false h2
      refine Exists.intro _ (And.intro hw ?_)
      refine Exists.intro (i + 1) (Exists.intro [0, 1] (And.intro ⟨⟨by omega, fun j hj => ?_⟩, by omega⟩ ⟨rfl, rfl, rfl⟩))
      rw [Int.toNat_natCast] at h2
      by_cases e : j = i
      · subst e; omega
      · exact hd j (by omega)
  · have h := of_decide_eq_false h
    have h7 : i = 7 := by omega
    subst h7
    refine VRet.mk [] (bv true) [] ⟨rfl, rfl, rfl⟩ ⟨?_, rfl⟩
    rw [leB_iff.2 hd]
def vgoodB (v : Nat → Int) : Bool := (List.range 7).all fun i => decide (0 ≤ v i) && decide (v i ≤ 1099511627776)
theorem vgoodB_iff {v : Nat → Int} : vgoodB v = true ↔ ∀ i, i < 7 → 0 ≤ v i ∧ v i ≤ 1099511627776 := by simp [vgoodB]
theorem vcells_getA (v : Nat → Int) {n : Int} (h : 0 ≤ n ∧ n < 7) : (vcells v)[n.toNat * 1]? = some (iv (v n.toNat)) := by
  have := vcells_get' v h []
  simpa using this
theorem s_vec_Good (v : Nat → Int) : Ctr Tryz.prog F_vec_Good [.agg (vcells v)] [] (fun x H => x = bv (vgoodB v) ∧ H = []) := by
  refine i_vec_Good.spec follows ?_
  refine VLoop.mk Nat (fun i => [(5, .agg (vcells v)), (6, iv i)]) (fun i => []) (fun i => i ≤ 7 ∧ ∀ j, j < i → 0 ≤ v j ∧ v j ≤ 1099511627776) (fun i => 7 - i) 0 []
    ⟨⟨by omega, fun j hj => by omega⟩, rfl, rfl, rfl⟩ ?_
  rintro i ⟨hi, hd⟩ g
  have bad : ∀ k, k < 7 → ¬ (0 ≤ v k ∧ v k ≤ 1099511627776) → vgoodB v = false := by
    intro k hk hn
    rw [Bool.eq_false_iff, Ne, vgoodB_iff]
    exact fun hh => hn (hh k hk)
  refine And.intro (fun h => ?_) (fun h => ?_)
  · have h := of_decide_eq_true h
    have hi7 : 0 ≤ (i : Int) ∧ (i : Int) < 7 := ⟨by omega, h⟩
    have hw : IntKind.i64.wrap ((i : Int) + 1) = ((i + 1 : Nat) : Int) := wrap64 (by omega)
    refine And.intro hi7 (Exists.intro _ (And.intro (vcells_getA v hi7) ?_))
    refine And.intro (fun h1 => ?_) (fun h1 => ?_)
    · have h1 := of_decide_eq_false h1
      refine And.intro (fun h2 => ?_) (fun h2 => ?_)
      · have h2 := of_decide_eq_true h2
        refine VRet.mk [] (bv false) [] ⟨rfl, rfl, rfl⟩ ⟨?_, rfl⟩
        rw [Int.toNat_natCast] at h2
        rw [bad i (by omega) (by omega)]
      · have h2 := of_decide_eq_false h2
        refine Exists.intro _ (And.intro hw ?_)
        refine Exists.intro (i + 1) (Exists.intro [] (And.intro ⟨⟨by omega, fun j hj => ?_⟩, by omega⟩ ⟨rfl, rfl, rfl⟩))
        by_cases hji : j = i
        · subst hji; rw [Int.toNat_natCast] at h1 h2; omega
        · exact hd j (by omega)
    · have h1 := of_decide_eq_true h1
      refine VRet.mk [] (bv false) [] ⟨rfl, rfl, rfl⟩ ⟨?_, rfl⟩
      rw [Int.toNat_natCast] at h1
      rw [bad i (by omega) (by omega)]
  · have h := of_decide_eq_false h
    have h7 : i = 7 := by omega
    subst h7
    refine VRet.mk [] (bv true) [] ⟨rfl, rfl, rfl⟩ ⟨?_, rfl⟩
    rw [vgoodB_iff.2 hd]
def remE (x : ByteArray) (v : Nat → Int) : Int := if 100 < x.size ∨ vgoodB v = false then 1 else 0
def remG (gs : GM) (c2 : Nat) (x : ByteArray) (v : Nat → Int) : GM := if remE x v = 0 then MP.put gs x (vmax (goneAt gs x) v) c2 else gs
def remC (gs : GM) (c2 : Nat) (x : ByteArray) (v : Nat → Int) : Nat := if remE x v = 0 then (if (MP.get gs x).isSome then c2 else c2 + 1) else c2
theorem s_SRemove (ms : MS) (c : Nat) (gs : GM) (c2 : Nat) (x : ByteArray) (v : Nat → Int) : Ctr Tryz.prog F_orset_Set_Remove [.ptr 0 0, .raw (.string x), .agg (vcells v)] (SO2 ms c gs c2) (fun r H => r = iv (remE x v) ∧ H = SO2 ms c (remG gs c2 x v) (remC gs c2 x v)) := by
  have no : (100 < x.size ∨ vgoodB v = false) → iv 1 = iv (remE x v) ∧ SO2 ms c gs c2 = SO2 ms c (remG gs c2 x v) (remC gs c2 x v) := by
    intro h
    have h9 : remE x v = 1 := by unfold remE; rw [if_pos h]
    unfold remG remC
    rw [if_neg (by rw [h9]; decide), if_neg (by rw [h9]; decide), h9]; exact ⟨rfl, rfl⟩
  refine i_orset_Set_Remove.spec follows ?_
  refine And.intro (fun h1 => ?_) (fun h1 => ?_)
  · have h1 : ¬ (100 : Int) < (x.size : Int) := of_decide_eq_false h1
    refine VCall.mk [] (s_vec_Good v) ⟨rfl, rfl, rfl⟩ ?_
    rintro _ _ ⟨rfl, rfl⟩
    refine And.intro (fun h2 => ?_) (fun h2 => ?_)
    · have h2 : vgoodB v = false := by simpa using h2
      exact VRet.mk [0, 1, 2] (iv 1) (SO2 ms c gs c2) ⟨rfl, rfl, rfl⟩ (no (.inr h2))
    · have h2 : vgoodB v = true := by simpa using h2
      refine Exists.intro (.agg (vcells (goneAt gs x))) (Exists.intro _ (Exists.intro _ (And.intro (lookG gs x) (And.intro rfl ?_))))
      refine VCall.mk [] (s_vec_Merge _ v) ⟨rfl, rfl, rfl⟩ ?_
      rintro _ _ ⟨rfl, rfl⟩
      refine And.intro rfl (And.intro rfl ?_)
      refine Exists.intro _ (Exists.intro _ (And.intro (update_is (encv := encV) kG gs c2 x (vmax (goneAt gs x) v)) ?_))
      have h9 : remE x v = 0 := by unfold remE; rw [if_neg (by rw [h2]; simp; omega)]
      refine VRet.mk [0, 1, 2] (iv 0) (SO2 ms c (MP.put gs x (vmax (goneAt gs x) v) c2) (if (MP.get gs x).isSome then c2 else c2 + 1)) ⟨rfl, rfl, rfl⟩ ⟨by rw [h9], ?_⟩
      unfold remG remC; rw [if_pos h9, if_pos h9]
  · have h1 : (100 : Int) < (x.size : Int) := of_decide_eq_true h1
    exact VRet.mk [0, 1, 2] (iv 1) (SO2 ms c gs c2) ⟨rfl, rfl, rfl⟩ (no (.inl (by omega)))
theorem mok_add {ms : MS} {c : Nat} (hm : MOK ms c) (r n : Int) (x : ByteArray) : MOK (addM ms c r n x) (addC ms c r n x) := by
  unfold addM addC
  by_cases h : addE ms r n x = 0
  · rw [if_pos h, if_pos h]; exact hm.put _ _
  · rw [if_neg h, if_neg h]; exact hm
theorem SI.add {ms : MS} {c : Nat} {gs : GM} {c2 N : Nat} (h : SI ms c gs c2 N) (r n : Int) (x : ByteArray) : SI (addM ms c r n x) (addC ms c r n x) gs c2 (N + 1) := by
  by_cases h0 : addE ms r n x = 0
  · have hok : isDot r n = true ∧ x.size ≤ 100 := by
      unfold addE at h0
      split at h0
      · cases h0
      · rename_i hn
        simp only [not_or] at hn
        exact ⟨by simpa using hn.1, by omega⟩
    refine ⟨mok_add h.m r n x, ?_, ?_, ?_, h.g, h.gk, Nat.le_succ_of_le h.gl⟩
    · unfold addM; rw [if_pos h0]; exact nodup_put h.km _ _ _
    · unfold addM; rw [if_pos h0, len_put]; have := h.ml; split <;> omega
    · unfold addM; rw [if_pos h0]
      intro e he
      rcases mem_put he with h1 | ⟨h1, h2⟩
      · exact h.me e h1
      · rw [h1, h2]; exact hok
  · refine ⟨mok_add h.m r n x, ?_, ?_, ?_, h.g, h.gk, Nat.le_succ_of_le h.gl⟩
    · unfold addM; rw [if_neg h0]; exact h.km
    · unfold addM; rw [if_neg h0]; exact Nat.le_succ_of_le h.ml
    · unfold addM; rw [if_neg h0]; exact h.me
theorem SI.rem {ms : MS} {c : Nat} {gs : GM} {c2 N : Nat} (h : SI ms c gs c2 N) (x : ByteArray) (v : Nat → Int) : SI ms c (remG gs c2 x v) (remC gs c2 x v) (N + 1) := by
  by_cases h0 : remE x v = 0
  · refine ⟨h.m, h.km, Nat.le_succ_of_le h.ml, h.me, ?_, ?_, ?_⟩
    · unfold remG remC; rw [if_pos h0, if_pos h0]; exact h.g.put _ _
    · unfold remG; rw [if_pos h0]; exact nodup_put h.gk _ _ _
    · unfold remG; rw [if_pos h0, len_put]; have := h.gl; split <;> omega
  · refine ⟨h.m, h.km, Nat.le_succ_of_le h.ml, h.me, ?_, ?_, ?_⟩
    · unfold remG remC; rw [if_neg h0, if_neg h0]; exact h.g
    · unfold remG; rw [if_neg h0]; exact h.gk
    · unfold remG; rw [if_neg h0]; exact Nat.le_succ_of_le h.gl
/-! ### The last text -/
structure LV where
  b : Bool
  x : ByteArray
  t : Int
  r : Int
  n : Int
abbrev LO (s : LV) : List SO := [.cells [.raw (.bool s.b), .raw (.string s.x), iv s.t, iv s.r, iv s.n] T_last_Last]
def ordL (s : LV) (t r n : Int) : Int := orI [cmpI t s.t, cmpD (r, n) (s.r, s.n)]
def badL (x : ByteArray) (t r n : Int) : Prop := 100 < x.size ∨ t < 0 ∨ 1099511627776 < t ∨ isDot r n = false
instance (x : ByteArray) (t r n : Int) : Decidable (badL x t r n) := by unfold badL; exact inferInstance
/-- What is answered; the text that stays. -/
def wrL (s : LV) (x : ByteArray) (t r n : Int) : (Bool × Int) × LV :=
  if badL x t r n then ((false, 1), s)
  else if s.b = true ∧ ordL s t r n < 0 then ((false, 0), s)
  else if s.b = true ∧ ordL s t r n = 0 then ((if x = s.x then (false, 0) else (false, 5)), s)
  else ((true, 0), ⟨true, x, t, r, n⟩)
theorem s_LWrite (s : LV) (x : ByteArray) (t r n : Int) : Ctr Tryz.prog F_last_Last_Write [.ptr 0 0, .raw (.string x), iv t, .agg (dcells r n)] (LO s) (fun v H => v = .tup [bv (wrL s x t r n).1.1, iv (wrL s x t r n).1.2] ∧ H = LO (wrL s x t r n).2) := by
  have no : badL x t r n → SV.tup [bv false, iv 1] = .tup [bv (wrL s x t r n).1.1, iv (wrL s x t r n).1.2] ∧ LO s = LO (wrL s x t r n).2 := by
    intro h; unfold wrL; rw [if_pos h]; exact ⟨rfl, rfl⟩
  refine i_last_Last_Write.spec follows ?_
  refine And.intro (fun h1 => ?_) (fun h1 => ?_)
  rotate_left 1
  · have h1 : (100 : Int) < (x.size : Int) := of_decide_eq_true h1
    exact VRet.mk [0] (.tup [bv false, iv 1]) (LO s) ⟨rfl, rfl, rfl⟩ (no (.inl (by omega)))
  have h1 : ¬ (100 : Int) < (x.size : Int) := of_decide_eq_false h1
  refine And.intro (fun h2 => ?_) (fun h2 => ?_)
  rotate_left 1
  · exact VRet.mk [0] (.tup [bv false, iv 1]) (LO s) ⟨rfl, rfl, rfl⟩ (no (.inr (.inl (of_decide_eq_true h2))))
  have h2 : ¬ t < 0 := of_decide_eq_false h2
  refine And.intro (fun h3 => ?_) (fun h3 => ?_)
  rotate_left 1
  · exact VRet.mk [0] (.tup [bv false, iv 1]) (LO s) ⟨rfl, rfl, rfl⟩ (no (.inr (.inr (.inl (of_decide_eq_true h3)))))
  have h3 : ¬ 1099511627776 < t := of_decide_eq_false h3
  refine VCall.mk [] (s_vec_Dot r n) ⟨rfl, rfl, rfl⟩ ?_
  rintro _ _ ⟨rfl, rfl⟩
  refine And.intro (fun h4 => ?_) (fun h4 => ?_)
  · exact VRet.mk [0] (.tup [bv false, iv 1]) (LO s) ⟨rfl, rfl, rfl⟩ (no (.inr (.inr (.inr (by simpa using h4)))))
  have h4 : isDot r n = true := by simpa using h4
  have hok : ¬ badL x t r n := by unfold badL; rw [h4]; simp; omega
  refine VCall.mk [] (s_Compare_int64 t s.t) ⟨rfl, rfl, rfl⟩ ?_
  rintro _ _ ⟨rfl, rfl⟩
  refine And.intro rfl (And.intro rfl (And.intro rfl ?_))
  refine VCall.mk [] (s_dots_Order r n s.r s.n) ⟨rfl, rfl, rfl⟩ ?_
  rintro _ _ ⟨rfl, rfl⟩
  refine VCall.mk [2] (s_Or_int [cmpI t s.t, cmpD (r, n) (s.r, s.n)] 2 (by simp)) ⟨rfl, rfl, rfl⟩ ?_
  rintro _ _ ⟨rfl, rfl⟩
  have fin : ¬ (s.b = true ∧ ordL s t r n < 0) → ¬ (s.b = true ∧ ordL s t r n = 0) → SV.tup [bv true, iv 0] = .tup [bv (wrL s x t r n).1.1, iv (wrL s x t r n).1.2] ∧ LO ⟨true, x, t, r, n⟩ = LO (wrL s x t r n).2 := by
    intro a b; unfold wrL; rw [if_neg hok, if_neg a, if_neg b]; exact ⟨rfl, rfl⟩
  refine And.intro (fun h5 => ?_) (fun h5 => ?_)
  · have h5 : s.b = true := h5
    refine And.intro (fun h6 => ?_) (fun h6 => ?_)
    · have h6 : ordL s t r n < 0 := of_decide_eq_true h6
      refine VRet.mk [0] (.tup [bv false, iv 0]) (LO s) ⟨rfl, rfl, rfl⟩ ?_
      unfold wrL; rw [if_neg hok, if_pos ⟨h5, h6⟩]; exact ⟨rfl, rfl⟩
    have h6 : ¬ ordL s t r n < 0 := of_decide_eq_false h6
    refine And.intro (fun _ => ?_) (fun h7 => ?_)
    · refine And.intro (fun h8 => ?_) (fun h8 => ?_)
      · have h8 : ordL s t r n = 0 := of_decide_eq_true h8
        have hW : wrL s x t r n = ((if x = s.x then (false, 0) else (false, 5)), s) := by unfold wrL; rw [if_neg hok, if_neg (fun k => h6 k.2), if_pos ⟨h5, h8⟩]
        refine And.intro (fun h9 => ?_) (fun h9 => ?_)
        · have h9 : (!(x.toList == s.x.toList)) = true := h9
          rw [str_beq] at h9
          have h9 : ¬ x = s.x := by simpa using h9
          refine VRet.mk [0] (.tup [bv false, iv 5]) (LO s) ⟨rfl, rfl, rfl⟩ ?_
          rw [hW, if_neg h9]; exact ⟨rfl, rfl⟩
        · have h9 : (!(x.toList == s.x.toList)) = false := h9
          rw [str_beq] at h9
          have h9 : x = s.x := by simpa using h9
          refine VRet.mk [0] (.tup [bv false, iv 0]) (LO s) ⟨rfl, rfl, rfl⟩ ?_
          rw [hW, if_pos h9]; exact ⟨rfl, rfl⟩
      · have h8 : ¬ ordL s t r n = 0 := of_decide_eq_false h8
        exact VRet.mk [0] (.tup [bv true, iv 0]) (LO ⟨true, x, t, r, n⟩) ⟨rfl, rfl, rfl⟩ (fin (fun k => h6 k.2) (fun k => h8 k.2))
    · rw [h5] at h7; cases h7
  · have h5 : s.b = false := h5
    refine And.intro (fun h7 => ?_) (fun _ => ?_)
    · rw [h5] at h7; cases h7
    exact VRet.mk [0] (.tup [bv true, iv 0]) (LO ⟨true, x, t, r, n⟩) ⟨rfl, rfl, rfl⟩ (fin (fun k => by rw [h5] at k; cases k.1) (fun k => by rw [h5] at k; cases k.1))
theorem s_LValue (s : LV) : Ctr Tryz.prog F_last_Last_Value [.ptr 0 0] (LO s) (fun v H => v = .tup [.raw (.string s.x), bv s.b] ∧ H = LO s) := by
  refine i_last_Last_Value.spec follows ?_
  exact VRet.mk [0] (.tup [.raw (.string s.x), bv s.b]) (LO s) ⟨rfl, rfl, rfl⟩ ⟨rfl, rfl⟩
/-- What holds of one. -/
def LI (s : LV) : Prop := (s.b = true → (0 ≤ s.t ∧ s.t ≤ 1099511627776) ∧ isDot s.r s.n = true ∧ s.x.size ≤ 100) ∧ (s.b = false → s = ⟨false, ByteArray.mk #[], 0, 0, 0⟩)
theorem LI.new : LI ⟨false, ByteArray.mk #[], 0, 0, 0⟩ := ⟨fun h => (by cases h), fun _ => rfl⟩
theorem LI.write {s : LV} (h : LI s) (x : ByteArray) (t r n : Int) : LI (wrL s x t r n).2 := by
  unfold wrL
  split
  · exact h
  · rename_i hok
    unfold badL at hok
    simp only [not_or] at hok
    split
    · exact h
    · split
      · exact h
      · exact ⟨fun _ => ⟨⟨by show 0 ≤ t; omega, by show t ≤ 1099511627776; omega⟩, by simpa using hok.2.2.2, by show x.size ≤ 100; omega⟩, fun k => (by cases k)⟩
def lstB (s : LV) : List Int := if s.b = true then zB 1 ++ zB s.t ++ zB s.r ++ zB s.n ++ textB s.x else zB 0
theorem textB_len {s : ByteArray} (h : s.size ≤ 1000) : (textB s).length ≤ 1010 := by
  have := numB_len10 (u := 2 * s.size) (by omega)
  rw [textB, List.length_append, strL_len]; omega
theorem lstB_len {s : LV} (h : LI s) : (lstB s).length ≤ 1050 := by
  unfold lstB
  have h0 := zB_len (v := 0) (by decide)
  have h1 := zB_len (v := 1) (by decide)
  split
  · rename_i hb
    obtain ⟨ht, hd, hx⟩ := h.1 hb
    have hd := isDot_bd hd
    have h2 := zB_len (v := s.t) (by omega)
    have h3 := zB_len (v := s.r) (by omega)
    have h4 := zB_len (v := s.n) (by omega)
    have h5 := textB_len (s := s.x) (by omega)
    simp only [List.length_append]; omega
  · omega
theorem s_LPut (s : LV) (hL : LI s) (l : List Int) (xs : List Value) (te : TypeId) (o cp : Nat) (hb : Brow xs o cp l) (hl : l.length ≤ 1000000) :
    Ctr Tryz.prog F_last_Last_Put [.ptr 0 0, .sl 1 o l.length cp] (LO s ++ [.arr xs te]) (fun v H => ∃ o' c' ys, v = .sl 2 o' (l ++ lstB s).length c' ∧ H = LO s ++ [.arr xs te, .arr ys T_uint8] ∧ Brow ys o' c' (l ++ lstB s)) := by
  refine i_last_Last_Put.spec follows ?_
  refine And.intro (fun h1 => ?_) (fun h1 => ?_)
  · have h1 : s.b = false := by simpa using h1
    have hB : lstB s = zB 0 := by unfold lstB; rw [if_neg (by rw [h1]; decide)]
    rw [hB]
    refine VCall.mk [1] (s_pack_Num l xs te o cp hb (by omega) 0 (by decide)) ⟨rfl, rfl, rfl⟩ ?_
    rintro _ _ ⟨o1, c1, y1, rfl, rfl, b1⟩
    exact VRet.mk [0, 1, 2] (.sl 2 o1 (l ++ zB 0).length c1) (LO s ++ [.arr xs te, .arr y1 T_uint8]) ⟨rfl, rfl, rfl⟩ ⟨o1, c1, y1, rfl, rfl, b1⟩
  · have h1 : s.b = true := by simpa using h1
    have hB : lstB s = zB 1 ++ zB s.t ++ zB s.r ++ zB s.n ++ textB s.x := by unfold lstB; rw [if_pos h1]
    rw [hB]
    obtain ⟨ht, hd, hx⟩ := hL.1 h1
    have hd := isDot_bd hd
    have z1 := zB_len (v := 1) (by decide)
    have z2 := zB_len (v := s.t) (by omega)
    have z3 := zB_len (v := s.r) (by omega)
    have z4 := zB_len (v := s.n) (by omega)
    refine VCall.mk [1] (s_pack_Num l xs te o cp hb (by omega) 1 (by decide)) ⟨rfl, rfl, rfl⟩ ?_
    rintro _ _ ⟨o1, c1, y1, rfl, rfl, b1⟩
    have b1 : Brow y1 o1 c1 (l ++ zB 1) := b1
    refine And.intro rfl (And.intro rfl ?_)
    refine VCall.mk [2] (s_pack_Num (l ++ zB 1) y1 T_uint8 o1 c1 b1 (by simp only [List.length_append]; omega) s.t (by omega)) ⟨rfl, rfl, rfl⟩ ?_
    rintro _ _ ⟨o2, c2, y2, rfl, rfl, b2⟩
    have b2 : Brow y2 o2 c2 (l ++ zB 1 ++ zB s.t) := b2
    refine VCall.mk [3] (s_pack_Num (l ++ zB 1 ++ zB s.t) y2 T_uint8 o2 c2 b2 (by simp only [List.length_append]; omega) s.r (by omega)) ⟨rfl, rfl, rfl⟩ ?_
    rintro _ _ ⟨o3, c3, y3, rfl, rfl, b3⟩
    have b3 : Brow y3 o3 c3 (l ++ zB 1 ++ zB s.t ++ zB s.r) := b3
    refine And.intro rfl (And.intro rfl (And.intro rfl (And.intro rfl ?_)))
    refine VCall.mk [4] (s_pack_Num (l ++ zB 1 ++ zB s.t ++ zB s.r) y3 T_uint8 o3 c3 b3 (by simp only [List.length_append]; omega) s.n (by omega)) ⟨rfl, rfl, rfl⟩ ?_
    rintro _ _ ⟨o4, c4, y4, rfl, rfl, b4⟩
    have b4 : Brow y4 o4 c4 (l ++ zB 1 ++ zB s.t ++ zB s.r ++ zB s.n) := b4
    refine And.intro rfl (And.intro rfl ?_)
    refine VCall.mk [5] (s_pack_Text (l ++ zB 1 ++ zB s.t ++ zB s.r ++ zB s.n) s.x y4 T_uint8 o4 c4 b4 (by simp only [List.length_append]; omega) (by omega)) ⟨rfl, rfl, rfl⟩ ?_
    rintro _ _ ⟨o5, c5, y5, rfl, rfl, b5⟩
    have e : l ++ zB 1 ++ zB s.t ++ zB s.r ++ zB s.n ++ textB s.x = l ++ (zB 1 ++ zB s.t ++ zB s.r ++ zB s.n ++ textB s.x) := by simp only [List.append_assoc]
    rw [e] at b5 ⊢
    exact VRet.mk [0, 1, 6] (.sl 2 o5 (l ++ (zB 1 ++ zB s.t ++ zB s.r ++ zB s.n ++ textB s.x)).length c5) (LO s ++ [.arr xs te, .arr y5 T_uint8]) ⟨rfl, rfl, rfl⟩ ⟨o5, c5, y5, rfl, rfl, b5⟩
end Go.Proofs

