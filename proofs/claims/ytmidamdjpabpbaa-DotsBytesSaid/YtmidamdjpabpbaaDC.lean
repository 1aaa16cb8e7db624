/- Part of the proof that the statement named in the last file holds: lemmas of the prover's own. No conditions. -/
import Derived.Test.YtmidamdjpabpbaaDB
import Derived.Test.YtmidamdjpabpbaaVD
namespace Go.Proofs
open Go Go.V
set_option maxRecDepth 100000
set_option linter.unusedVariables false

abbrev nilS : SV := .raw (.slice none 0 0)
theorem brow_nil_of {xs : List Value} {o c : Nat} {l : List Int} (h : Brow xs o c l) (hx : xs = []) : l = [] := by
  subst hx
  have := h.1; have := h.2.1
  simp at this
  exact List.length_eq_zero_iff.1 (by omega)
theorem brow_nil : Brow [] 0 0 [] := ⟨Nat.le_refl _, by simp, rfl⟩
theorem s_bytes_Clone (l : List Int) (xs : List Value) (te : TypeId) (o c : Nat) (hb : Brow xs o c l) (hl : l.length ≤ 10000000) :
    Ctr Try.prog F_bytes_Clone [.sl 0 o l.length c] [.arr xs te] (fun x H => ∃ o' c' ys, x = .sl 1 o' l.length c' ∧ H = [.arr xs te, .arr ys T_uint8] ∧ Brow ys o' c' l) := by
  refine i_bytes_Clone.spec follows ?_
  refine fun b hbn => ?_
  refine And.intro (fun h => ?_) (fun _ => ?_)
  · have hx : xs = [] := by
      refine Classical.byContradiction fun hn => ?_
      rw [hbn hn] at h; cases h
    have hl0 := brow_nil_of hb hx
    refine VRet.nil T_uint8 [0] [] ⟨rfl, rfl⟩ (VRet.mk [0, 1] (.sl 1 0 0 0) [.arr xs te, .arr [] T_uint8] ⟨rfl, rfl, rfl⟩ ⟨0, 0, [], ?_, rfl, ?_⟩)
    · rw [hl0]; rfl
    · rw [hl0]; exact brow_nil
  refine And.intro ⟨⟨Nat.zero_le _, by simp, rfl⟩, ⟨?_, ?_⟩, by omega⟩ ?_
  · rw [hb.take1]; simp
  · rw [hb.take1]; exact cellsOK_ints l
  intro zs' o' c' hz
  refine VRet.mk [0, 2] (.sl 1 o' (0 + l.length) c') [.arr xs te, .arr zs' T_uint8] ⟨rfl, rfl, rfl⟩ ⟨o', c', zs', ?_, rfl, ?_, ?_, ?_⟩
  · show SV.sl 1 o' (0 + l.length) c' = _; rw [Nat.zero_add]
  · omega
  · omega
  · have := hz.2.2
    rw [hb.take1] at this
    simpa using this

structure BX where
  xs : List Value
  o : Nat
  c : Nat
  l : List Int
  u : Nat

theorem s_pack_Num (l : List Int) (xs : List Value) (te : TypeId) (o c : Nat) (hb : Brow xs o c l) (hl : l.length ≤ 9000000) (v : Int) (hv : 0 ≤ v ∧ v < 4611686018427387904) :
    Ctr Try.prog F_pack_Num [.sl 0 o l.length c, iv v] [.arr xs te] (fun x H => ∃ o' c' ys, x = .sl 1 o' (l ++ numB (2 * v.toNat)).length c' ∧ H = [.arr xs te, .arr ys T_uint8] ∧ Brow ys o' c' (l ++ numB (2 * v.toNat))) := by
  refine i_pack_Num.spec follows ?_
  have hlen := numB_len10 (u := 2 * v.toNat) (by omega)
  refine VCall.mk [0] (s_bytes_Clone l xs te o c hb (by omega)) ⟨rfl, rfl, rfl⟩ ?_
  rintro _ _ ⟨o1, c1, ys1, rfl, rfl, hb1⟩
  refine Exists.intro _ (And.intro (w64u (n := v) (by omega)) ?_)
  refine And.intro (by omega) (Exists.intro _ (And.intro (shl1 hv) ?_))
  refine And.intro (by omega) (Exists.intro _ (And.intro (shr63 hv) ?_))
  refine Exists.intro _ (And.intro (w64u (n := 0) (by omega)) ?_)
  refine Exists.intro _ (And.intro (xor0 (u := 2 * v.toNat) (by omega)) ?_)
  refine VLoop.mk BX (fun x => [(5, .sl 1 x.o x.l.length x.c), (6, .raw (.int .u64 (x.u : Int)))])
    (fun x => [.arr xs te, .arr x.xs T_uint8])
    (fun x => Brow x.xs x.o x.c x.l ∧ x.l ++ numB x.u = l ++ numB (2 * v.toNat) ∧ x.u < 18446744073709551616) (fun x => x.u) ⟨ys1, o1, c1, l, 2 * v.toNat⟩ [0, 1] ⟨⟨hb1, rfl, by simp only; omega⟩, rfl, rfl, rfl⟩ ?_
  clear hb1
  rintro ⟨xs2, o2, c2, l2, u⟩ ⟨hB, hN, hu64⟩ g
  simp only at hB hN hu64
  have hNl := congrArg List.length hN
  simp only [List.length_append] at hNl
  have hlu : l2.length ≤ 10000000 := by omega
  refine And.intro (fun h => ?_) (fun h => ?_)
  · have h := of_decide_eq_true h
    have hu : ¬ u < 128 := by simp only at h; omega
    refine Exists.intro _ (And.intro (w8 u) ?_)
    refine Exists.intro _ (And.intro (or8 u) ?_)
    refine And.intro ⟨⟨hB.1, by have := hB.2.1; simpa using this, rfl⟩, ⟨rfl, rfl⟩, by simp only; omega⟩ ?_
    intro zs' o' c' hz
    refine And.intro (by omega) (Exists.intro _ (And.intro (sh7 u) ?_))
    refine Exists.intro ⟨zs', o', c', l2 ++ [((u % 128 + 128 : Nat) : Int)], u / 128⟩ (Exists.intro [0, 3] (And.intro ⟨⟨⟨?_, ?_, ?_⟩, ?_, by show u / 128 < _; omega⟩, ?_⟩ ⟨?_, rfl, rfl⟩))
    · have := hz.1; simp only at this; simp; omega
    · have := hz.2.1; simpa using this
    · have := hz.2.2
      simp only at this
      rw [hB.take1] at this
      simpa using this
    · rw [← hN, numB_ge hu, List.append_assoc]; rfl
    · show u / 128 < u; omega
    · show [nkb (.sl 3 o' (l2.length + 1) c'), _] = [nkb (.sl 3 o' (l2 ++ [((u % 128 + 128 : Nat) : Int)]).length c'), _]
      rw [List.length_append]; rfl
  · have h := of_decide_eq_false h
    have hu : u < 128 := by simp only at h; omega
    refine Exists.intro _ (And.intro (w8 u) ?_)
    refine And.intro ⟨⟨hB.1, by have := hB.2.1; simpa using this, rfl⟩, ⟨rfl, rfl⟩, by simp only; omega⟩ ?_
    intro zs' o' c' hz
    have hm : u % 256 = u := by omega
    rw [numB_lt hu] at hN
    refine VRet.mk [0, 3] (.sl 1 o' (l2.length + 1) c') [.arr xs te, .arr zs' T_uint8] ⟨rfl, rfl, rfl⟩ ⟨o', c', zs', ?_, rfl, ?_⟩
    · show SV.sl 1 o' (l2.length + 1) c' = _; rw [← hN, List.length_append]; rfl
    · rw [← hN]
      refine ⟨?_, ?_, ?_⟩
      · have := hz.1; simp only at this; simp; omega
      · have := hz.2.1; simpa using this
      · have := hz.2.2
        simp only at this
        rw [hB.take1, hm] at this
        simpa using this

theorem s_ref1_Num (l : List Int) (xs : List Value) (te : TypeId) (o c : Nat) (hb : Brow xs o c l) (hl : l.length ≤ 9000000) (v : Int) (hv : 0 ≤ v ∧ v < 4611686018427387904) :
    Ctr Try.prog F_rostrumref1_Num [.sl 0 o l.length c, iv v] [.arr xs te] (fun x H => ∃ o' c' ys, x = .sl 1 o' (l ++ numB (2 * v.toNat)).length c' ∧ H = [.arr xs te, .arr ys T_uint8] ∧ Brow ys o' c' (l ++ numB (2 * v.toNat))) := by
  refine i_rostrumref1_Num.spec follows ?_
  have hlen := numB_len10 (u := 2 * v.toNat) (by omega)
  refine Exists.intro _ (And.intro (w64u (n := v) (by omega)) ?_)
  refine And.intro (by omega) (Exists.intro _ (And.intro (shl1 hv) ?_))
  refine And.intro (fun h => ?_) (fun _ => ?_)
  · have := of_decide_eq_true h; omega
  refine And.intro ⟨⟨Nat.zero_le _, by simp, rfl⟩, ⟨?_, ?_⟩, by omega⟩ ?_
  · rw [hb.take1]; simp
  · rw [hb.take1]; exact cellsOK_ints l
  intro ys1 o1 c1 hz1
  have hb1 : Brow ys1 o1 c1 l := by
    refine ⟨by omega, by omega, ?_⟩
    have := hz1.2.2
    rw [hb.take1] at this
    simpa using this
  refine VLoop.mk BX (fun x => [(5, .raw (.int .u64 (x.u : Int))), (6, .sl 1 x.o x.l.length x.c)])
    (fun x => [.arr xs te, .arr x.xs T_uint8])
    (fun x => Brow x.xs x.o x.c x.l ∧ x.l ++ numB x.u = l ++ numB (2 * v.toNat) ∧ x.u < 18446744073709551616) (fun x => x.u) ⟨ys1, o1, c1, l, 2 * v.toNat⟩ [0, 2] ⟨⟨hb1, rfl, by simp only; omega⟩, ?_, rfl, rfl⟩ ?_
  · show [_, nkb (.sl 2 o1 (0 + l.length) c1)] = [_, nkb (.sl 2 o1 l.length c1)]
    rw [Nat.zero_add]; rfl
  clear hb1
  rintro ⟨xs2, o2, c2, l2, u⟩ ⟨hB, hN, hu64⟩ g
  simp only at hB hN hu64
  have hNl := congrArg List.length hN
  simp only [List.length_append] at hNl
  have hlu : l2.length ≤ 10000000 := by omega
  refine And.intro (fun h => ?_) (fun h => ?_)
  · have h := of_decide_eq_true h
    have hu : ¬ u < 128 := by simp only at h; omega
    refine And.intro (by omega) (Exists.intro _ (And.intro (rem128 u) ?_))
    refine Exists.intro _ (And.intro (w8r u) ?_)
    refine Exists.intro _ (And.intro (add128 u) ?_)
    refine And.intro ⟨⟨hB.1, by have := hB.2.1; simpa using this, rfl⟩, ⟨rfl, rfl⟩, by simp only; omega⟩ ?_
    intro zs' o' c' hz
    refine And.intro (by omega) (Exists.intro _ (And.intro (quo128 u hu64) ?_))
    refine Exists.intro ⟨zs', o', c', l2 ++ [((u % 128 + 128 : Nat) : Int)], u / 128⟩ (Exists.intro [0, 3] (And.intro ⟨⟨⟨?_, ?_, ?_⟩, ?_, by show u / 128 < _; omega⟩, ?_⟩ ⟨?_, rfl, rfl⟩))
    · have := hz.1; simp only at this; simp; omega
    · have := hz.2.1; simpa using this
    · have := hz.2.2
      simp only at this
      rw [hB.take1] at this
      simpa using this
    · rw [← hN, numB_ge hu, List.append_assoc]; rfl
    · show u / 128 < u; omega
    · show [_, nkb (.sl 3 o' (l2.length + 1) c')] = [_, nkb (.sl 3 o' (l2 ++ [((u % 128 + 128 : Nat) : Int)]).length c')]
      rw [List.length_append]; rfl
  · have h := of_decide_eq_false h
    have hu : u < 128 := by simp only at h; omega
    refine Exists.intro _ (And.intro (w8 u) ?_)
    refine And.intro ⟨⟨hB.1, by have := hB.2.1; simpa using this, rfl⟩, ⟨rfl, rfl⟩, by simp only; omega⟩ ?_
    intro zs' o' c' hz
    have hm : u % 256 = u := by omega
    rw [numB_lt hu] at hN
    refine VRet.mk [0, 3] (.sl 1 o' (l2.length + 1) c') [.arr xs te, .arr zs' T_uint8] ⟨rfl, rfl, rfl⟩ ⟨o', c', zs', ?_, rfl, ?_⟩
    · show SV.sl 1 o' (l2.length + 1) c' = _; rw [← hN, List.length_append]; rfl
    · rw [← hN]
      refine ⟨?_, ?_, ?_⟩
      · have := hz.1; simp only at this; simp; omega
      · have := hz.2.1; simpa using this
      · have := hz.2.2
        simp only at this
        rw [hB.take1, hm] at this
        simpa using this

/-! ### Clocks in bytes -/
def vecB (v : Nat → Int) : Nat → List Int
  | 0 => []
  | n + 1 => vecB v n ++ numB (2 * (v n).toNat)
theorem vecB_len {v : Nat → Int} (hv : ∀ r, r < 7 → 0 ≤ v r ∧ v r ≤ 1099511627776) : ∀ n, n ≤ 7 → (vecB v n).length ≤ 10 * n
  | 0, _ => by simp [vecB]
  | n + 1, h => by
    have := vecB_len hv n (by omega)
    have := hv n (by omega)
    have := numB_len10 (u := 2 * (v n).toNat) (by omega)
    rw [vecB, List.length_append]; omega

theorem s_vec_Put (l : List Int) (xs : List Value) (te : TypeId) (o c : Nat) (hb : Brow xs o c l) (hl : l.length ≤ 8000000) (v : Nat → Int) (hv : ∀ r, r < 7 → 0 ≤ v r ∧ v r ≤ 1099511627776) :
    Ctr Try.prog F_vec_Put [.sl 0 o l.length c, .agg (vcells v)] [.arr xs te] (fun x H => ∃ o' c' ys, x = .sl 1 o' (l ++ vecB v 7).length c' ∧ H = [.arr xs te, .arr ys T_uint8] ∧ Brow ys o' c' (l ++ vecB v 7)) := by
  refine i_vec_Put.spec follows ?_
  refine VLoop.mk (Option BX) (fun x => match x with | none => [(0, .sl 0 o l.length c), (7, .agg (vcells v)), (8, iv (0 : Nat))] | some x => [(0, .sl 1 x.o x.l.length x.c), (7, .agg (vcells v)), (8, iv (x.u : Nat))])
    (fun x => match x with | none => [.arr xs te] | some x => [.arr xs te, .arr x.xs T_uint8])
    (fun x => match x with | none => True | some x => Brow x.xs x.o x.c x.l ∧ x.l = l ++ vecB v x.u ∧ x.u ≤ 7) (fun x => match x with | none => 8 | some x => 7 - x.u) none [0] ⟨trivial, rfl, rfl, rfl⟩ ?_
  rintro (_ | ⟨xs2, o2, c2, l2, i⟩) hinv g
  · refine And.intro (fun _ => ?_) (fun h => absurd h (by decide))
    have := hv 0 (by omega)
    refine And.intro ⟨by omega, by omega⟩ (Exists.intro _ (And.intro rfl ?_))
    refine VCall.mk [0] (s_pack_Num l xs te o c hb (by omega) (v 0) (by omega)) ⟨rfl, rfl, rfl⟩ ?_
    rintro _ _ ⟨o', c', ys, rfl, rfl, hB⟩
    refine Exists.intro _ (And.intro (wrap64 (n := ((0 : Nat) : Int) + 1) (by omega)) ?_)
    exact Exists.intro (some ⟨ys, o', c', l ++ numB (2 * (v 0).toNat), 1⟩) (Exists.intro [0, 1] (And.intro ⟨⟨hB, by simp [vecB], by show 1 ≤ 7; omega⟩, by show 7 - 1 < 8; omega⟩ ⟨rfl, rfl, rfl⟩))
  have hinv : Brow xs2 o2 c2 l2 ∧ l2 = l ++ vecB v i ∧ i ≤ 7 := hinv
  obtain ⟨hB, rfl, hi⟩ := hinv
  have hvl := vecB_len hv i hi
  refine And.intro (fun h => ?_) (fun h => ?_)
  · have h := of_decide_eq_true h
    have hi7 : 0 ≤ (i : Int) ∧ (i : Int) < 7 := ⟨by omega, h⟩
    have hvi := hv i (by simp only at h; omega)
    have hw : IntKind.i64.wrap ((i : Int) + 1) = ((i + 1 : Nat) : Int) := wrap64 (by omega)
    have hg : (vcells v)[(i : Int).toNat * 1]? = some (iv (v (i : Int).toNat)) := by have := vcells_get' v hi7 []; simpa using this
    refine And.intro hi7 (Exists.intro _ (And.intro hg ?_))
    refine VCall.mk [1] (s_pack_Num (l ++ vecB v i) xs2 T_uint8 o2 c2 hB (by rw [List.length_append]; omega) (v (i : Int).toNat) (by rw [Int.toNat_natCast]; omega)) ⟨rfl, rfl, rfl⟩ ?_
    rintro _ _ ⟨o', c', ys, rfl, rfl, hB'⟩
    refine Exists.intro _ (And.intro hw ?_)
    refine Exists.intro (some ⟨ys, o', c', l ++ vecB v i ++ numB (2 * (v (i : Int).toNat).toNat), i + 1⟩) (Exists.intro [0, 2] (And.intro ⟨⟨hB', ?_, by show i + 1 ≤ 7; simp only at h; omega⟩, ?_⟩ ⟨rfl, rfl, rfl⟩))
    · rw [Int.toNat_natCast, List.append_assoc]; rfl
    · show 7 - (i + 1) < 7 - i; simp only at h; omega
  · have h := of_decide_eq_false h
    have h7 : i = 7 := by simp only at h; omega
    subst h7
    exact VRet.mk [0, 1] (.sl 1 o2 (l ++ vecB v 7).length c2) [.arr xs te, .arr xs2 T_uint8] ⟨rfl, rfl, rfl⟩ ⟨o2, c2, xs2, rfl, rfl, hB⟩

theorem s_rostrumref7_PutVec (l : List Int) (xs : List Value) (te : TypeId) (o c : Nat) (hb : Brow xs o c l) (hl : l.length ≤ 8000000) (v : Nat → Int) (hv : ∀ r, r < 7 → 0 ≤ v r ∧ v r ≤ 1099511627776) :
    Ctr Try.prog F_rostrumref7_PutVec [.sl 0 o l.length c, .agg (vcells v)] [.arr xs te] (fun x H => ∃ o' c' ys, x = .sl 1 o' (l ++ vecB v 7).length c' ∧ H = [.arr xs te, .arr ys T_uint8] ∧ Brow ys o' c' (l ++ vecB v 7)) := by
  refine i_rostrumref7_PutVec.spec follows ?_
  refine VLoop.mk (Option BX) (fun x => match x with | none => [(0, .sl 0 o l.length c), (3, .ptr 1 0), (5, iv (0 : Nat))] | some x => [(0, .sl 2 x.o x.l.length x.c), (3, .ptr 1 0), (5, iv (x.u : Nat))])
    (fun x => match x with | none => [.arr xs te, .cells (vcells v) T_rostrumref7_Vec] | some x => [.arr xs te, .cells (vcells v) T_rostrumref7_Vec, .arr x.xs T_uint8])
    (fun x => match x with | none => True | some x => Brow x.xs x.o x.c x.l ∧ x.l = l ++ vecB v x.u ∧ x.u ≤ 7) (fun x => match x with | none => 8 | some x => 7 - x.u) none [0, 1] ⟨trivial, rfl, rfl, rfl⟩ ?_
  rintro (_ | ⟨xs2, o2, c2, l2, i⟩) hinv g
  · refine And.intro (fun _ => ?_) (fun h => absurd h (by decide))
    have := hv 0 (by omega)
    refine And.intro ⟨by omega, by omega⟩ (Exists.intro _ (And.intro (vcells_get' v (n := (0 : Nat)) (by omega) []) ?_))
    refine VCall.mk [0] (s_ref1_Num l xs te o c hb (by omega) (v 0) (by omega)) ⟨rfl, rfl, rfl⟩ ?_
    rintro _ _ ⟨o', c', ys, rfl, rfl, hB⟩
    refine Exists.intro _ (And.intro (wrap64 (n := ((0 : Nat) : Int) + 1) (by omega)) ?_)
    exact Exists.intro (some ⟨ys, o', c', l ++ numB (2 * (v 0).toNat), 1⟩) (Exists.intro [0, 1, 2] (And.intro ⟨⟨hB, by simp [vecB], by show 1 ≤ 7; omega⟩, by show 7 - 1 < 8; omega⟩ ⟨rfl, rfl, rfl⟩))
  have hinv : Brow xs2 o2 c2 l2 ∧ l2 = l ++ vecB v i ∧ i ≤ 7 := hinv
  obtain ⟨hB, rfl, hi⟩ := hinv
  have hvl := vecB_len hv i hi
  refine And.intro (fun h => ?_) (fun h => ?_)
  · have h := of_decide_eq_true h
    have hi7 : 0 ≤ (i : Int) ∧ (i : Int) < 7 := ⟨by omega, h⟩
    have hvi := hv i (by simp only at h; omega)
    have hw : IntKind.i64.wrap ((i : Int) + 1) = ((i + 1 : Nat) : Int) := wrap64 (by omega)
    have hg : (vcells v)[0 + (i : Int).toNat * 1]? = some (iv (v (i : Int).toNat)) := by have := vcells_get' v hi7 []; simpa using this
    refine And.intro hi7 (Exists.intro _ (And.intro hg ?_))
    refine VCall.mk [2] (s_ref1_Num (l ++ vecB v i) xs2 T_uint8 o2 c2 hB (by rw [List.length_append]; omega) (v (i : Int).toNat) (by rw [Int.toNat_natCast]; omega)) ⟨rfl, rfl, rfl⟩ ?_
    rintro _ _ ⟨o', c', ys, rfl, rfl, hB'⟩
    refine Exists.intro _ (And.intro hw ?_)
    refine Exists.intro (some ⟨ys, o', c', l ++ vecB v i ++ numB (2 * (v (i : Int).toNat).toNat), i + 1⟩) (Exists.intro [0, 1, 3] (And.intro ⟨⟨hB', ?_, by show i + 1 ≤ 7; simp only at h; omega⟩, ?_⟩ ⟨rfl, rfl, rfl⟩))
    · rw [Int.toNat_natCast, List.append_assoc]; rfl
    · show 7 - (i + 1) < 7 - i; simp only at h; omega
  · have h := of_decide_eq_false h
    have h7 : i = 7 := by simp only at h; omega
    subst h7
    exact VRet.mk [0, 2] (.sl 1 o2 (l ++ vecB v 7).length c2) [.arr xs te, .arr xs2 T_uint8] ⟨rfl, rfl, rfl⟩ ⟨o2, c2, xs2, rfl, rfl, hB⟩
end Go.Proofs

namespace Go.Proofs
open Go Go.V
set_option maxRecDepth 100000
set_option linter.unusedVariables false

/-! ### The document's own dots -/
theorem s_ref_May (r n : Int) : Ctr Try.prog F_rostrumref7_May [.agg (dcells r n)] [] (fun x H => x = bv (isDot r n) ∧ H = []) := by
  refine i_rostrumref7_May.spec follows ?_
  refine And.intro (fun h1 => ?_) (fun h1 => ?_)
  · have h1 := of_decide_eq_true h1
    refine And.intro (fun h2 => ?_) (fun h2 => ?_)
    · have h2 := of_decide_eq_true h2
      refine And.intro (fun h3 => ?_) (fun h3 => ?_)
      · have h3 := of_decide_eq_true h3
        refine VRet.mk [] (bv _) [] ⟨rfl, rfl, rfl⟩ ⟨?_, rfl⟩
        show bv _ = bv _
        simp [isDot, isRep, h1, h2, h3]
      · have h3 := of_decide_eq_false h3
        refine VRet.mk [] (bv false) [] ⟨rfl, rfl, rfl⟩ ⟨?_, rfl⟩
        show bv _ = bv _
        simp [isDot, h3]
    · have h2 := of_decide_eq_false h2
      refine VRet.mk [] (bv false) [] ⟨rfl, rfl, rfl⟩ ⟨?_, rfl⟩
      show bv _ = bv _
      simp [isDot, isRep, h2]
  · have h1 := of_decide_eq_false h1
    refine VRet.mk [] (bv false) [] ⟨rfl, rfl, rfl⟩ ⟨?_, rfl⟩
    show bv _ = bv _
    simp [isDot, isRep, h1]

theorem s_ref_Has (v : Nat → Int) (r n : Int) : Ctr Try.prog F_rostrumref7_Has [.agg (vcells v), .agg (dcells r n)] [] (fun x H => x = bv (has v r n) ∧ H = []) := by
  refine i_rostrumref7_Has.spec follows ?_
  refine And.intro (fun h1 => ?_) (fun h1 => ?_)
  · have h1 := of_decide_eq_true h1
    refine And.intro (fun h2 => ?_) (fun h2 => ?_)
    · have h2 := of_decide_eq_true h2
      refine And.intro (fun h3 => ?_) (fun h3 => ?_)
      · have h3 := of_decide_eq_true h3
        refine And.intro ⟨h1, h2⟩ (Exists.intro _ (And.intro (vcells_get' v ⟨h1, h2⟩ []) ?_))
        refine VRet.mk [] (bv _) [] ⟨rfl, rfl, rfl⟩ ⟨?_, rfl⟩
        show bv _ = bv _
        simp [has, isRep, h1, h2, h3]
      · have h3 := of_decide_eq_false h3
        refine VRet.mk [] (bv false) [] ⟨rfl, rfl, rfl⟩ ⟨?_, rfl⟩
        show bv _ = bv _
        simp [has, h3]
    · have h2 := of_decide_eq_false h2
      refine VRet.mk [] (bv false) [] ⟨rfl, rfl, rfl⟩ ⟨?_, rfl⟩
      show bv _ = bv _
      simp [has, isRep, h2]
  · have h1 := of_decide_eq_false h1
    refine VRet.mk [] (bv false) [] ⟨rfl, rfl, rfl⟩ ⟨?_, rfl⟩
    show bv _ = bv _
    simp [has, isRep, h1]

def lessD (x y : Int × Int) : Bool := decide (x.1 < y.1) || (decide (x.1 = y.1) && decide (x.2 < y.2))
theorem s_ref_Less (a b c d : Int) : Ctr Try.prog F_rostrumref7_Less [.agg (dcells a b), .agg (dcells c d)] [] (fun x H => x = bv (lessD (a, b) (c, d)) ∧ H = []) := by
  refine i_rostrumref7_Less.spec follows ?_
  refine And.intro (fun h1 => ?_) (fun h1 => ?_)
  · refine And.intro (fun h2 => ?_) (fun h2 => ?_)
    · refine VRet.mk [] (bv _) [] ⟨rfl, rfl, rfl⟩ ⟨?_, rfl⟩
      show bv _ = bv _
      simp [lessD, h1, h2]
    · refine VRet.mk [] (bv false) [] ⟨rfl, rfl, rfl⟩ ⟨?_, rfl⟩
      show bv _ = bv _
      simp at h1 h2
      simp [lessD, h2]; omega
  · refine VRet.mk [] (bv true) [] ⟨rfl, rfl, rfl⟩ ⟨?_, rfl⟩
    show bv _ = bv _
    simp at h1
    simp [lessD, h1]

theorem s_ref_in (l : List (Int × Int)) (a b : Int) (xs : List Value) (o c : Nat) (te : TypeId) (hr : Row xs o c l) (hl : l.length ≤ 1000000) :
    Ctr Try.prog F_rostrumref7_in [.sl 0 o l.length c, .agg (dcells a b)] [.arr xs te] (fun x H => x = bv (decide ((a, b) ∈ l)) ∧ H = [.arr xs te]) := by
  refine i_rostrumref7_in.spec follows ?_
  refine VLoop.mk Nat (fun i => [(0, .sl 0 o l.length c), (3, .ptr 1 0), (5, iv i)]) (fun _ => [.arr xs te, .cells (dcells a b) 24])
    (fun i => i ≤ l.length ∧ (a, b) ∉ l.take i) (fun i => l.length - i) 0 [0, 1] ⟨⟨Nat.zero_le _, by simp⟩, rfl, rfl, rfl⟩ ?_
  rintro i ⟨hi, hn⟩ g
  refine And.intro (fun h => ?_) (fun h => ?_)
  · have h := of_decide_eq_true h
    have hil : i < l.length := by omega
    have hw : IntKind.i64.wrap ((i : Int) + 1) = ((i + 1 : Nat) : Int) := wrap64 (by omega)
    refine And.intro ⟨Int.natCast_nonneg i, h, by have := hr.1; have := hr.2.1; omega⟩ ?_
    refine Exists.intro _ (And.intro (hr.cut i hil) ?_)
    refine And.intro (fun h2 => ?_) (fun h2 => ?_)
    · refine VRet.mk [0] (bv true) [.arr xs te] ⟨rfl, rfl, rfl⟩ ⟨?_, rfl⟩
      have h3 : l[i] = (a, b) := by simpa [Prod.ext_iff] using h2
      have : (a, b) ∈ l := h3 ▸ List.getElem_mem hil
      show bv _ = bv _
      simp [this]
    · refine Exists.intro _ (And.intro hw ?_)
      refine Exists.intro (i + 1) (Exists.intro [0, 1] (And.intro ⟨⟨hil, ?_⟩, by omega⟩ ⟨rfl, rfl, rfl⟩))
      rw [← List.take_append_getElem hil, List.mem_append, List.mem_singleton]
      rintro (h3 | h3)
      · exact hn h3
      · rw [← h3] at h2; simp at h2
  · have h := of_decide_eq_false h
    have hil : i = l.length := by omega
    subst hil
    rw [List.take_length] at hn
    refine VRet.mk [0] (bv false) [.arr xs te] ⟨rfl, rfl, rfl⟩ ⟨?_, rfl⟩
    show bv _ = bv _
    simp [hn]

/-- The document's dots in cells. -/
abbrev rcs (v : Nat → Int) (k o n c : Nat) : List SV := [iv (v 0), iv (v 1), iv (v 2), iv (v 3), iv (v 4), iv (v 5), iv (v 6), .sl k o n c]
theorem rcs_get (v : Nat → Int) (k o n c : Nat) {i : Int} (h : 0 ≤ i ∧ i < 7) : (rcs v k o n c)[0 + i.toNat * 1]? = some (iv (v i.toNat)) := vcells_get' v h [.sl k o n c]

theorem s_ref_Len (v : Nat → Int) (xs : List Value) (o n c : Nat) (te : TypeId) (hv : ∀ r, r < 7 → 0 ≤ v r ∧ v r ≤ 1099511627776) (hl : n ≤ 1000000) : Ctr Try.prog F_rostrumref7_Dots_Len [.ptr 0 0] [.cells (rcs v 1 o n c) T_rostrumref7_Dots, .arr xs te]
    (fun x H => x = iv (n + sumN v 7) ∧ H = [.cells (rcs v 1 o n c) T_rostrumref7_Dots, .arr xs te]) := by
  refine i_rostrumref7_Dots_Len.spec follows ?_
  refine VLoop.mk (Nat × Int) (fun x => [(0, .ptr 0 0), (3, iv x.2), (4, iv x.1)]) (fun i => [.cells (rcs v 1 o n c) T_rostrumref7_Dots, .arr xs te])
    (fun x => x.1 ≤ 7 ∧ x.2 = n + sumN v x.1) (fun x => 7 - x.1) (0, (n : Int)) [0, 1] ⟨⟨Nat.zero_le _, by simp [sumN]⟩, rfl, rfl, rfl⟩ ?_
  rintro ⟨i, m⟩ ⟨hi, hn⟩ g
  simp only at hi hn
  have hs := sumN_le hv i hi
  refine And.intro (fun h => ?_) (fun h => ?_)
  · have h := of_decide_eq_true h
    have hi7 : 0 ≤ (i : Int) ∧ (i : Int) < 7 := ⟨by omega, h⟩
    have := hv i (by simp only at h; omega)
    have hw : IntKind.i64.wrap ((i : Int) + 1) = ((i + 1 : Nat) : Int) := wrap64 (by omega)
    have hw2 : IntKind.i64.wrap (m + v (i : Int).toNat) = (n : Int) + sumN v (i + 1) := by
      rw [wrap64 (by rw [Int.toNat_natCast]; omega), Int.toNat_natCast, sumN]; omega
    refine And.intro hi7 (Exists.intro _ (And.intro (rcs_get v 1 o n c hi7) ?_))
    refine Exists.intro _ (And.intro hw2 ?_)
    refine Exists.intro _ (And.intro hw ?_)
    refine Exists.intro (i + 1, (n : Int) + sumN v (i + 1)) (Exists.intro [0, 1] (And.intro ⟨⟨by simp only at h ⊢; omega, rfl⟩, by simp only at h ⊢; omega⟩ ⟨rfl, rfl, rfl⟩))
  · have h := of_decide_eq_false h
    refine VRet.mk [0, 1] (iv _) [.cells (rcs v 1 o n c) T_rostrumref7_Dots, .arr xs te] ⟨rfl, rfl, rfl⟩ ⟨?_, rfl⟩
    show iv _ = iv _
    have : i = 7 := by simp only at h; omega
    subst this; rw [hn]

theorem s_SameDots (l m : List (Int × Int)) (xs xs2 : List Value) (o o2 c c2 : Nat) (te te2 : TypeId) (hr : Row xs o c l) (hr2 : Row xs2 o2 c2 m) (hl : l.length ≤ 1000000) (hm : m.length ≤ 1000000) :
    Ctr Try.prog F_rostrumref7_SameDots [.sl 0 o l.length c, .sl 1 o2 m.length c2] [.arr xs te, .arr xs2 te2] (fun x H => x = bv (decide (l = m)) ∧ H = [.arr xs te, .arr xs2 te2]) := by
  refine i_rostrumref7_SameDots.spec follows ?_
  refine And.intro (fun h => ?_) (fun h => ?_)
  · refine VRet.mk [0, 1] (bv false) [.arr xs te, .arr xs2 te2] ⟨rfl, rfl, rfl⟩ ⟨?_, rfl⟩
    have : l ≠ m := by rintro rfl; simp at h
    show bv _ = bv _
    simp [this]
  have hlm : l.length = m.length := by simp at h; omega
  refine VLoop.mk Nat (fun i => [(0, .sl 0 o l.length c), (1, .sl 1 o2 m.length c2), (5, iv i)]) (fun _ => [.arr xs te, .arr xs2 te2])
    (fun i => i ≤ l.length ∧ l.take i = m.take i) (fun i => l.length - i) 0 [0, 1] ⟨⟨Nat.zero_le _, by simp⟩, rfl, rfl, rfl⟩ ?_
  rintro i ⟨hi, hn⟩ g
  refine And.intro (fun h => ?_) (fun h => ?_)
  · have h := of_decide_eq_true h
    have hil : i < l.length := by omega
    have him : i < m.length := by omega
    have hw : IntKind.i64.wrap ((i : Int) + 1) = ((i + 1 : Nat) : Int) := wrap64 (by omega)
    refine And.intro ⟨Int.natCast_nonneg i, h, by have := hr.1; have := hr.2.1; omega⟩ ?_
    refine Exists.intro _ (And.intro (hr.cut i hil) ?_)
    refine And.intro ⟨Int.natCast_nonneg i, by omega, by have := hr2.1; have := hr2.2.1; omega⟩ ?_
    refine Exists.intro _ (And.intro (hr2.cut i him) ?_)
    refine And.intro (fun h2 => ?_) (fun h2 => ?_)
    · refine VRet.mk [0, 1] (bv false) [.arr xs te, .arr xs2 te2] ⟨rfl, rfl, rfl⟩ ⟨?_, rfl⟩
      have : l ≠ m := by rintro rfl; simp at h2
      show bv _ = bv _
      simp [this]
    · refine Exists.intro _ (And.intro hw ?_)
      refine Exists.intro (i + 1) (Exists.intro [0, 1] (And.intro ⟨⟨hil, ?_⟩, by omega⟩ ⟨rfl, rfl, rfl⟩))
      have : l[i] = m[i] := by simp at h2; exact Prod.ext h2.1 h2.2
      rw [← List.take_append_getElem hil, ← List.take_append_getElem him, hn, this]
  · have h := of_decide_eq_false h
    have hil : i = l.length := by omega
    subst hil
    rw [List.take_length, hlm, List.take_length] at hn
    refine VRet.mk [0, 1] (bv true) [.arr xs te, .arr xs2 te2] ⟨rfl, rfl, rfl⟩ ⟨?_, rfl⟩
    show bv _ = bv _
    simp [hn]

theorem s_ref_Merge (v w : Nat → Int) : Ctr Try.prog F_rostrumref7_Merge [.agg (vcells v), .agg (vcells w)] [] (fun x H => x = .agg (vcells (vmax v w)) ∧ H = []) := by
  refine i_rostrumref7_Merge.spec follows ?_
  refine VLoop.mk (Nat × (Nat → Int)) (fun x => [(2, .ptr 0 0), (3, .ptr 1 0), (4, .ptr 2 0), (5, iv x.1)]) (fun x => [.cells (vcells x.2) 43, .cells (vcells w) 43, .cells (vcells fun _ => 0) 43])
    (fun x => x.1 ≤ 7 ∧ ∀ j, j < 7 → x.2 j = mrg v w x.1 j) (fun x => 7 - x.1) (0, v) [0, 1, 2] ⟨⟨Nat.zero_le _, fun j _ => by simp [mrg]⟩, rfl, rfl, rfl⟩ ?_
  rintro ⟨i, u⟩ ⟨hi, hu⟩ g
  simp only at hi hu
  refine And.intro (fun h => ?_) (fun h => ?_)
  · have h := of_decide_eq_true h
    have hi7 : 0 ≤ (i : Int) ∧ (i : Int) < 7 := ⟨by omega, h⟩
    have hw : IntKind.i64.wrap ((i : Int) + 1) = ((i + 1 : Nat) : Int) := wrap64 (by omega)
    refine And.intro hi7 (Exists.intro _ (And.intro (vcells_get' w hi7 []) ?_))
    refine And.intro hi7 (Exists.intro _ (And.intro (vcells_get' u hi7 []) ?_))
    refine And.intro (fun h2 => ?_) (fun h2 => ?_)
    · have h2 := of_decide_eq_true h2
      refine And.intro hi7 (Exists.intro _ (And.intro (vcells_get' w hi7 []) ?_))
      refine And.intro hi7 (Exists.intro _ (And.intro (vcells_put u (w (i : Int).toNat) hi7 []) ?_))
      refine Exists.intro _ (And.intro hw ?_)
      refine Exists.intro (i + 1, upv u (i : Int).toNat (w (i : Int).toNat)) (Exists.intro [0, 1, 2] (And.intro ⟨⟨by simp only at h ⊢; omega, fun j hj => ?_⟩, by simp only at h ⊢; omega⟩ ⟨rfl, rfl, rfl⟩))
      rw [Int.toNat_natCast] at h2 ⊢
      simp only [upv, mrg]
      by_cases hji : j = i
      · subst hji
        have huj : u j = v j := by rw [hu j hj, mrg, if_neg (by omega)]
        rw [huj] at h2
        simp [vmax]; omega
      · rw [if_neg hji, hu j hj, mrg]
        by_cases hlt : j < i
        · rw [if_pos hlt, if_pos (by omega)]
        · rw [if_neg hlt, if_neg (by omega)]
    · have h2 := of_decide_eq_false h2
      refine Exists.intro _ (And.intro hw ?_)
      refine Exists.intro (i + 1, u) (Exists.intro [0, 1, 2] (And.intro ⟨⟨by simp only at h ⊢; omega, fun j hj => ?_⟩, by simp only at h ⊢; omega⟩ ⟨rfl, rfl, rfl⟩))
      show u j = mrg v w (i + 1) j
      rw [Int.toNat_natCast] at h2
      by_cases hji : j = i
      · subst hji
        have huj : u j = v j := by rw [hu j hj, mrg, if_neg (by omega)]
        rw [huj] at h2 ⊢
        simp [mrg, vmax]; omega
      · rw [hu j hj, mrg, mrg]
        by_cases hlt : j < i
        · rw [if_pos hlt, if_pos (by omega)]
        · rw [if_neg hlt, if_neg (by omega)]
  · have h := of_decide_eq_false h
    have h7 : i = 7 := by simp only at h; omega
    subst h7
    refine VRet.mk [] (.agg (vcells u)) [] ⟨rfl, rfl, rfl⟩ ⟨?_, rfl⟩
    have e : ∀ j, j < 7 → u j = vmax v w j := fun j hj => by rw [hu j hj, mrg, if_pos hj]
    show SV.agg [iv (u 0), iv (u 1), iv (u 2), iv (u 3), iv (u 4), iv (u 5), iv (u 6)] = _
    rw [e 0 (by omega), e 1 (by omega), e 2 (by omega), e 3 (by omega), e 4 (by omega), e 5 (by omega), e 6 (by omega)]
end Go.Proofs

namespace Go.Proofs
open Go Go.V
set_option maxRecDepth 100000
set_option linter.unusedVariables false

/-! ### A row that rises -/
def Rises (l : List (Int × Int)) : Prop := l.Pairwise fun x y => lessD x y = true
theorem lessD_iff {x y : Int × Int} : lessD x y = true ↔ x.1 < y.1 ∨ (x.1 = y.1 ∧ x.2 < y.2) := by simp [lessD]
/-- d at its place, the k-th. -/
def insAt (l : List (Int × Int)) (k : Nat) (d : Int × Int) : List (Int × Int) := l.take k ++ [d] ++ l.drop k

theorem dcl_len (l : List (Int × Int)) : (l.flatMap dcl).length = l.length * 2 := flatMap_len (f := dcl) (k := 2) (fun _ => rfl) l
theorem dcl_cellsOK : ∀ l : List (Int × Int), cellsOK (l.flatMap dcl) = true
  | [] => rfl
  | x :: l => by simp [cellsOK, dcl_cellsOK l]
theorem dcl_drop : ∀ (l : List (Int × Int)) (i : Nat), (l.flatMap dcl).drop (i * 2) = (l.drop i).flatMap dcl
  | [], i => by simp
  | x :: l, 0 => by simp
  | x :: l, i + 1 => by
    rw [List.flatMap_cons, show (i + 1) * 2 = (dcl x).length + i * 2 by simp; omega, ← List.drop_drop, List.drop_left, dcl_drop l i]; rfl
theorem dcl_take : ∀ (l : List (Int × Int)) (i : Nat), (l.flatMap dcl).take (i * 2) = (l.take i).flatMap dcl
  | [], i => by simp
  | x :: l, 0 => by simp
  | x :: l, i + 1 => by
    rw [List.flatMap_cons, show (i + 1) * 2 = (dcl x).length + i * 2 by simp; omega, List.take_length_add_append, dcl_take l i]; rfl
theorem Row.pre {xs : List Value} {o c : Nat} {l : List (Int × Int)} (h : Row xs o c l) (i : Nat) (hi : i ≤ l.length) : (xs.drop o).take (i * 2) = (l.take i).flatMap dcl := by
  rw [← dcl_take, ← h.2.2, List.take_take]; congr 1; omega
theorem Row.post {xs : List Value} {o c : Nat} {l : List (Int × Int)} (h : Row xs o c l) (i : Nat) (hi : i ≤ l.length) : (xs.drop (o + i * 2)).take ((l.length - i) * 2) = (l.drop i).flatMap dcl := by
  rw [← dcl_drop, ← h.2.2, List.drop_take, List.drop_drop]; congr 1; omega
theorem insAt_len {l : List (Int × Int)} {k : Nat} (h : k ≤ l.length) (d : Int × Int) : (insAt l k d).length = l.length + 1 := by
  simp [insAt]; omega

structure IX where
  k : Nat
theorem s_insert (l : List (Int × Int)) (a b : Int) (xs : List Value) (o c : Nat) (te : TypeId) (hr : Row xs o c l) (hl : l.length ≤ 1000000) :
    Ctr Try.prog F_rostrumref7_insert [.sl 0 o l.length c, .agg (dcells a b)] [.arr xs te]
    (fun x H => ∃ k, k ≤ l.length ∧ (∀ y ∈ l.take k, lessD y (a, b) = true) ∧ (∀ h : k < l.length, lessD l[k] (a, b) = false) ∧
      ((∃ h : k < l.length, l[k] = (a, b) ∧ x = .sl 0 o l.length c ∧ H = [.arr xs te]) ∨
       ((∀ h : k < l.length, l[k] ≠ (a, b)) ∧ ∃ o' c' ys, x = .sl 1 o' (insAt l k (a, b)).length c' ∧ H = [.arr xs te, .arr ys T_api_Dot] ∧ Row ys o' c' (insAt l k (a, b))))) := by
  refine i_rostrumref7_insert.spec follows ?_
  have hrl : o + l.length * 2 ≤ xs.length := by have := hr.1; have := hr.2.1; omega
  refine VLoop.mk Nat (fun i => [(0, .sl 0 o l.length c), (3, .ptr 1 0), (5, iv i)]) (fun _ => [.arr xs te, .cells (dcells a b) 24])
    (fun i => i ≤ l.length ∧ ∀ y ∈ l.take i, lessD y (a, b) = true) (fun i => l.length - i) 0 [0, 1] ⟨⟨Nat.zero_le _, by simp⟩, rfl, rfl, rfl⟩ ?_
  rintro i ⟨hi, hn⟩ g
  refine And.intro (fun h => ?_) (fun h => ?_)
  · have h := of_decide_eq_true h
    have hil : i < l.length := by omega
    refine And.intro ⟨Int.natCast_nonneg i, h, hrl⟩ ?_
    refine Exists.intro _ (And.intro (hr.cut i hil) ?_)
    refine VCall.mk [] (s_ref_Less l[i].1 l[i].2 a b) ⟨rfl, rfl, rfl⟩ ?_
    rintro _ _ ⟨rfl, rfl⟩
    refine And.intro (fun h2 => ?_) (fun h2 => ?_)
    · have hw : IntKind.i64.wrap ((i : Int) + 1) = ((i + 1 : Nat) : Int) := wrap64 (by omega)
      refine Exists.intro _ (And.intro hw ?_)
      refine Exists.intro (i + 1) (Exists.intro [0, 1] (And.intro ⟨⟨hil, ?_⟩, by omega⟩ ⟨rfl, rfl, rfl⟩))
      intro y hy
      rw [← List.take_append_getElem hil, List.mem_append, List.mem_singleton] at hy
      rcases hy with hy | rfl
      · exact hn y hy
      · exact h2
    · refine And.intro (fun g1 => ?_) (fun g1 => ?_)
      · refine And.intro ⟨Int.natCast_nonneg i, h, hrl⟩ ?_
        refine Exists.intro _ (And.intro (hr.cut i hil) ?_)
        refine And.intro (fun g2 => ?_) (fun g2 => ?_)
        · have h3 : l[i] = (a, b) := by simpa [Prod.ext_iff] using g2
          exact VRet.mk [0] (.sl 0 o l.length c) [.arr xs te] ⟨rfl, rfl, rfl⟩ ⟨i, hi, hn, fun _ => h2, .inl ⟨hil, h3, rfl, rfl⟩⟩
        · have hne : ∀ h : i < l.length, l[i] ≠ (a, b) := by
            intro _ h3; rw [h3] at g2; simp at g2
          refine And.intro ⟨Int.natCast_nonneg i, by have := hr.1; omega⟩ ?_
          refine And.intro ⟨Int.natCast_nonneg i, by omega⟩ ?_
          refine Exists.intro (if c = (i : Int).toNat then o else o + (i : Int).toNat * 2) (And.intro rfl ?_)
          have hpost : (xs.drop (if c = (i : Int).toNat then o else o + (i : Int).toNat * 2)).take ((l.length - i) * 2) = (l.drop i).flatMap dcl := by
            rw [show ((i : Int).toNat) = i from rfl]
            by_cases hc : c = i
            · have := hr.1
              rw [if_pos hc, show l.length - i = 0 by omega, show l.drop i = [] from List.drop_eq_nil_of_le (by omega)]; simp
            · rw [if_neg hc]; exact hr.post i hi
          generalize (if c = (i : Int).toNat then o else o + (i : Int).toNat * 2) = o' at hpost ⊢
          refine And.intro ?_ ?_
          · refine And.intro rfl ?_
            refine And.intro ?_ ?_
            · refine And.intro ⟨⟨Nat.zero_le _, by simp, rfl⟩, ⟨by rw [show ((i : Int).toNat) = i from rfl, hr.pre i hi, dcl_len, List.length_take]; congr 1; omega, by rw [show ((i : Int).toNat) = i from rfl, hr.pre i hi]; exact dcl_cellsOK _⟩, by rw [show ((i : Int).toNat) = i from rfl]; omega⟩ ?_
              intro zs1 o1 c1 hz1
              refine And.intro rfl ?_
              refine And.intro ⟨⟨hz1.1, hz1.2.1, rfl⟩, ⟨rfl, rfl⟩, by rw [show ((i : Int).toNat) = i from rfl]; omega⟩ ?_
              intro zs2 o2 c2 hz2
              refine And.intro ⟨⟨hz2.1, hz2.2.1, rfl⟩, ⟨by rw [show ((i : Int).toNat) = i from rfl, hpost, dcl_len, List.length_drop], by rw [show ((i : Int).toNat) = i from rfl, hpost]; exact dcl_cellsOK _⟩, by rw [show ((i : Int).toNat) = i from rfl]; omega⟩ ?_
              intro zs3 o3 c3 hz3
              refine VRet.mk [0, 6] (.sl 1 o3 ((0 + i) + 1 + (l.length - i)) c3) [.arr xs te, .arr zs3 T_api_Dot] ⟨rfl, rfl, rfl⟩ ⟨i, hi, hn, fun _ => h2, .inr ⟨hne, o3, c3, zs3, ?_, rfl, ?_⟩⟩
              · show SV.sl 1 o3 ((0 + i) + 1 + (l.length - i)) c3 = _
                rw [insAt_len hi]; congr 1; omega
              · have hz1 : 0 + i ≤ c1 ∧ o1 + c1 * 2 ≤ zs1.length ∧ (zs1.drop o1).take ((0 + i) * 2) = (([] : List Value).drop 0).take (0 * 2) ++ (xs.drop o).take (i * 2) := hz1
                have hz2 : 0 + i + 1 ≤ c2 ∧ o2 + c2 * 2 ≤ zs2.length ∧ (zs2.drop o2).take ((0 + i + 1) * 2) = (zs1.drop o1).take ((0 + i) * 2) ++ dcl (a, b) := hz2
                have hz3 : 0 + i + 1 + (l.length - i) ≤ c3 ∧ o3 + c3 * 2 ≤ zs3.length ∧ (zs3.drop o3).take ((0 + i + 1 + (l.length - i)) * 2) = (zs2.drop o2).take ((0 + i + 1) * 2) ++ (xs.drop o').take ((l.length - i) * 2) := hz3
                have hlen := insAt_len hi (a, b)
                refine ⟨by omega, hz3.2.1, ?_⟩
                rw [hlen, show (l.length + 1) * 2 = (0 + i + 1 + (l.length - i)) * 2 by omega, hz3.2.2, hz2.2.2, hz1.2.2, hr.pre i hi, hpost]
                simp [insAt]
            · refine And.intro ⟨⟨Nat.zero_le _, by simp, rfl⟩, ⟨by rw [show ((i : Int).toNat) = i from rfl, hr.pre i hi, dcl_len, List.length_take]; congr 1; omega, by rw [show ((i : Int).toNat) = i from rfl, hr.pre i hi]; exact dcl_cellsOK _⟩, by rw [show ((i : Int).toNat) = i from rfl]; omega⟩ ?_
              intro zs1 o1 c1 hz1
              refine And.intro ⟨⟨hz1.1, hz1.2.1, rfl⟩, ⟨rfl, rfl⟩, by rw [show ((i : Int).toNat) = i from rfl]; omega⟩ ?_
              intro zs2 o2 c2 hz2
              refine And.intro ⟨⟨hz2.1, hz2.2.1, rfl⟩, ⟨by rw [show ((i : Int).toNat) = i from rfl, hpost, dcl_len, List.length_drop], by rw [show ((i : Int).toNat) = i from rfl, hpost]; exact dcl_cellsOK _⟩, by rw [show ((i : Int).toNat) = i from rfl]; omega⟩ ?_
              intro zs3 o3 c3 hz3
              refine VRet.mk [0, 6] (.sl 1 o3 ((0 + i) + 1 + (l.length - i)) c3) [.arr xs te, .arr zs3 T_api_Dot] ⟨rfl, rfl, rfl⟩ ⟨i, hi, hn, fun _ => h2, .inr ⟨hne, o3, c3, zs3, ?_, rfl, ?_⟩⟩
              · show SV.sl 1 o3 ((0 + i) + 1 + (l.length - i)) c3 = _
                rw [insAt_len hi]; congr 1; omega
              · have hz1 : 0 + i ≤ c1 ∧ o1 + c1 * 2 ≤ zs1.length ∧ (zs1.drop o1).take ((0 + i) * 2) = (([] : List Value).drop 0).take (0 * 2) ++ (xs.drop o).take (i * 2) := hz1
                have hz2 : 0 + i + 1 ≤ c2 ∧ o2 + c2 * 2 ≤ zs2.length ∧ (zs2.drop o2).take ((0 + i + 1) * 2) = (zs1.drop o1).take ((0 + i) * 2) ++ dcl (a, b) := hz2
                have hz3 : 0 + i + 1 + (l.length - i) ≤ c3 ∧ o3 + c3 * 2 ≤ zs3.length ∧ (zs3.drop o3).take ((0 + i + 1 + (l.length - i)) * 2) = (zs2.drop o2).take ((0 + i + 1) * 2) ++ (xs.drop o').take ((l.length - i) * 2) := hz3
                have hlen := insAt_len hi (a, b)
                refine ⟨by omega, hz3.2.1, ?_⟩
                rw [hlen, show (l.length + 1) * 2 = (0 + i + 1 + (l.length - i)) * 2 by omega, hz3.2.2, hz2.2.2, hz1.2.2, hr.pre i hi, hpost]
                simp [insAt]
          · refine And.intro ⟨⟨Nat.zero_le _, by simp, rfl⟩, ⟨by rw [show ((i : Int).toNat) = i from rfl, hr.pre i hi, dcl_len, List.length_take]; congr 1; omega, by rw [show ((i : Int).toNat) = i from rfl, hr.pre i hi]; exact dcl_cellsOK _⟩, by rw [show ((i : Int).toNat) = i from rfl]; omega⟩ ?_
            intro zs1 o1 c1 hz1
            refine And.intro ⟨⟨hz1.1, hz1.2.1, rfl⟩, ⟨rfl, rfl⟩, by rw [show ((i : Int).toNat) = i from rfl]; omega⟩ ?_
            intro zs2 o2 c2 hz2
            refine And.intro ⟨⟨hz2.1, hz2.2.1, rfl⟩, ⟨by rw [show ((i : Int).toNat) = i from rfl, hpost, dcl_len, List.length_drop], by rw [show ((i : Int).toNat) = i from rfl, hpost]; exact dcl_cellsOK _⟩, by rw [show ((i : Int).toNat) = i from rfl]; omega⟩ ?_
            intro zs3 o3 c3 hz3
            refine VRet.mk [0, 6] (.sl 1 o3 ((0 + i) + 1 + (l.length - i)) c3) [.arr xs te, .arr zs3 T_api_Dot] ⟨rfl, rfl, rfl⟩ ⟨i, hi, hn, fun _ => h2, .inr ⟨hne, o3, c3, zs3, ?_, rfl, ?_⟩⟩
            · show SV.sl 1 o3 ((0 + i) + 1 + (l.length - i)) c3 = _
              rw [insAt_len hi]; congr 1; omega
            · have hz1 : 0 + i ≤ c1 ∧ o1 + c1 * 2 ≤ zs1.length ∧ (zs1.drop o1).take ((0 + i) * 2) = (([] : List Value).drop 0).take (0 * 2) ++ (xs.drop o).take (i * 2) := hz1
              have hz2 : 0 + i + 1 ≤ c2 ∧ o2 + c2 * 2 ≤ zs2.length ∧ (zs2.drop o2).take ((0 + i + 1) * 2) = (zs1.drop o1).take ((0 + i) * 2) ++ dcl (a, b) := hz2
              have hz3 : 0 + i + 1 + (l.length - i) ≤ c3 ∧ o3 + c3 * 2 ≤ zs3.length ∧ (zs3.drop o3).take ((0 + i + 1 + (l.length - i)) * 2) = (zs2.drop o2).take ((0 + i + 1) * 2) ++ (xs.drop o').take ((l.length - i) * 2) := hz3
              have hlen := insAt_len hi (a, b)
              refine ⟨by omega, hz3.2.1, ?_⟩
              rw [hlen, show (l.length + 1) * 2 = (0 + i + 1 + (l.length - i)) * 2 by omega, hz3.2.2, hz2.2.2, hz1.2.2, hr.pre i hi, hpost]
              simp [insAt]
      · rw [decide_eq_true h] at g1; cases g1
  · have h := of_decide_eq_false h
    refine And.intro (fun g1 => ?_) (fun g1 => ?_)
    · exact absurd (of_decide_eq_true g1) h
    have hne : ∀ h : i < l.length, l[i] ≠ (a, b) := fun h' => by omega
    refine And.intro ⟨Int.natCast_nonneg i, by have := hr.1; omega⟩ ?_
    refine And.intro ⟨Int.natCast_nonneg i, by omega⟩ ?_
    refine Exists.intro (if c = (i : Int).toNat then o else o + (i : Int).toNat * 2) (And.intro rfl ?_)
    have hpost : (xs.drop (if c = (i : Int).toNat then o else o + (i : Int).toNat * 2)).take ((l.length - i) * 2) = (l.drop i).flatMap dcl := by
      rw [show ((i : Int).toNat) = i from rfl]
      by_cases hc : c = i
      · have := hr.1
        rw [if_pos hc, show l.length - i = 0 by omega, show l.drop i = [] from List.drop_eq_nil_of_le (by omega)]; simp
      · rw [if_neg hc]; exact hr.post i hi
    generalize (if c = (i : Int).toNat then o else o + (i : Int).toNat * 2) = o' at hpost ⊢
    refine And.intro ?_ ?_
    · refine And.intro rfl ?_
      refine And.intro ?_ ?_
      · refine And.intro ⟨⟨Nat.zero_le _, by simp, rfl⟩, ⟨by rw [show ((i : Int).toNat) = i from rfl, hr.pre i hi, dcl_len, List.length_take]; congr 1; omega, by rw [show ((i : Int).toNat) = i from rfl, hr.pre i hi]; exact dcl_cellsOK _⟩, by rw [show ((i : Int).toNat) = i from rfl]; omega⟩ ?_
        intro zs1 o1 c1 hz1
        refine And.intro rfl ?_
        refine And.intro ⟨⟨hz1.1, hz1.2.1, rfl⟩, ⟨rfl, rfl⟩, by rw [show ((i : Int).toNat) = i from rfl]; omega⟩ ?_
        intro zs2 o2 c2 hz2
        refine And.intro ⟨⟨hz2.1, hz2.2.1, rfl⟩, ⟨by rw [show ((i : Int).toNat) = i from rfl, hpost, dcl_len, List.length_drop], by rw [show ((i : Int).toNat) = i from rfl, hpost]; exact dcl_cellsOK _⟩, by rw [show ((i : Int).toNat) = i from rfl]; omega⟩ ?_
        intro zs3 o3 c3 hz3
        refine VRet.mk [0, 6] (.sl 1 o3 ((0 + i) + 1 + (l.length - i)) c3) [.arr xs te, .arr zs3 T_api_Dot] ⟨rfl, rfl, rfl⟩ ⟨i, hi, hn, fun h' => by omega, .inr ⟨hne, o3, c3, zs3, ?_, rfl, ?_⟩⟩
        · show SV.sl 1 o3 ((0 + i) + 1 + (l.length - i)) c3 = _
          rw [insAt_len hi]; congr 1; omega
        · have hz1 : 0 + i ≤ c1 ∧ o1 + c1 * 2 ≤ zs1.length ∧ (zs1.drop o1).take ((0 + i) * 2) = (([] : List Value).drop 0).take (0 * 2) ++ (xs.drop o).take (i * 2) := hz1
          have hz2 : 0 + i + 1 ≤ c2 ∧ o2 + c2 * 2 ≤ zs2.length ∧ (zs2.drop o2).take ((0 + i + 1) * 2) = (zs1.drop o1).take ((0 + i) * 2) ++ dcl (a, b) := hz2
          have hz3 : 0 + i + 1 + (l.length - i) ≤ c3 ∧ o3 + c3 * 2 ≤ zs3.length ∧ (zs3.drop o3).take ((0 + i + 1 + (l.length - i)) * 2) = (zs2.drop o2).take ((0 + i + 1) * 2) ++ (xs.drop o').take ((l.length - i) * 2) := hz3
          have hlen := insAt_len hi (a, b)
          refine ⟨by omega, hz3.2.1, ?_⟩
          rw [hlen, show (l.length + 1) * 2 = (0 + i + 1 + (l.length - i)) * 2 by omega, hz3.2.2, hz2.2.2, hz1.2.2, hr.pre i hi, hpost]
          simp [insAt]
      · refine And.intro ⟨⟨Nat.zero_le _, by simp, rfl⟩, ⟨by rw [show ((i : Int).toNat) = i from rfl, hr.pre i hi, dcl_len, List.length_take]; congr 1; omega, by rw [show ((i : Int).toNat) = i from rfl, hr.pre i hi]; exact dcl_cellsOK _⟩, by rw [show ((i : Int).toNat) = i from rfl]; omega⟩ ?_
        intro zs1 o1 c1 hz1
        refine And.intro ⟨⟨hz1.1, hz1.2.1, rfl⟩, ⟨rfl, rfl⟩, by rw [show ((i : Int).toNat) = i from rfl]; omega⟩ ?_
        intro zs2 o2 c2 hz2
        refine And.intro ⟨⟨hz2.1, hz2.2.1, rfl⟩, ⟨by rw [show ((i : Int).toNat) = i from rfl, hpost, dcl_len, List.length_drop], by rw [show ((i : Int).toNat) = i from rfl, hpost]; exact dcl_cellsOK _⟩, by rw [show ((i : Int).toNat) = i from rfl]; omega⟩ ?_
        intro zs3 o3 c3 hz3
        refine VRet.mk [0, 6] (.sl 1 o3 ((0 + i) + 1 + (l.length - i)) c3) [.arr xs te, .arr zs3 T_api_Dot] ⟨rfl, rfl, rfl⟩ ⟨i, hi, hn, fun h' => by omega, .inr ⟨hne, o3, c3, zs3, ?_, rfl, ?_⟩⟩
        · show SV.sl 1 o3 ((0 + i) + 1 + (l.length - i)) c3 = _
          rw [insAt_len hi]; congr 1; omega
        · have hz1 : 0 + i ≤ c1 ∧ o1 + c1 * 2 ≤ zs1.length ∧ (zs1.drop o1).take ((0 + i) * 2) = (([] : List Value).drop 0).take (0 * 2) ++ (xs.drop o).take (i * 2) := hz1
          have hz2 : 0 + i + 1 ≤ c2 ∧ o2 + c2 * 2 ≤ zs2.length ∧ (zs2.drop o2).take ((0 + i + 1) * 2) = (zs1.drop o1).take ((0 + i) * 2) ++ dcl (a, b) := hz2
          have hz3 : 0 + i + 1 + (l.length - i) ≤ c3 ∧ o3 + c3 * 2 ≤ zs3.length ∧ (zs3.drop o3).take ((0 + i + 1 + (l.length - i)) * 2) = (zs2.drop o2).take ((0 + i + 1) * 2) ++ (xs.drop o').take ((l.length - i) * 2) := hz3
          have hlen := insAt_len hi (a, b)
          refine ⟨by omega, hz3.2.1, ?_⟩
          rw [hlen, show (l.length + 1) * 2 = (0 + i + 1 + (l.length - i)) * 2 by omega, hz3.2.2, hz2.2.2, hz1.2.2, hr.pre i hi, hpost]
          simp [insAt]
    · refine And.intro ⟨⟨Nat.zero_le _, by simp, rfl⟩, ⟨by rw [show ((i : Int).toNat) = i from rfl, hr.pre i hi, dcl_len, List.length_take]; congr 1; omega, by rw [show ((i : Int).toNat) = i from rfl, hr.pre i hi]; exact dcl_cellsOK _⟩, by rw [show ((i : Int).toNat) = i from rfl]; omega⟩ ?_
      intro zs1 o1 c1 hz1
      refine And.intro ⟨⟨hz1.1, hz1.2.1, rfl⟩, ⟨rfl, rfl⟩, by rw [show ((i : Int).toNat) = i from rfl]; omega⟩ ?_
      intro zs2 o2 c2 hz2
      refine And.intro ⟨⟨hz2.1, hz2.2.1, rfl⟩, ⟨by rw [show ((i : Int).toNat) = i from rfl, hpost, dcl_len, List.length_drop], by rw [show ((i : Int).toNat) = i from rfl, hpost]; exact dcl_cellsOK _⟩, by rw [show ((i : Int).toNat) = i from rfl]; omega⟩ ?_
      intro zs3 o3 c3 hz3
      refine VRet.mk [0, 6] (.sl 1 o3 ((0 + i) + 1 + (l.length - i)) c3) [.arr xs te, .arr zs3 T_api_Dot] ⟨rfl, rfl, rfl⟩ ⟨i, hi, hn, fun h' => by omega, .inr ⟨hne, o3, c3, zs3, ?_, rfl, ?_⟩⟩
      · show SV.sl 1 o3 ((0 + i) + 1 + (l.length - i)) c3 = _
        rw [insAt_len hi]; congr 1; omega
      · have hz1 : 0 + i ≤ c1 ∧ o1 + c1 * 2 ≤ zs1.length ∧ (zs1.drop o1).take ((0 + i) * 2) = (([] : List Value).drop 0).take (0 * 2) ++ (xs.drop o).take (i * 2) := hz1
        have hz2 : 0 + i + 1 ≤ c2 ∧ o2 + c2 * 2 ≤ zs2.length ∧ (zs2.drop o2).take ((0 + i + 1) * 2) = (zs1.drop o1).take ((0 + i) * 2) ++ dcl (a, b) := hz2
        have hz3 : 0 + i + 1 + (l.length - i) ≤ c3 ∧ o3 + c3 * 2 ≤ zs3.length ∧ (zs3.drop o3).take ((0 + i + 1 + (l.length - i)) * 2) = (zs2.drop o2).take ((0 + i + 1) * 2) ++ (xs.drop o').take ((l.length - i) * 2) := hz3
        have hlen := insAt_len hi (a, b)
        refine ⟨by omega, hz3.2.1, ?_⟩
        rw [hlen, show (l.length + 1) * 2 = (0 + i + 1 + (l.length - i)) * 2 by omega, hz3.2.2, hz2.2.2, hz1.2.2, hr.pre i hi, hpost]
        simp [insAt]
end Go.Proofs

namespace Go.Proofs
open Go Go.V
set_option maxRecDepth 100000
set_option linter.unusedVariables false

theorem s_ref_DotsHas (v : Nat → Int) (l : List (Int × Int)) (r n : Int) (xs : List Value) (o c : Nat) (te : TypeId) (hr : Row xs o c l) (hl : l.length ≤ 1000000) :
    Ctr Try.prog F_rostrumref7_Dots_Has [.ptr 0 0, .agg (dcells r n)] [.cells (rcs v 1 o l.length c) T_rostrumref7_Dots, .arr xs te]
    (fun x H => x = bv (has v r n || decide ((r, n) ∈ l)) ∧ H = [.cells (rcs v 1 o l.length c) T_rostrumref7_Dots, .arr xs te]) := by
  refine i_rostrumref7_Dots_Has.spec follows ?_
  refine VCall.mk [] (s_ref_Has v r n) ⟨rfl, rfl, rfl⟩ ?_
  rintro _ _ ⟨rfl, rfl⟩
  refine And.intro (fun h => ?_) (fun h => ?_)
  · refine VCall.mk [1] (s_ref_in l r n xs o c te hr hl) ⟨rfl, rfl, rfl⟩ ?_
    rintro _ _ ⟨rfl, rfl⟩
    refine VRet.mk [0, 1] (bv _) [.cells (rcs v 1 o l.length c) T_rostrumref7_Dots, .arr xs te] ⟨rfl, rfl, rfl⟩ ⟨?_, rfl⟩
    show bv _ = bv _
    simp [h]
  · refine VRet.mk [0, 1] (bv true) [.cells (rcs v 1 o l.length c) T_rostrumref7_Dots, .arr xs te] ⟨rfl, rfl, rfl⟩ ⟨?_, rfl⟩
    have h : has v r n = true := h
    show bv _ = bv _
    simp [h]

/-! ### close -/
def mkD (l : List (Int × Int)) : DM := l.map fun d => (d, (), 0)
theorem keysOf_mkD (l : List (Int × Int)) : keysOf (mkD l) = l := by simp [keysOf, mkD, Function.comp_def]
theorem inM_mkD {l : List (Int × Int)} {d : Int × Int} : inM (mkD l) d = true ↔ d ∈ l := by rw [← mem_keysOf, keysOf_mkD]
theorem Rises.nodup {l : List (Int × Int)} (h : Rises l) : l.Nodup := by
  refine List.Pairwise.imp ?_ h
  intro a b hab e
  subst e
  rw [lessD_iff] at hab; omega
theorem rcs_put (v : Nat → Int) (k o n c : Nat) (x : Int) {i : Int} (h : 0 ≤ i ∧ i < 7) : paste (rcs v k o n c) (0 + i.toNat * 1) [iv x] = some (rcs (upv v i.toNat x) k o n c) := vcells_put v x h [.sl k o n c]

/-- What is gone through: the clock, those that stay, those to come. -/
structure CI (S : Int × Int → Prop) (v : Nat → Int) (out rest : List (Int × Int)) : Prop where
  lo : ∀ r, r < 7 → 0 ≤ v r ∧ v r ≤ 1099511627776
  seen : ∀ d, S d ↔ (has v d.1 d.2 = true ∨ d ∈ out ∨ d ∈ rest)
  dots : ∀ d, d ∈ out ++ rest → isDot d.1 d.2 = true
  gap : ∀ d, d ∈ out → v d.1.toNat + 1 < d.2
  up : Rises (out ++ rest)
theorem CI.done {S : Int × Int → Prop} {v : Nat → Int} {out : List (Int × Int)} (h : CI S v out []) : Canon v (mkD out) S ∧ Rises out := by
  have hu : Rises out := by simpa using h.up
  refine ⟨⟨⟨h.lo, ?_, fun d => ?_, fun d hd => ?_⟩, fun d hd => h.gap d (inM_mkD.1 hd)⟩, hu⟩
  · have := keysOf_mkD out; unfold keysOf at this; rw [this]; exact hu.nodup
  · rw [h.seen, inM_mkD]; simp
  · have hd := inM_mkD.1 hd
    have := h.gap d hd
    exact ⟨h.dots d (by simp [hd]), by omega⟩
theorem CI.take {S : Int × Int → Prop} {v : Nat → Int} {out rest : List (Int × Int)} {d : Int × Int} (h : CI S v out (d :: rest)) (hd : d.2 = v d.1.toNat + 1) : CI S (upv v d.1.toNat d.2) out rest := by
  have hdot := isDot_iff.1 (h.dots d (by simp))
  have hup := List.pairwise_append.1 h.up
  constructor
  · intro r hr
    simp only [upv]
    split
    · omega
    · exact h.lo r hr
  · intro x
    rw [h.seen, has_iff, has_iff, List.mem_cons]
    simp only [upv]
    constructor
    · rintro (⟨h1, h2, h3⟩ | h1 | rfl | h1)
      · left
        refine ⟨h1, h2, ?_⟩
        split
        · rename_i e; rw [e] at h3; omega
        · exact h3
      · exact .inr (.inl h1)
      · left; exact ⟨hdot.1, by omega, by simp⟩
      · exact .inr (.inr h1)
    · rintro (⟨h1, h2, h3⟩ | h1 | h1)
      · split at h3
        · rename_i e
          by_cases h4 : x.2 ≤ v x.1.toNat
          · exact .inl ⟨h1, h2, h4⟩
          · right; right; left
            ext
            · omega
            · rw [e] at h4; omega
        · exact .inl ⟨h1, h2, h3⟩
      · exact .inr (.inl h1)
      · exact .inr (.inr (.inr h1))
  · intro x hx
    refine h.dots x ?_
    rcases List.mem_append.1 hx with hx | hx
    · simp [hx]
    · simp [hx]
  · intro x hx
    have hg := h.gap x hx
    have hlt := hup.2.2 x hx d (by simp)
    have hxd := isDot_iff.1 (h.dots x (by simp [hx]))
    rw [lessD_iff] at hlt
    simp only [upv]
    split
    · rename_i e
      rw [e] at hg; omega
    · exact hg
  · have := h.up
    unfold Rises at *
    rw [List.pairwise_append] at this ⊢
    exact ⟨this.1, (List.pairwise_cons.1 this.2.1).2, fun a ha b hb => this.2.2 a ha b (by simp [hb])⟩
theorem CI.keep {S : Int × Int → Prop} {v : Nat → Int} {out rest : List (Int × Int)} {d : Int × Int} (h : CI S v out (d :: rest)) (hn : d.2 ≠ v d.1.toNat + 1) (hd : v d.1.toNat < d.2) : CI S v (out ++ [d]) rest where
  lo := h.lo
  seen := fun x => by rw [h.seen]; simp [or_assoc]
  dots := fun x hx => h.dots x (by simpa using hx)
  gap := fun x hx => by
    rcases List.mem_append.1 hx with hx | hx
    · exact h.gap x hx
    · simp at hx; subst hx; omega
  up := by simpa using h.up
theorem CI.drop {S : Int × Int → Prop} {v : Nat → Int} {out rest : List (Int × Int)} {d : Int × Int} (h : CI S v out (d :: rest)) (hd : ¬ v d.1.toNat < d.2) : CI S v out rest where
  lo := h.lo
  seen := fun x => by
    rw [h.seen, List.mem_cons]
    have hdot := isDot_iff.1 (h.dots d (by simp))
    constructor
    · rintro (h1 | h1 | rfl | h1)
      · exact .inl h1
      · exact .inr (.inl h1)
      · exact .inl (has_iff.2 ⟨hdot.1, hdot.2.1, by omega⟩)
      · exact .inr (.inr h1)
    · rintro (h1 | h1 | h1)
      · exact .inl h1
      · exact .inr (.inl h1)
      · exact .inr (.inr (.inr h1))
  dots := fun x hx => h.dots x (by
    rcases List.mem_append.1 hx with hx | hx
    · simp [hx]
    · simp [hx])
  gap := h.gap
  up := by
    have := h.up
    unfold Rises at *
    rw [List.pairwise_append] at this ⊢
    exact ⟨this.1, (List.pairwise_cons.1 this.2.1).2, fun a ha b hb => this.2.2 a ha b (by simp [hb])⟩

structure LX where
  i : Nat
  v : Nat → Int
  out : List (Int × Int)
  ys : List Value
  o : Nat
  c : Nat
theorem row_nil : Row [] 0 0 [] := ⟨Nat.le_refl _, by simp, rfl⟩
theorem s_ref_close (v : Nat → Int) (l : List (Int × Int)) (S : Int × Int → Prop) (h0 : CI S v [] l) (xs : List Value) (o c : Nat) (te : TypeId) (hr : Row xs o c l) (hl : l.length ≤ 1000000) :
    Ctr Try.prog F_rostrumref7_Dots_close [.ptr 0 0] [.cells (rcs v 1 o l.length c) T_rostrumref7_Dots, .arr xs te]
    (fun x H => x = .tup [] ∧ ∃ v' l' o' c' ys, H = [.cells (rcs v' 2 o' l'.length c') T_rostrumref7_Dots, .arr xs te, .arr ys T_api_Dot] ∧ Row ys o' c' l' ∧ Canon v' (mkD l') S ∧ Rises l') := by
  refine i_rostrumref7_Dots_close.spec follows ?_
  have hrl : o + l.length * 2 ≤ xs.length := by have := hr.1; have := hr.2.1; omega
  refine VLoop.nil T_api_Dot [2] [] ⟨rfl, rfl⟩ ?_
  refine VLoop.mk LX (fun x => [(0, .ptr 0 0), (2, .sl 2 x.o x.out.length x.c), (3, iv x.i)]) (fun x => [.cells (rcs x.v 1 o l.length c) T_rostrumref7_Dots, .arr xs te, .arr x.ys T_api_Dot])
    (fun x => x.i ≤ l.length ∧ CI S x.v x.out (l.drop x.i) ∧ Row x.ys x.o x.c x.out ∧ x.out.length ≤ x.i) (fun x => l.length - x.i) ⟨0, v, [], [], 0, 0⟩ [0, 1, 2] ⟨⟨Nat.zero_le _, h0, row_nil, by simp⟩, rfl, rfl, rfl⟩ ?_
  rintro ⟨i, u, out, ys, o1, c1⟩ ⟨hi, hC, hR, hol⟩ g
  simp only at hi hC hR hol
  refine And.intro (fun h => ?_) (fun h => ?_)
  · have h := of_decide_eq_true h
    have hil : i < l.length := by simp only at h; omega
    have hdr : l.drop i = l[i] :: l.drop (i + 1) := List.drop_eq_getElem_cons hil
    rw [hdr] at hC
    have hdot := isDot_iff.1 (hC.dots l[i] (List.mem_append.2 (.inr List.mem_cons_self)))
    have hul := hC.lo l[i].1.toNat (by omega)
    have hmu : l.length - (i + 1) < l.length - i := by omega
    refine And.intro ⟨Int.natCast_nonneg i, h, hrl⟩ ?_
    refine Exists.intro _ (And.intro (hr.cut i hil) ?_)
    have hw : IntKind.i64.wrap (u l[i].1.toNat + 1) = u l[i].1.toNat + 1 := wrap64 (by omega)
    refine And.intro hdot.1 (Exists.intro _ (And.intro (rcs_get u 1 o l.length c hdot.1) ?_))
    refine Exists.intro _ (And.intro hw ?_)
    clear hw
    have hw2 : IntKind.i64.wrap ((i : Int) + 1) = ((i + 1 : Nat) : Int) := wrap64 (by omega)
    refine And.intro (fun h2 => ?_) (fun h2 => ?_)
    · have h2 := of_decide_eq_true h2
      refine And.intro hdot.1 (Exists.intro _ (And.intro (rcs_put u 1 o l.length c l[i].2 hdot.1) ?_))
      refine Exists.intro _ (And.intro hw2 ?_)
      exact Exists.intro ⟨i + 1, upv u l[i].1.toNat l[i].2, out, ys, o1, c1⟩ (Exists.intro [0, 1, 2] (And.intro ⟨⟨hil, hC.take h2, hR, by simp only; omega⟩, hmu⟩ ⟨rfl, rfl, rfl⟩))
    · have h2 := of_decide_eq_false h2
      refine And.intro hdot.1 (Exists.intro _ (And.intro (rcs_get u 1 o l.length c hdot.1) ?_))
      refine And.intro (fun h3 => ?_) (fun h3 => ?_)
      · have h3 := of_decide_eq_true h3
        refine And.intro ⟨⟨hR.1, hR.2.1, rfl⟩, ⟨rfl, rfl⟩, by simp only; omega⟩ ?_
        intro zs o2 c2 hz
        refine Exists.intro _ (And.intro hw2 ?_)
        refine Exists.intro ⟨i + 1, u, out ++ [l[i]], zs, o2, c2⟩ (Exists.intro [0, 1, 5] (And.intro ⟨⟨hil, hC.keep h2 h3, ⟨?_, hz.2.1, ?_⟩, by simp; omega⟩, hmu⟩ ⟨?_, rfl, rfl⟩))
        · have := hz.1; simp only at this; simp; omega
        · have := hz.2.2
          simp only at this
          rw [hR.2.2] at this
          simpa using this
        · show [_, nkb (.sl 5 o2 (out.length + 1) c2), _] = [_, nkb (.sl 5 o2 (out ++ [l[i]]).length c2), _]
          rw [List.length_append]; rfl
      · have h3 := of_decide_eq_false h3
        refine Exists.intro _ (And.intro hw2 ?_)
        exact Exists.intro ⟨i + 1, u, out, ys, o1, c1⟩ (Exists.intro [0, 1, 2] (And.intro ⟨⟨hil, hC.drop h3, hR, by simp only; omega⟩, hmu⟩ ⟨rfl, rfl, rfl⟩))
  · have h := of_decide_eq_false h
    have hil : i = l.length := by simp only at h; omega
    subst hil
    rw [List.drop_length] at hC
    obtain ⟨hCan, hU⟩ := hC.done
    exact VRet.mk [0, 1, 2] (.tup []) [.cells (rcs u 2 o1 out.length c1) T_rostrumref7_Dots, .arr xs te, .arr ys T_api_Dot] ⟨rfl, rfl, rfl⟩ ⟨rfl, u, out, o1, c1, ys, rfl, hR, hCan, hU⟩
end Go.Proofs

namespace Go.Proofs
open Go Go.V
set_option maxRecDepth 100000
set_option linter.unusedVariables false

theorem lessD_trans {x y z : Int × Int} (h : lessD x y = true) (h2 : lessD y z = true) : lessD x z = true := by
  rw [lessD_iff] at *; omega
theorem mem_insAt {l : List (Int × Int)} {k : Nat} {d x : Int × Int} : x ∈ insAt l k d ↔ (x = d ∨ x ∈ l) := by
  have : x ∈ l ↔ (x ∈ l.take k ∨ x ∈ l.drop k) := by rw [← List.mem_append, List.take_append_drop]
  rw [this]
  simp only [insAt, List.mem_append, List.mem_singleton]
  constructor
  · rintro ((h | h) | h)
    · exact .inr (.inl h)
    · exact .inl h
    · exact .inr (.inr h)
  · rintro (h | h | h)
    · exact .inl (.inr h)
    · exact .inl (.inl h)
    · exact .inr h
theorem Rises.insAt {l : List (Int × Int)} (h : Rises l) {k : Nat} {d : Int × Int} (h1 : ∀ y ∈ l.take k, lessD y d = true) (h2 : ∀ h : k < l.length, lessD l[k] d = false) (h3 : ∀ h : k < l.length, l[k] ≠ d) : Rises (insAt l k d) := by
  have hd : ∀ y ∈ l.drop k, lessD d y = true := by
    intro y hy
    by_cases hk : k < l.length
    · have hlk : lessD d l[k] = true := by
        have a := h2 hk
        have b := h3 hk
        rw [Bool.eq_false_iff, Ne, lessD_iff] at a
        rw [lessD_iff]
        have : ¬ (l[k].1 = d.1 ∧ l[k].2 = d.2) := fun e => b (Prod.ext e.1 e.2)
        omega
      rw [List.drop_eq_getElem_cons hk] at hy
      rcases List.mem_cons.1 hy with rfl | hy
      · exact hlk
      · have hp : Rises (l.drop k) := List.Pairwise.sublist (List.drop_sublist k l) h
        rw [List.drop_eq_getElem_cons hk] at hp
        exact lessD_trans hlk ((List.pairwise_cons.1 hp).1 y hy)
    · rw [List.drop_eq_nil_of_le (by omega)] at hy; simp at hy
  unfold Rises Proofs.insAt
  rw [List.append_assoc, List.pairwise_append]
  refine ⟨List.Pairwise.sublist (List.take_sublist k l) h, ?_, ?_⟩
  · rw [List.singleton_append, List.pairwise_cons]
    exact ⟨hd, List.Pairwise.sublist (List.drop_sublist k l) h⟩
  · intro a ha b hb
    rcases List.mem_append.1 hb with hb | hb
    · simp at hb; subst hb; exact h1 a ha
    · exact lessD_trans (h1 a ha) (hd b hb)

/-- The reference's state. -/
structure RC (v : Nat → Int) (l : List (Int × Int)) (S : Int × Int → Prop) : Prop where
  can : Canon v (mkD l) S
  up : Rises l
theorem mkD_len (l : List (Int × Int)) : (mkD l).length = l.length := by simp [mkD]
theorem RC.ci {v : Nat → Int} {l : List (Int × Int)} {S : Int × Int → Prop} (h : RC v l S) {k : Nat} {d : Int × Int} (hd : isDot d.1 d.2 = true) (h1 : ∀ y ∈ l.take k, lessD y d = true) (h2 : ∀ h : k < l.length, lessD l[k] d = false) (h3 : ∀ h : k < l.length, l[k] ≠ d) :
    CI (fun x => x = d ∨ S x) v [] (insAt l k d) where
  lo := h.can.lo
  seen := fun x => by
    rw [h.can.seen, inM_mkD, mem_insAt]
    constructor
    · rintro (h | h | h)
      · exact .inr (.inr (.inl h))
      · exact .inl h
      · exact .inr (.inr (.inr h))
    · rintro (h | h | h | h)
      · exact .inr (.inl h)
      · simp at h
      · exact .inl h
      · exact .inr (.inr h)
  dots := fun x hx => by
    rw [List.nil_append, mem_insAt] at hx
    rcases hx with rfl | hx
    · exact hd
    · exact (h.can.far x (inM_mkD.2 hx)).1
  gap := fun x hx => by simp at hx
  up := by rw [List.nil_append]; exact h.up.insAt h1 h2 h3

theorem s_ref_Add (v : Nat → Int) (l : List (Int × Int)) (S : Int × Int → Prop) (h0 : RC v l S) (r n : Int) (xs : List Value) (o c : Nat) (te : TypeId) (hr : Row xs o c l) (hl : l.length ≤ 900000) :
    Ctr Try.prog F_rostrumref7_Dots_Add [.ptr 0 0, .agg (dcells r n)] [.cells (rcs v 1 o l.length c) T_rostrumref7_Dots, .arr xs te]
    (fun x H => ∃ a e v' l', x = .tup [bv a, iv e] ∧ AddR v (mkD l) S (r, n) a e v' (mkD l') ∧ Rises l' ∧ l'.length ≤ l.length + 1 ∧
      ((v' = v ∧ l' = l ∧ H = [.cells (rcs v 1 o l.length c) T_rostrumref7_Dots, .arr xs te]) ∨
       (∃ o' c' ys, H = [.cells (rcs v' 2 o' l'.length c') T_rostrumref7_Dots, .arr xs te, .arr ys T_api_Dot] ∧ Row ys o' c' l'))) := by
  refine i_rostrumref7_Dots_Add.spec follows ?_
  refine VCall.mk [] (s_ref_May r n) ⟨rfl, rfl, rfl⟩ ?_
  rintro _ _ ⟨rfl, rfl⟩
  refine And.intro (fun h1 => ?_) (fun h1 => ?_)
  · exact VRet.mk [0, 1] (.tup [bv false, iv 1]) [.cells (rcs v 1 o l.length c) T_rostrumref7_Dots, .arr xs te] ⟨rfl, rfl, rfl⟩ ⟨_, _, v, l, rfl, .inl ⟨by simpa using h1, rfl, rfl, rfl, rfl⟩, h0.up, by omega, .inl ⟨rfl, rfl, rfl⟩⟩
  have hd : isDot r n = true := by simpa using h1
  refine VCall.mk [0, 1] (s_ref_DotsHas v l r n xs o c te hr (by omega)) ⟨rfl, rfl, rfl⟩ ?_
  rintro _ _ ⟨rfl, rfl⟩
  have hS : S (r, n) ↔ (has v r n || decide ((r, n) ∈ l)) = true := by
    rw [h0.can.seen, inM_mkD]; simp
  refine And.intro (fun h2 => ?_) (fun h2 => ?_)
  · exact VRet.mk [0, 1] (.tup [bv false, iv 0]) [.cells (rcs v 1 o l.length c) T_rostrumref7_Dots, .arr xs te] ⟨rfl, rfl, rfl⟩ ⟨_, _, v, l, rfl, .inr (.inl ⟨hd, hS.2 h2, rfl, rfl, rfl, rfl⟩), h0.up, by omega, .inl ⟨rfl, rfl, rfl⟩⟩
  have hns : ¬ S (r, n) := by rw [hS, h2]; simp
  have hnl : (r, n) ∉ l := fun e => hns (hS.2 (by simp [e]))
  have hrr := isDot_rep hd
  have hv := h0.can.lo r.toNat (by omega)
  have hw : IntKind.i64.wrap (v r.toNat + 1) = v r.toNat + 1 := wrap64 (by omega)
  refine And.intro hrr (Exists.intro _ (And.intro (rcs_get v 1 o l.length c hrr) ?_))
  refine Exists.intro _ (And.intro hw ?_)
  clear hw
  refine And.intro (fun h3 => ?_) (fun h3 => ?_)
  · have h3 : n ≠ v r.toNat + 1 := by simpa using h3
    refine And.intro (fun h4 => ?_) (fun h4 => ?_)
    · have h4 := of_decide_eq_true h4
      exact VRet.mk [0, 1] (.tup [bv false, iv 2]) [.cells (rcs v 1 o l.length c) T_rostrumref7_Dots, .arr xs te] ⟨rfl, rfl, rfl⟩ ⟨_, _, v, l, rfl, .inr (.inr (.inl ⟨hd, hns, h3, by rw [mkD_len]; omega, rfl, rfl, rfl, rfl⟩)), h0.up, by omega, .inl ⟨rfl, rfl, rfl⟩⟩
    · have h4 := of_decide_eq_false h4
      refine VCall.mk [1] (s_insert l r n xs o c te hr (by omega)) ⟨rfl, rfl, rfl⟩ ?_
      rintro _ _ ⟨k, hk, q1, q2, hcase⟩
      rcases hcase with ⟨hkl, e, _⟩ | ⟨q3, o1, c1, ys, rfl, rfl, hRow⟩
      · exact absurd (e ▸ List.getElem_mem hkl) hnl
      refine VCall.mk [0, 3] (s_ref_close v (insAt l k (r, n)) (fun x => x = (r, n) ∨ S x) (h0.ci hd q1 q2 q3) ys o1 c1 T_api_Dot hRow (by rw [insAt_len hk]; omega)) ⟨rfl, rfl, rfl⟩ ?_
      rintro _ _ ⟨rfl, v', l', o2, c2, ys2, rfl, hRow2, hCan, hUp⟩
      have hll : l'.length ≤ l.length + 1 := by
        have := nodup_len hUp.nodup (m := insAt l k (r, n)) (fun x hx => by
          have h6 := (hCan.seen x).2 (.inr (inM_mkD.2 hx))
          rw [mem_insAt]
          rcases h6 with h6 | h6
          · exact .inl h6
          · rcases (h0.can.seen x).1 h6 with h7 | h7
            · exfalso
              have h8 := hCan.far x (inM_mkD.2 hx)
              have h9 := (h0.can.vle hCan (fun d hd => .inr hd) x.1.toNat (by have := isDot_rep h8.1; omega))
              have := (has_iff.1 h7).2.2
              omega
            · exact .inr (inM_mkD.1 h7))
        rw [insAt_len hk] at this; exact this
      exact VRet.mk [0, 1, 4] (.tup [bv true, iv 0]) [.cells (rcs v' 2 o2 l'.length c2) T_rostrumref7_Dots, .arr xs te, .arr ys2 T_api_Dot] ⟨rfl, rfl, rfl⟩ ⟨_, _, v', l', rfl, .inr (.inr (.inr ⟨hd, hns, .inr (by rw [mkD_len]; omega), rfl, rfl, hCan⟩)), hUp, hll, .inr ⟨o2, c2, ys2, rfl, hRow2⟩⟩
  · have h3 : n = v r.toNat + 1 := by simpa using h3
    refine VCall.mk [1] (s_insert l r n xs o c te hr (by omega)) ⟨rfl, rfl, rfl⟩ ?_
    rintro _ _ ⟨k, hk, q1, q2, hcase⟩
    rcases hcase with ⟨hkl, e, _⟩ | ⟨q3, o1, c1, ys, rfl, rfl, hRow⟩
    · exact absurd (e ▸ List.getElem_mem hkl) hnl
    refine VCall.mk [0, 3] (s_ref_close v (insAt l k (r, n)) (fun x => x = (r, n) ∨ S x) (h0.ci hd q1 q2 q3) ys o1 c1 T_api_Dot hRow (by rw [insAt_len hk]; omega)) ⟨rfl, rfl, rfl⟩ ?_
    rintro _ _ ⟨rfl, v', l', o2, c2, ys2, rfl, hRow2, hCan, hUp⟩
    have hll : l'.length ≤ l.length + 1 := by
      have := nodup_len hUp.nodup (m := insAt l k (r, n)) (fun x hx => by
        have h6 := (hCan.seen x).2 (.inr (inM_mkD.2 hx))
        rw [mem_insAt]
        rcases h6 with h6 | h6
        · exact .inl h6
        · rcases (h0.can.seen x).1 h6 with h7 | h7
          · exfalso
            have h8 := hCan.far x (inM_mkD.2 hx)
            have h9 := (h0.can.vle hCan (fun d hd => .inr hd) x.1.toNat (by have := isDot_rep h8.1; omega))
            have := (has_iff.1 h7).2.2
            omega
          · exact .inr (inM_mkD.1 h7))
      rw [insAt_len hk] at this; exact this
    exact VRet.mk [0, 1, 4] (.tup [bv true, iv 0]) [.cells (rcs v' 2 o2 l'.length c2) T_rostrumref7_Dots, .arr xs te, .arr ys2 T_api_Dot] ⟨rfl, rfl, rfl⟩ ⟨_, _, v', l', rfl, .inr (.inr (.inr ⟨hd, hns, .inl h3, rfl, rfl, hCan⟩)), hUp, hll, .inr ⟨o2, c2, ys2, rfl, hRow2⟩⟩
end Go.Proofs

