/- Part of the proof that the statement named in the last file holds: lemmas of the prover's own. No conditions. -/
import Derived.Test.YtnhhjfkcmhbblaaDoorDA
import Derived.Test.YtnhhjfkcmhbblaaDoorVD
namespace Go.Proofs
open Go Go.V Go.Lib
set_option maxRecDepth 100000
set_option linter.unusedVariables false

theorem s_ValueApart (h : Nat → Option Obj) (k : Int) (x : ByteArray) (by' : Int) : Ctr Tryd.prog F_rostrumlaw12_ValueApart [iv k, .raw (.string x), iv by'] [.heap h] (fun r H => r = bv true ∧ H = [.heap h]) := by
  refine i_rostrumlaw12_ValueApart.spec follows ?_
  refine VCall.mk [] s_awake ⟨rfl, rfl, rfl⟩ ?_
  rintro _ _ ⟨rfl, rfl⟩
  refine And.intro (fun h => absurd h (by decide)) (fun _ => ?_)
  refine And.intro (fun _ => VRet.mk [0] (bv true) [.heap h] ⟨rfl, rfl, rfl⟩ ⟨rfl, rfl⟩) (fun hx => ?_)
  refine VCall.mk [] (s_value_New k) ⟨rfl, rfl, rfl⟩ ?_
  rintro _ _ (⟨rfl, rfl, rfl⟩ | ⟨rfl, rfl, rfl⟩ | ⟨rfl, rfl, rfl⟩ | ⟨hk, rfl, rfl⟩)
  · refine VCall.mk [] (s_value_New 1) ⟨rfl, rfl, rfl⟩ ?_
    rintro _ _ (⟨_, rfl, rfl⟩ | ⟨h, _⟩ | ⟨h, _⟩ | ⟨h, _⟩)
    rotate_left 1
    · omega
    · omega
    · omega
    refine And.intro (fun _ => ?_) (fun h => absurd (of_decide_eq_true h) (by decide))
    refine And.intro (fun h => absurd (of_decide_eq_true h) (by decide)) (fun _ => ?_)
    refine And.intro (fun _ => ?_) (fun h => absurd h (by decide))
    refine And.intro (fun _ => ?_) (fun h => absurd h (by decide))
    refine VCall.mk [4, 5, 6] s_Show_S ⟨rfl, rfl, rfl⟩ ?_
    rintro _ _ ⟨rfl, rfl⟩
    refine VCall.mk [1, 2, 3] (s_AsSet_S [] 0) ⟨rfl, rfl, rfl⟩ ?_
    rintro _ _ ⟨rfl, rfl⟩
    refine And.intro (fun _ => ?_) (fun h => absurd h (by decide))
    refine VCall.mk [1, 2, 3] (s_Add0 x) ⟨rfl, rfl, rfl⟩ ?_
    rintro _ _ ⟨e, es', c, rfl, rfl⟩
    refine VCall.mk [1, 2, 3] (s_AsNumber_S es' c) ⟨rfl, rfl, rfl⟩ ?_
    rintro _ _ ⟨rfl, rfl⟩
    refine And.intro (fun h => absurd h (by decide)) (fun _ => ?_)
    refine VCall.mk [1, 2, 3] (s_AsText_S es' c) ⟨rfl, rfl, rfl⟩ ?_
    rintro _ _ ⟨rfl, rfl⟩
    refine And.intro (fun h => absurd h (by decide)) (fun _ => ?_)
    refine VCall.mk [4, 5, 6] s_Show_S ⟨rfl, rfl, rfl⟩ ?_
    rintro _ _ ⟨rfl, rfl⟩
    refine And.intro (fun _ => ?_) (fun h => absurd h (by rw [beq_self_eq_true]; decide))
    refine Exists.intro F_value_Set_Kind (And.intro ⟨m_S, by kernel_rfl⟩ ?_)
    refine VCall.mk [1, 2, 3] (s_Kind_S es' c) ⟨rfl, rfl, rfl⟩ ?_
    rintro _ _ ⟨rfl, rfl⟩
    refine And.intro (fun _ => ?_) (fun h => absurd (of_decide_eq_false h) (by decide))
    refine Exists.intro F_value_Set_Kind (And.intro ⟨m_S, by kernel_rfl⟩ ?_)
    refine VCall.mk [4, 5, 6] (s_Kind_S [] 0) ⟨rfl, rfl, rfl⟩ ?_
    rintro _ _ ⟨rfl, rfl⟩
    exact VRet.mk [0] (bv (decide ((1 : Int) = 1))) [.heap h] ⟨rfl, rfl, rfl⟩ ⟨by rw [decide_eq_true rfl], rfl⟩
  · refine VCall.mk [] (s_value_New 2) ⟨rfl, rfl, rfl⟩ ?_
    rintro _ _ (⟨h, _⟩ | ⟨_, rfl, rfl⟩ | ⟨h, _⟩ | ⟨h, _⟩)
    · omega
    rotate_left 1
    · omega
    · omega
    refine And.intro (fun _ => ?_) (fun h => absurd (of_decide_eq_true h) (by decide))
    refine And.intro (fun h => absurd (of_decide_eq_true h) (by decide)) (fun _ => ?_)
    refine And.intro (fun _ => ?_) (fun h => absurd h (by decide))
    refine And.intro (fun _ => ?_) (fun h => absurd h (by decide))
    refine VCall.mk [2] s_Show_N ⟨rfl, rfl, rfl⟩ ?_
    rintro _ _ ⟨rfl, rfl⟩
    refine VCall.mk [1] (s_AsSet_N 0 0) ⟨rfl, rfl, rfl⟩ ?_
    rintro _ _ ⟨rfl, rfl⟩
    refine And.intro (fun h => absurd h (by decide)) (fun _ => ?_)
    refine VCall.mk [1] (s_AsNumber_N 0 0) ⟨rfl, rfl, rfl⟩ ?_
    rintro _ _ ⟨rfl, rfl⟩
    refine And.intro (fun _ => ?_) (fun h => absurd h (by decide))
    refine VCall.mk [1] (s_TAdd0 by') ⟨rfl, rfl, rfl⟩ ?_
    rintro _ _ ⟨e, p, q, rfl, rfl⟩
    refine VCall.mk [1] (s_AsText_N p q) ⟨rfl, rfl, rfl⟩ ?_
    rintro _ _ ⟨rfl, rfl⟩
    refine And.intro (fun h => absurd h (by decide)) (fun _ => ?_)
    refine VCall.mk [2] s_Show_N ⟨rfl, rfl, rfl⟩ ?_
    rintro _ _ ⟨rfl, rfl⟩
    refine And.intro (fun _ => ?_) (fun h => absurd h (by rw [beq_self_eq_true]; decide))
    refine Exists.intro F_value_Number_Kind (And.intro ⟨m_N, by kernel_rfl⟩ ?_)
    refine VCall.mk [1] (s_Kind_N p q) ⟨rfl, rfl, rfl⟩ ?_
    rintro _ _ ⟨rfl, rfl⟩
    refine And.intro (fun _ => ?_) (fun h => absurd (of_decide_eq_false h) (by decide))
    refine Exists.intro F_value_Number_Kind (And.intro ⟨m_N, by kernel_rfl⟩ ?_)
    refine VCall.mk [2] (s_Kind_N 0 0) ⟨rfl, rfl, rfl⟩ ?_
    rintro _ _ ⟨rfl, rfl⟩
    exact VRet.mk [0] (bv (decide ((2 : Int) = 2))) [.heap h] ⟨rfl, rfl, rfl⟩ ⟨by rw [decide_eq_true rfl], rfl⟩
  · refine VCall.mk [] (s_value_New 3) ⟨rfl, rfl, rfl⟩ ?_
    rintro _ _ (⟨h, _⟩ | ⟨h, _⟩ | ⟨_, rfl, rfl⟩ | ⟨h, _⟩)
    · omega
    · omega
    rotate_left 1
    · omega
    refine And.intro (fun _ => ?_) (fun h => absurd (of_decide_eq_true h) (by decide))
    refine And.intro (fun h => absurd (of_decide_eq_true h) (by decide)) (fun _ => ?_)
    refine And.intro (fun _ => ?_) (fun h => absurd h (by decide))
    refine And.intro (fun _ => ?_) (fun h => absurd h (by decide))
    refine VCall.mk [2] s_Show_T ⟨rfl, rfl, rfl⟩ ?_
    rintro _ _ ⟨rfl, rfl⟩
    refine VCall.mk [1] (s_AsSet_T false (ByteArray.mk #[]) 0 0 0) ⟨rfl, rfl, rfl⟩ ?_
    rintro _ _ ⟨rfl, rfl⟩
    refine And.intro (fun h => absurd h (by decide)) (fun _ => ?_)
    refine VCall.mk [1] (s_AsNumber_T false (ByteArray.mk #[]) 0 0 0) ⟨rfl, rfl, rfl⟩ ?_
    rintro _ _ ⟨rfl, rfl⟩
    refine And.intro (fun h => absurd h (by decide)) (fun _ => ?_)
    refine VCall.mk [1] (s_AsText_T false (ByteArray.mk #[]) 0 0 0) ⟨rfl, rfl, rfl⟩ ?_
    rintro _ _ ⟨rfl, rfl⟩
    refine And.intro (fun _ => ?_) (fun h => absurd h (by decide))
    refine VCall.mk [1] (s_Write0 x) ⟨rfl, rfl, rfl⟩ ?_
    rintro _ _ ⟨b1, e, b2, y, t, p, n, rfl, rfl⟩
    refine VCall.mk [2] s_Show_T ⟨rfl, rfl, rfl⟩ ?_
    rintro _ _ ⟨rfl, rfl⟩
    refine And.intro (fun _ => ?_) (fun h => absurd h (by rw [beq_self_eq_true]; decide))
    refine Exists.intro F_value_Text_Kind (And.intro ⟨m_T, by kernel_rfl⟩ ?_)
    refine VCall.mk [1] (s_Kind_T b2 y t p n) ⟨rfl, rfl, rfl⟩ ?_
    rintro _ _ ⟨rfl, rfl⟩
    refine And.intro (fun _ => ?_) (fun h => absurd (of_decide_eq_false h) (by decide))
    refine Exists.intro F_value_Text_Kind (And.intro ⟨m_T, by kernel_rfl⟩ ?_)
    refine VCall.mk [2] (s_Kind_T false (ByteArray.mk #[]) 0 0 0) ⟨rfl, rfl, rfl⟩ ?_
    rintro _ _ ⟨rfl, rfl⟩
    exact VRet.mk [0] (bv (decide ((3 : Int) = 3))) [.heap h] ⟨rfl, rfl, rfl⟩ ⟨by rw [decide_eq_true rfl], rfl⟩
  · refine VCall.mk [] (s_value_New k) ⟨rfl, rfl, rfl⟩ ?_
    rintro _ _ (⟨h, _⟩ | ⟨h, _⟩ | ⟨h, _⟩ | ⟨_, rfl, rfl⟩)
    · omega
    · omega
    · omega
    refine And.intro (fun h1 => ?_) (fun _ => ?_)
    · have h1 := of_decide_eq_false h1
      refine And.intro (fun _ => ?_) (fun h2 => absurd (of_decide_eq_false h2) (by omega))
      refine And.intro (fun _ => ?_) (fun h => absurd (of_decide_eq_false h) (by decide))
      refine And.intro (fun _ => ?_) (fun h => absurd (of_decide_eq_false h) (by decide))
      exact VRet.mk [0] (bv true) [.heap h] ⟨rfl, rfl, rfl⟩ ⟨rfl, rfl⟩
    · refine And.intro (fun _ => ?_) (fun h => absurd (of_decide_eq_false h) (by decide))
      refine And.intro (fun _ => ?_) (fun h => absurd (of_decide_eq_false h) (by decide))
      exact VRet.mk [0] (bv true) [.heap h] ⟨rfl, rfl, rfl⟩ ⟨rfl, rfl⟩
end Go.Proofs

namespace Go.Proofs
open Go Go.V Go.Lib
set_option maxRecDepth 100000
set_option linter.unusedVariables false

theorem keyT_Str {mt et : TypeId} (h : Tryd.prog.underlying mt = some (.map T_string et)) : KeyT Tryd.prog mt et encT where
  ex := by
    have h1 : clsT Tryd.prog 2 T_string = some [.s] := by kernel_rfl
    have h2 : isAggT Tryd.prog T_string = some false := by kernel_rfl
    refine ⟨T_string, 2, _, h, by omega, by omega, h1, fun a => ⟨[.string a], by simp [mkV, h2], rfl, fun b ys hb hl => ?_⟩⟩
    match ys, hl with
    | [y], _ =>
      have hy : y = .string b := by simpa [mkV, h2] using hb.symm
      subst hy
      refine ⟨a == b, by simp [eqV, eq1V], ?_⟩
      cases a with | mk x => cases b with | mk z =>
        show (x == z) = true ↔ _
        simp
  bits := fun a => by
    cases a with | mk x =>
      show (x == x) = true
      exact beq_self_eq_true x
abbrev encV (v : Nat → Int) : Value := .agg #[.int .i64 (v 0), .int .i64 (v 1), .int .i64 (v 2), .int .i64 (v 3), .int .i64 (v 4), .int .i64 (v 5), .int .i64 (v 6)]
theorem kG : KeyT Tryd.prog T_map_string_vec_Vec T_vec_Vec encT := keyT_Str (by kernel_rfl)
def vz : Nat → Int := fun _ => 0
theorem lookG (ms : List (ByteArray × (Nat → Int) × Nat)) (x : ByteArray) : LookupIs Tryd.prog T_map_string_vec_Vec (ents encT encV ms) (encT x) (encV ((MP.get ms x).getD vz)) ((MP.get ms x).isSome) := by
  have := lookup_is (encv := encV) kG (z := encV vz) (by kernel_rfl) ms x
  cases h : MP.get ms x <;> rw [h] at this <;> exact this
theorem has_vz (r n : Int) (h : 1 ≤ n) : has vz r n = false := by
  have : ¬ n ≤ 0 := by omega
  simp [has, vz, this]
theorem s_live0 (es' : List MapEntry) (c : Nat) (r n : Int) (hn : 1 ≤ n) (x : ByteArray) : Ctr Tryd.prog F_orset_Set_live [.ptr 0 0, .agg (dcells r n), .raw (.string x)] (SG es' c) (fun v H => v = bv true ∧ H = SG es' c) := by
  refine i_orset_Set_live.spec follows ?_
  refine Exists.intro (.agg (vcells ((MP.get ([] : List (ByteArray × (Nat → Int) × Nat)) x).getD vz))) (Exists.intro _ (Exists.intro _ (And.intro (lookG [] x) (And.intro rfl ?_))))
  refine VCall.mk [] (s_vec_Has _ r n) ⟨rfl, rfl, rfl⟩ ?_
  rintro _ _ ⟨rfl, rfl⟩
  exact VRet.mk [0, 1, 2] (bv (!has ((MP.get ([] : List (ByteArray × (Nat → Int) × Nat)) x).getD vz) r n)) (SG es' c) ⟨rfl, rfl, rfl⟩ ⟨by rw [get_nil, Option.getD_none, has_vz r n hn]; rfl, rfl⟩
/-- The two that are told of. -/
abbrev M2 : List ((Int × Int) × ByteArray × Nat) := [((0, 1), ByteArray.mk #[98], 0), ((0, 2), ByteArray.mk #[97], 1)]
theorem s_Add1 : Ctr Tryd.prog F_orset_Set_Add [.ptr 0 0, .agg (dcells 0 1), .raw (.string (ByteArray.mk #[98]))] SE (fun r H => r = iv 0 ∧ H = SG (ents encD encT [((0, 1), ByteArray.mk #[98], 0)]) 1) := by
  refine i_orset_Set_Add.spec follows ?_
  refine VCall.mk [] (s_vec_Dot 0 1) ⟨rfl, rfl, rfl⟩ ?_
  rintro _ _ ⟨rfl, rfl⟩
  refine And.intro (fun _ => ?_) (fun h => absurd h (by decide))
  refine And.intro (fun h => absurd (of_decide_eq_true h) (by decide)) (fun _ => ?_)
  refine Exists.intro (.raw (encT ((MP.get ([] : List ((Int × Int) × ByteArray × Nat)) (0, 1)).getD (ByteArray.mk #[])))) (Exists.intro _ (Exists.intro _ (And.intro (lookT [] (0, 1)) (And.intro rfl ?_))))
  refine And.intro (fun h => absurd h (by simp [get_nil])) (fun _ => ?_)
  refine Exists.intro _ (Exists.intro _ (And.intro (update_is (encv := encT) kT [] 0 (0, 1) (ByteArray.mk #[98])) ?_))
  exact VRet.mk [0, 1, 2] (iv 0) (SG (ents encD encT (MP.put [] (0, 1) (ByteArray.mk #[98]) 0)) (if (MP.get ([] : List ((Int × Int) × ByteArray × Nat)) (0, 1)).isSome then 0 else 0 + 1)) ⟨rfl, rfl, rfl⟩ ⟨rfl, rfl⟩
theorem s_Add2 : Ctr Tryd.prog F_orset_Set_Add [.ptr 0 0, .agg (dcells 0 2), .raw (.string (ByteArray.mk #[97]))] (SG (ents encD encT [((0, 1), ByteArray.mk #[98], 0)]) 1) (fun r H => r = iv 0 ∧ H = SG (ents encD encT M2) 2) := by
  refine i_orset_Set_Add.spec follows ?_
  refine VCall.mk [] (s_vec_Dot 0 2) ⟨rfl, rfl, rfl⟩ ?_
  rintro _ _ ⟨rfl, rfl⟩
  refine And.intro (fun _ => ?_) (fun h => absurd h (by decide))
  refine And.intro (fun h => absurd (of_decide_eq_true h) (by decide)) (fun _ => ?_)
  have hm : MP.get [(((0, 1) : Int × Int), ByteArray.mk #[98], 0)] (0, 2) = none := by decide
  refine Exists.intro (.raw (encT ((MP.get [(((0, 1) : Int × Int), ByteArray.mk #[98], 0)] (0, 2)).getD (ByteArray.mk #[])))) (Exists.intro _ (Exists.intro _ (And.intro (lookT [((0, 1), ByteArray.mk #[98], 0)] (0, 2)) (And.intro rfl ?_))))
  refine And.intro (fun h => absurd h (by rw [hm]; decide)) (fun _ => ?_)
  refine Exists.intro _ (Exists.intro _ (And.intro (update_is (encv := encT) kT [((0, 1), ByteArray.mk #[98], 0)] 1 (0, 2) (ByteArray.mk #[97])) ?_))
  have hp : MP.put [(((0, 1) : Int × Int), ByteArray.mk #[98], 0)] (0, 2) (ByteArray.mk #[97]) 1 = M2 := by rfl
  exact VRet.mk [0, 1, 2] (iv 0) (SG (ents encD encT (MP.put [((0, 1), ByteArray.mk #[98], 0)] (0, 2) (ByteArray.mk #[97]) 1)) (if (MP.get [(((0, 1) : Int × Int), ByteArray.mk #[98], 0)] (0, 2)).isSome then 1 else 1 + 1)) ⟨rfl, rfl, rfl⟩ ⟨rfl, by rw [hp, hm]; rfl⟩
end Go.Proofs

namespace Go.Proofs
open Go Go.V Go.Lib
set_option maxRecDepth 100000
set_option linter.unusedVariables false

abbrev tcl (e : (Int × Int) × ByteArray × Nat) : List Value := [.string e.2.1]
abbrev txt (e : (Int × Int) × ByteArray × Nat) : List UInt8 := e.2.1.data.toList
theorem tcl_st (l : List ((Int × Int) × ByteArray × Nat)) : l.flatMap tcl = (l.map txt).flatMap stcl := by
  induction l with
  | nil => rfl
  | cons e l ih => rw [List.flatMap_cons, List.map_cons, List.flatMap_cons, ih]
theorem snocRow {α : Type} {cl : α → List Value} {k : Nat} {xs zs : List Value} {o c o' cp n : Nat} {d : List α} {x : α} (h : RowG cl k xs o c d) (hn : n = d.length) (h1 : n + 1 ≤ cp) (h2 : o' + cp * k ≤ zs.length) (h3 : (zs.drop o').take ((n + 1) * k) = (xs.drop o).take (n * k) ++ cl x) :
    RowG cl k zs o' cp (d ++ [x]) := by
  subst hn
  refine ⟨by simpa using h1, h2, ?_⟩
  rw [List.length_append, List.flatMap_append]
  rw [h.2.2] at h3
  simpa using h3
theorem sort_ctr (d : List (List UInt8)) (xs : List Value) (o c : Nat) (hr : RowG stcl 1 xs o c d) (hl : d.length ≤ 100000) :
    Ctr Tryd.prog F_slices_Sort_sl_string_string [.sl 0 o d.length c] [.arr xs T_string] (fun x H => ∃ xs', x = .tup [] ∧ H = [.arr xs' T_string] ∧ RowG stcl 1 xs' o c (d.mergeSort fun x y => decide (x ≤ y))) := by
  obtain ⟨h1, h2, h3⟩ := hr
  rw [Nat.mul_one] at h3
  have h := sortS_ctr Tryd.laysSort (H := [.arr xs T_string]) (j := 0) (off := o) (cap := c) (xs := xs) (e := T_string) rfl d h3 (by omega) (by omega)
  intro ρ g w hS hb
  refine Calls.mono (h ρ g w hS hb) ?_
  rintro e w' ⟨ρ', v, H', he, hS', hρ, hl', hbl, rfl, rfl⟩
  have hm : (d.mergeSort fun x y => decide (x ≤ y)).length = d.length := List.length_mergeSort _
  have hf : ((d.mergeSort fun x y => decide (x ≤ y)).flatMap stcl).length = d.length := by rw [flatMap_len (f := stcl) (k := 1) (fun _ => rfl), hm]; omega
  refine ⟨ρ', .tup [], _, he, hS', hρ, hl', hbl, _, rfl, rfl, by rw [hm]; exact h1, by rw [rowSet_len (by omega)]; exact h2, ?_⟩
  rw [hm, Nat.mul_one, ← hf]; exact rowSet_cut (by omega)
structure ALX where
  pre : List ((Int × Int) × ByteArray × Nat)
  seen : List Nat
  n : Nat
  xs : List Value
  o : Nat
  c : Nat
theorem two_of {α : Type} {a b : α} (hab : a ≠ b) : ∀ {l : List α}, l.Nodup → (∀ x, x ∈ l → x ∈ [a, b]) → a ∈ l → b ∈ l → l = [a, b] ∨ l = [b, a]
  | [], _, _, h, _ => by simp at h
  | [x], _, _, h1, h2 => by simp at h1 h2; exact absurd (h1.trans h2.symm) hab
  | [x, y], hn, hs, h1, h2 => by
    have hx := hs x (by simp)
    have hy := hs y (by simp)
    simp at hn hx hy
    rcases hx with rfl | rfl <;> rcases hy with rfl | rfl
    · exact absurd rfl hn
    · exact .inl rfl
    · exact .inr rfl
    · exact absurd rfl hn
  | x :: y :: z :: l, hn, hs, h1, h2 => by
    have hx := hs x (by simp)
    have hy := hs y (by simp)
    have hz := hs z (by simp)
    simp at hn hx hy hz
    rcases hx with rfl | rfl <;> rcases hy with rfl | rfl <;> rcases hz with rfl | rfl <;> simp_all
theorem ne_b : ((ByteArray.mk #[98]).toList == (ByteArray.mk #[97]).toList) = false := by rw [ByteArray.toList_eq, ByteArray.toList_eq]; decide
theorem s_Compact2 (xs : List Value) (o c : Nat) (hr : RowG stcl 1 xs o c [[97], [98]]) : Ctr Tryd.prog F_slices_Compact_sl_string_string [.sl 0 o 2 c] [.arr xs T_string] (fun x H => x = .sl 0 o 2 c ∧ H = [.arr xs T_string]) := by
  have h0 : xs[o + 0 * 1]? = some (.string (ByteArray.mk #[97])) := by have := hr.at (fun _ => rfl) (i := 0) (j := 0) (by decide) (by decide); simpa using this
  have h1 : xs[o + 1 * 1]? = some (.string (ByteArray.mk #[98])) := by have := hr.at (fun _ => rfl) (i := 1) (j := 0) (by decide) (by decide); simpa using this
  have hroom : o + 2 * 1 ≤ xs.length := by have := hr.2.1; have := hr.1; simp at this; omega
  refine i_slices_Compact_sl_string_string.spec follows ?_
  refine And.intro (fun h => absurd (of_decide_eq_true h) (by decide)) (fun _ => ?_)
  refine VLoop.mk Nat (fun k => [(0, .sl 0 o 2 c), (3, iv ((k + 1 : Nat) : Int))]) (fun _ => [.arr xs T_string]) (fun k => k ≤ 1) (fun k => 1 - k) 0 [0] ⟨Nat.zero_le _, rfl, rfl, rfl⟩ ?_
  rintro k hk g
  refine And.intro (fun h => ?_) (fun h => ?_)
  · have h := of_decide_eq_true h
    have hk0 : k = 0 := by omega
    subst hk0
    refine And.intro ⟨by decide, by decide, hroom⟩ (Exists.intro _ (And.intro h1 ?_))
    refine Exists.intro 0 (And.intro (by decide) ?_)
    refine And.intro ⟨by decide, by decide, hroom⟩ (Exists.intro _ (And.intro h0 ?_))
    refine And.intro (fun h9 => absurd h9 (by rw [ne_b]; decide)) (fun _ => ?_)
    refine Exists.intro 2 (And.intro (by decide) ?_)
    exact Exists.intro 1 (Exists.intro [0] (And.intro ⟨Nat.le_refl _, by decide⟩ ⟨rfl, rfl, rfl⟩))
  · exact VRet.mk [0] (.sl 0 o 2 c) [.arr xs T_string] ⟨rfl, rfl, rfl⟩ ⟨rfl, rfl⟩
theorem sorted1 : ([[98], [97]] : List (List UInt8)).mergeSort (fun x y => decide (x ≤ y)) = [[97], [98]] := by
  simp [List.mergeSort, List.MergeSort.Internal.splitInTwo, List.merge]
  try decide
theorem sorted2 : ([[97], [98]] : List (List UInt8)).mergeSort (fun x y => decide (x ≤ y)) = [[97], [98]] := by
  simp [List.mergeSort, List.MergeSort.Internal.splitInTwo, List.merge]
  try decide
theorem s_All2 : Ctr Tryd.prog F_orset_Set_All [.ptr 0 0] (SG (ents encD encT M2) 2) (fun x H => ∃ xs o c, x = .sl 3 o 2 c ∧ H = SG (ents encD encT M2) 2 ++ [.arr xs T_string] ∧ RowG stcl 1 xs o c [[97], [98]]) := by
  refine i_orset_Set_All.spec follows ?_
  refine VLoop.nil T_string [3] [] ⟨rfl, rfl⟩ ?_
  have hok : MOK M2 2 := ⟨by decide, by decide⟩
  refine VLoop.mk ALX (fun x => [(0, .ptr 0 0), (3, .sl 4 x.o x.n x.c), (10, .ptr 3 0)]) (fun x => SG (ents encD encT M2) 2 ++ [.iter (some 1) 2 x.seen 2, .arr x.xs T_string]) (fun x => Been M2 x.pre x.seen ∧ x.n = x.pre.length ∧ RowG tcl 1 x.xs x.o x.c x.pre) (fun x => M2.length - x.pre.length) ⟨[], [], 0, [], 0, 0⟩ [0, 1, 2, 3, 4]
    ⟨⟨Been.nil _, rfl, ⟨Nat.le_refl _, by simp, by simp⟩⟩, rfl, rfl, rfl⟩ ?_
  rintro ⟨pre, seen, n, xs, o, c⟩ ⟨h1, hn, hr⟩ g
  simp only at h1 hn hr
  refine And.intro ⟨fun e he => ?_, Nat.le_refl _⟩ (And.intro (fun hall => ?_) (fun e he hns => ?_))
  · obtain ⟨x, hx, rfl⟩ := List.mem_map.1 he
    exact hok.1 x hx
  · have hsub : ∀ x, x ∈ M2 → x ∈ pre := fun x hx => h1.all hok.2 hx (hall _ (List.mem_map.2 ⟨x, hx, rfl⟩))
    have hnd : pre.Nodup := by have := h1.nd; rw [h1.eq] at this; exact nodup_of_map _ this
    have fin : ∀ xs' : List Value, RowG stcl 1 xs' o c [[97], [98]] → ∃ xs o c', (SV.sl 3 o 2 c') = .sl 3 o 2 c' ∧ RowG stcl 1 xs o c' [[97], [98]] := fun xs' h => ⟨xs', o, c, rfl, h⟩
    have hcases := two_of (by decide) hnd h1.sub (hsub _ (by simp)) (hsub _ (by simp))
    rcases hcases with rfl | rfl
    · subst hn
      refine VCall.mk [4] (sort_ctr [[98], [97]] xs o c hr (by decide)) ⟨rfl, rfl, rfl⟩ ?_
      rintro _ _ ⟨xs', rfl, rfl, hr'⟩
      rw [sorted1] at hr'
      refine VCall.mk [4] (s_Compact2 xs' o c hr') ⟨rfl, rfl, rfl⟩ ?_
      rintro _ _ ⟨rfl, rfl⟩
      exact VRet.mk [0, 1, 2, 4] (.sl 3 o 2 c) (SG (ents encD encT M2) 2 ++ [.arr xs' T_string]) ⟨rfl, rfl, rfl⟩ ⟨xs', o, c, rfl, rfl, hr'⟩
    · subst hn
      refine VCall.mk [4] (sort_ctr [[97], [98]] xs o c hr (by decide)) ⟨rfl, rfl, rfl⟩ ?_
      rintro _ _ ⟨xs', rfl, rfl, hr'⟩
      rw [sorted2] at hr'
      refine VCall.mk [4] (s_Compact2 xs' o c hr') ⟨rfl, rfl, rfl⟩ ?_
      rintro _ _ ⟨rfl, rfl⟩
      exact VRet.mk [0, 1, 2, 4] (.sl 3 o 2 c) (SG (ents encD encT M2) 2 ++ [.arr xs' T_string]) ⟨rfl, rfl, rfl⟩ ⟨xs', o, c, rfl, rfl, hr'⟩
  · obtain ⟨x, hx, rfl⟩ := List.mem_map.1 he
    have hns : x.2.2 ∉ seen := hns
    have hxn : 1 ≤ x.1.2 := by
      have : ∀ y, y ∈ M2 → 1 ≤ y.1.2 := by decide
      exact this x hx
    have hlen := h1.len hx hns
    have hnb : (n + 1) * 16 ≤ 1099511627776 := by
      have : pre.length < M2.length := by omega
      simp at this; omega
    refine Exists.intro x.2.2 (Exists.intro (ent encD encT x) (And.intro (last_snoc _ _) (And.intro (find_ents hok.2 hx) (And.intro rfl ?_))))
    refine VCall.mk [0, 1, 2] (s_live0 _ _ x.1.1 x.1.2 hxn x.2.1) ⟨rfl, rfl, rfl⟩ ?_
    rintro _ _ ⟨rfl, rfl⟩
    refine And.intro (fun _ => ?_) (fun h => absurd h (by decide))
    refine And.intro ⟨⟨by rw [hn]; exact hr.1, hr.2.1, rfl⟩, ⟨rfl, rfl⟩, hnb⟩ ?_
    intro xs' o' c' hz
    exact Exists.intro ⟨pre ++ [x], seen ++ [x.2.2], n + 1, xs', o', c'⟩ (Exists.intro [0, 1, 2, 3, 7] (And.intro ⟨⟨h1.more hx hns, by simp only; rw [hn, List.length_append]; rfl, snocRow hr hn hz.1 hz.2.1 hz.2.2⟩, hlen⟩ ⟨rfl, rfl, rfl⟩))
end Go.Proofs

namespace Go.Proofs
open Go Go.V Go.Lib
set_option maxRecDepth 100000
set_option linter.unusedVariables false

abbrev S2 : List SO := SG (ents encD encT M2) 2
theorem s_Show_S2 : Ctr Tryd.prog F_value_Show [vS] S2 (fun x H => x = .raw (.string (ByteArray.mk #[97, 44, 98])) ∧ H = S2) := by
  refine i_value_Show.spec follows ?_
  refine VCall.mk [0, 1, 2] (s_AsSet_S (ents encD encT M2) 2) ⟨rfl, rfl, rfl⟩ ?_
  rintro _ _ ⟨rfl, rfl⟩
  refine And.intro (fun _ => ?_) (fun h => absurd h (by decide))
  refine VCall.mk [0, 1, 2] s_All2 ⟨rfl, rfl, rfl⟩ ?_
  rintro _ _ ⟨xs, o, c, rfl, rfl, hr⟩
  have hj := join_ctr (P := Tryd.prog) rfl Tryd.laysJoin extraB (H := [.arr xs T_string]) (j := 0) (off := o) (cap := c) (xs := xs) (e := T_string) rfl [[97], [98]] (by have := hr.2.2; simpa using this) (by have := hr.2.1; have := hr.1; simp at this; simp; omega) hr.1 (by decide) (ByteArray.mk #[44]) (by decide)
  refine VCall.mk [3] hj ⟨rfl, rfl, rfl⟩ ?_
  rintro _ _ ⟨rfl, rfl⟩
  exact VRet.mk [0, 1, 2] (.raw (.string (ByteArray.mk #[97, 44, 98]))) S2 ⟨rfl, rfl, rfl⟩ ⟨rfl, rfl⟩
abbrev L1 : List SO := LA true (ByteArray.mk #[116]) 1 0 1
theorem s_Write1 : Ctr Tryd.prog F_last_Last_Write [.ptr 0 0, .raw (.string (ByteArray.mk #[116])), iv 1, .agg (dcells 0 1)] LE (fun r H => r = .tup [bv true, iv 0] ∧ H = L1) := by
  refine i_last_Last_Write.spec follows ?_
  refine And.intro (fun _ => ?_) (fun h => absurd (of_decide_eq_true h) (by decide))
  refine And.intro (fun _ => ?_) (fun h => absurd (of_decide_eq_true h) (by decide))
  refine And.intro (fun _ => ?_) (fun h => absurd (of_decide_eq_true h) (by decide))
  refine VCall.mk [] (s_vec_Dot 0 1) ⟨rfl, rfl, rfl⟩ ?_
  rintro _ _ ⟨rfl, rfl⟩
  refine And.intro (fun h => absurd h (by decide)) (fun _ => ?_)
  refine VCall.mk [] (s_Compare_int64 1 0) ⟨rfl, rfl, rfl⟩ ?_
  rintro _ _ ⟨rfl, rfl⟩
  refine And.intro rfl (And.intro rfl (And.intro rfl ?_))
  refine VCall.mk [] (s_dots_Order 0 1 0 0) ⟨rfl, rfl, rfl⟩ ?_
  rintro _ _ ⟨rfl, rfl⟩
  refine VCall.mk [2] (s_Or_int [cmpI 1 0, cmpD (0, 1) (0, 0)] 2 (by decide)) ⟨rfl, rfl, rfl⟩ ?_
  rintro _ _ ⟨rfl, rfl⟩
  refine And.intro (fun h => absurd (show false = true from h) (by decide)) (fun _ => ?_)
  refine And.intro (fun h => absurd (show false = true from h) (by decide)) (fun _ => ?_)
  exact VRet.mk [0] (.tup [bv true, iv 0]) L1 ⟨rfl, rfl, rfl⟩ ⟨rfl, rfl⟩
theorem s_LValue (b : Bool) (y : ByteArray) (t p n : Int) : Ctr Tryd.prog F_last_Last_Value [.ptr 0 0] (LA b y t p n) (fun x H => x = .tup [.raw (.string y), bv b] ∧ H = LA b y t p n) := by
  refine i_last_Last_Value.spec follows ?_
  exact VRet.mk [0] (.tup [.raw (.string y), bv b]) (LA b y t p n) ⟨rfl, rfl, rfl⟩ ⟨rfl, rfl⟩
theorem s_Show_T1 (b : Bool) (y : ByteArray) (t p n : Int) : Ctr Tryd.prog F_value_Show [vT] (LA b y t p n) (fun x H => x = .raw (.string y) ∧ H = LA b y t p n) := by
  refine i_value_Show.spec follows ?_
  refine VCall.mk [0] (s_AsSet_T b y t p n) ⟨rfl, rfl, rfl⟩ ?_
  rintro _ _ ⟨rfl, rfl⟩
  refine And.intro (fun h => absurd h (by decide)) (fun _ => ?_)
  refine VCall.mk [0] (s_AsNumber_T b y t p n) ⟨rfl, rfl, rfl⟩ ?_
  rintro _ _ ⟨rfl, rfl⟩
  refine And.intro (fun h => absurd h (by decide)) (fun _ => ?_)
  refine VCall.mk [0] (s_AsText_T b y t p n) ⟨rfl, rfl, rfl⟩ ?_
  rintro _ _ ⟨rfl, rfl⟩
  refine And.intro (fun _ => ?_) (fun h => absurd h (by decide))
  refine VCall.mk [0] (s_LValue b y t p n) ⟨rfl, rfl, rfl⟩ ?_
  rintro _ _ ⟨rfl, rfl⟩
  exact VRet.mk [0] (.raw (.string y)) (LA b y t p n) ⟨rfl, rfl, rfl⟩ ⟨rfl, rfl⟩
/-! ### Nothing behind the face -/
theorem s_AsSet_0 : Ctr Tryd.prog F_value_AsSet [.raw .nilIface] [] (fun x H => x = .tup [.raw (.pointer none), bv false] ∧ H = []) := by
  refine i_value_AsSet.spec follows ?_
  exact VRet.mk [] (.tup [.raw (.pointer none), bv false]) [] ⟨rfl, rfl, rfl⟩ ⟨rfl, rfl⟩
theorem s_AsNumber_0 : Ctr Tryd.prog F_value_AsNumber [.raw .nilIface] [] (fun x H => x = .tup [.raw (.pointer none), bv false] ∧ H = []) := by
  refine i_value_AsNumber.spec follows ?_
  exact VRet.mk [] (.tup [.raw (.pointer none), bv false]) [] ⟨rfl, rfl, rfl⟩ ⟨rfl, rfl⟩
theorem s_AsText_0 : Ctr Tryd.prog F_value_AsText [.raw .nilIface] [] (fun x H => x = .tup [.raw (.pointer none), bv false] ∧ H = []) := by
  refine i_value_AsText.spec follows ?_
  exact VRet.mk [] (.tup [.raw (.pointer none), bv false]) [] ⟨rfl, rfl, rfl⟩ ⟨rfl, rfl⟩
abbrev nS : SV := .ifc T_value_Set (.agg [.raw (.pointer none)])
abbrev nT : SV := .ifc T_value_Text (.agg [.raw (.pointer none)])
theorem s_AsSet_nS : Ctr Tryd.prog F_value_AsSet [nS] [] (fun x H => x = .tup [.raw (.pointer none), bv false] ∧ H = []) := by
  refine i_value_AsSet.spec follows ?_
  exact VRet.mk [] (.tup [.raw (.pointer none), bv false]) [] ⟨rfl, rfl, rfl⟩ ⟨rfl, rfl⟩
theorem s_AsSet_nT : Ctr Tryd.prog F_value_AsSet [nT] [] (fun x H => x = .tup [.raw (.pointer none), bv false] ∧ H = []) := by
  refine i_value_AsSet.spec follows ?_
  exact VRet.mk [] (.tup [.raw (.pointer none), bv false]) [] ⟨rfl, rfl, rfl⟩ ⟨rfl, rfl⟩
theorem s_AsNumber_nT : Ctr Tryd.prog F_value_AsNumber [nT] [] (fun x H => x = .tup [.raw (.pointer none), bv false] ∧ H = []) := by
  refine i_value_AsNumber.spec follows ?_
  exact VRet.mk [] (.tup [.raw (.pointer none), bv false]) [] ⟨rfl, rfl, rfl⟩ ⟨rfl, rfl⟩
theorem s_AsText_nT : Ctr Tryd.prog F_value_AsText [nT] [] (fun x H => x = .tup [.raw (.pointer none), bv false] ∧ H = []) := by
  refine i_value_AsText.spec follows ?_
  exact VRet.mk [] (.tup [.raw (.pointer none), bv false]) [] ⟨rfl, rfl, rfl⟩ ⟨rfl, rfl⟩
theorem s_Show_0 : Ctr Tryd.prog F_value_Show [.raw .nilIface] [] (fun x H => x = .raw es ∧ H = []) := by
  refine i_value_Show.spec follows ?_
  refine VCall.mk [] s_AsSet_0 ⟨rfl, rfl, rfl⟩ ?_
  rintro _ _ ⟨rfl, rfl⟩
  refine And.intro (fun h => absurd h (by decide)) (fun _ => ?_)
  refine VCall.mk [] s_AsNumber_0 ⟨rfl, rfl, rfl⟩ ?_
  rintro _ _ ⟨rfl, rfl⟩
  refine And.intro (fun h => absurd h (by decide)) (fun _ => ?_)
  refine VCall.mk [] s_AsText_0 ⟨rfl, rfl, rfl⟩ ?_
  rintro _ _ ⟨rfl, rfl⟩
  refine And.intro (fun h => absurd h (by decide)) (fun _ => ?_)
  exact VRet.mk [] (.raw es) [] ⟨rfl, rfl, rfl⟩ ⟨rfl, rfl⟩
theorem s_Show_nT : Ctr Tryd.prog F_value_Show [nT] [] (fun x H => x = .raw es ∧ H = []) := by
  refine i_value_Show.spec follows ?_
  refine VCall.mk [] s_AsSet_nT ⟨rfl, rfl, rfl⟩ ?_
  rintro _ _ ⟨rfl, rfl⟩
  refine And.intro (fun h => absurd h (by decide)) (fun _ => ?_)
  refine VCall.mk [] s_AsNumber_nT ⟨rfl, rfl, rfl⟩ ?_
  rintro _ _ ⟨rfl, rfl⟩
  refine And.intro (fun h => absurd h (by decide)) (fun _ => ?_)
  refine VCall.mk [] s_AsText_nT ⟨rfl, rfl, rfl⟩ ?_
  rintro _ _ ⟨rfl, rfl⟩
  refine And.intro (fun h => absurd h (by decide)) (fun _ => ?_)
  exact VRet.mk [] (.raw es) [] ⟨rfl, rfl, rfl⟩ ⟨rfl, rfl⟩
theorem s_Put_0 : Ctr Tryd.prog F_value_Put [.sl 0 0 1 1, .raw .nilIface] [.arr [.int .u8 7] T_uint8] (fun x H => ∃ zs o c, x = .sl 1 o 1 c ∧ H = [.arr [.int .u8 7] T_uint8, .arr zs T_uint8] ∧ (1 ≤ c ∧ o + c * 1 ≤ zs.length) ∧ (zs.drop o).take 1 = [.int .u8 7]) := by
  refine i_value_Put.spec follows ?_
  refine VCall.mk [] s_AsSet_0 ⟨rfl, rfl, rfl⟩ ?_
  rintro _ _ ⟨rfl, rfl⟩
  refine And.intro (fun h => absurd h (by decide)) (fun _ => ?_)
  refine VCall.mk [] s_AsNumber_0 ⟨rfl, rfl, rfl⟩ ?_
  rintro _ _ ⟨rfl, rfl⟩
  refine And.intro (fun h => absurd h (by decide)) (fun _ => ?_)
  refine VCall.mk [] s_AsText_0 ⟨rfl, rfl, rfl⟩ ?_
  rintro _ _ ⟨rfl, rfl⟩
  refine And.intro (fun h => absurd h (by decide)) (fun _ => ?_)
  refine And.intro ⟨⟨Nat.le_refl _, Nat.le_refl _, rfl⟩, ⟨rfl, rfl⟩, by decide⟩ ?_
  intro zs o c hz
  exact VRet.mk [0, 2] (.sl 1 o 1 c) [.arr [.int .u8 7] T_uint8, .arr zs T_uint8] ⟨rfl, rfl, rfl⟩ ⟨zs, o, c, rfl, rfl, ⟨hz.1, hz.2.1⟩, hz.2.2⟩
theorem s_MustSet (es' : List MapEntry) (c : Nat) : Ctr Tryd.prog F_value_MustSet [vS] (SG es' c) (fun x H => x = .ptr 0 0 ∧ H = SG es' c) := by
  refine i_value_MustSet.spec follows ?_
  exact VRet.mk [0, 1, 2] (.ptr 0 0) (SG es' c) ⟨rfl, rfl, rfl⟩ ⟨rfl, rfl⟩
end Go.Proofs

