/- Part of the proof that the statement named in the last file holds: lemmas of the prover's own. No conditions. -/
import Derived.Test.YtmidamdjpabpbaaVB
import Derived.Test.YtmidamdjpabpbaaK8
import Derived.Test.YtmidamdjpabpbaaVC
import Derived.Test.YtmidamdjpabpbaaVD
import Derived.Test.YtmidamdjpabpbaaL8
namespace Go.Proofs
open Go Go.V
set_option maxRecDepth 100000
set_option linter.unusedVariables false

def isRep (n : Int) : Bool := decide (0 ≤ n ∧ n < 7)
theorem isRep_iff {n : Int} : isRep n = true ↔ 0 ≤ n ∧ n < 7 := by simp [isRep]
theorem isRep_not {n : Int} : isRep n = false ↔ ¬ (0 ≤ n ∧ n < 7) := by simp [isRep]
theorem s_vec_Rep (n : Int) : Ctr Try.prog F_vec_Rep [iv n] [] (fun v H => v = bv (isRep n) ∧ H = []) := by
  refine i_vec_Rep.spec follows ?_
  refine And.intro (fun h => ?_) (fun h => ?_)
  · refine VRet.mk [] (bv _) [] ⟨rfl, rfl, rfl⟩ ⟨?_, rfl⟩
    show bv _ = bv _
    have h := of_decide_eq_true h
    simp [isRep, h]
  · refine VRet.mk [] (bv _) [] ⟨rfl, rfl, rfl⟩ ⟨?_, rfl⟩
    show bv _ = bv _
    have h := of_decide_eq_false h
    simp [isRep, h]

def isDot (r n : Int) : Bool := isRep r && (decide (1 ≤ n) && decide (n ≤ 1099511627776))
theorem s_vec_Dot (r n : Int) : Ctr Try.prog F_vec_Dot [.agg (dcells r n)] [] (fun v H => v = bv (isDot r n) ∧ H = []) := by
  refine i_vec_Dot.spec follows ?_
  refine VCall.mk [] (s_vec_Rep _) ⟨rfl, rfl, rfl⟩ ?_
  rintro _ _ ⟨rfl, rfl⟩
  refine And.intro (fun h => ?_) (fun h => ?_)
  · refine And.intro (fun h2 => ?_) (fun h2 => ?_)
    · refine VRet.mk [] (bv _) [] ⟨rfl, rfl, rfl⟩ ⟨?_, rfl⟩
      show bv _ = bv _
      simp [isDot, h, h2]
    · refine VRet.mk [] (bv _) [] ⟨rfl, rfl, rfl⟩ ⟨?_, rfl⟩
      show bv _ = bv _
      simp [isDot, h, h2]
  · refine VRet.mk [] (bv _) [] ⟨rfl, rfl, rfl⟩ ⟨?_, rfl⟩
    show bv _ = bv _
    simp [isDot, h]

def has (v : Nat → Int) (r n : Int) : Bool := isRep r && (decide (1 ≤ n) && decide (n ≤ v r.toNat))
theorem s_vec_Has (v : Nat → Int) (r n : Int) : Ctr Try.prog F_vec_Has [.agg (vcells v), .agg (dcells r n)] [] (fun x H => x = bv (has v r n) ∧ H = []) := by
  refine i_vec_Has.spec follows ?_
  refine VCall.mk [] (s_vec_Rep _) ⟨rfl, rfl, rfl⟩ ?_
  rintro _ _ ⟨rfl, rfl⟩
  refine And.intro (fun h => ?_) (fun h => ?_)
  · refine And.intro (fun h2 => ?_) (fun h2 => ?_)
    · refine And.intro (isRep_iff.1 h) (Exists.intro _ (And.intro (vcells_get' v (isRep_iff.1 h) []) ?_))
      refine VRet.mk [] (bv _) [] ⟨rfl, rfl, rfl⟩ ⟨?_, rfl⟩
      show bv _ = bv _
      simp [has, h, h2]
    · refine VRet.mk [] (bv _) [] ⟨rfl, rfl, rfl⟩ ⟨?_, rfl⟩
      show bv _ = bv _
      simp [has, h, h2]
  · refine VRet.mk [] (bv _) [] ⟨rfl, rfl, rfl⟩ ⟨?_, rfl⟩
    show bv _ = bv _
    simp [has, h]

/-! ### Dots -/
abbrev encD (d : Int × Int) : Value := .agg #[.int .i64 d.1, .int .i64 d.2]
abbrev encU (_ : Unit) : Value := .bool true
abbrev DM := List ((Int × Int) × Unit × Nat)
abbrev dmap (ms : DM) (c : Nat) : SO := .map (ents encD encU ms) c
abbrev dcs (v : Nat → Int) (k : Nat) : List SV := [iv (v 0), iv (v 1), iv (v 2), iv (v 3), iv (v 4), iv (v 5), iv (v 6), .mp k]
def inM (ms : DM) (d : Int × Int) : Bool := (MP.get ms d).isSome

theorem keyT_Dot {mt et : TypeId} (h : Try.prog.underlying mt = some (.map T_api_Dot et)) : KeyT Try.prog mt et encD where
  ex := by
    have h1 : clsT Try.prog 2 T_api_Dot = some [.i, .i] := by kernel_rfl
    have h2 : isAggT Try.prog T_api_Dot = some true := by kernel_rfl
    refine ⟨T_api_Dot, 2, _, h, by omega, by omega, h1, fun a => ⟨[.int .i64 a.1, .int .i64 a.2], by simp [mkV, h2], rfl, fun b ys hb hl => ?_⟩⟩
    have : ys = [.int .i64 b.1, .int .i64 b.2] := by
      simp only [mkV, h2, if_true] at hb
      injection hb with hb
      have := congrArg Array.toList hb
      simpa using this.symm
    subst this
    refine ⟨decide (a.1 = b.1) && decide (a.2 = b.2), by simp [eqV, eq1V], ?_⟩
    simp [Prod.ext_iff]
  bits := fun a => by simp [Instr.sameBits]

theorem kD : KeyT Try.prog T_map_api_Dot_bool T_bool encD := keyT_Dot (by kernel_rfl)
theorem lookD (ms : DM) (d : Int × Int) : LookupIs Try.prog T_map_api_Dot_bool (ents encD encU ms) (encD d) (.bool (inM ms d)) (inM ms d) := by
  have := lookup_is (encv := encU) kD (z := .bool false) (by kernel_rfl) ms d
  unfold inM
  cases h : MP.get ms d <;> rw [h] at this <;> exact this

theorem s_dots_New : Ctr Try.prog F_dots_New [] [] (fun x H => x = .ptr 1 0 ∧ H = [dmap [] 0, .cells (dcs (fun _ => 0) 0) T_dots_Dots]) := by
  refine i_dots_New.spec follows ?_
  exact VRet.mk [0, 1] _ [dmap [] 0, .cells (dcs (fun _ => 0) 0) T_dots_Dots] ⟨rfl, rfl, rfl⟩ ⟨rfl, rfl⟩

theorem s_dots_Dots_Has (v : Nat → Int) (ms : DM) (c : Nat) (r n : Int) : Ctr Try.prog F_dots_Dots_Has [.ptr 0 0, .agg (dcells r n)] [.cells (dcs v 1) T_dots_Dots, dmap ms c]
    (fun x H => x = bv (has v r n || inM ms (r, n)) ∧ H = [.cells (dcs v 1) T_dots_Dots, dmap ms c]) := by
  refine i_dots_Dots_Has.spec follows ?_
  refine VCall.mk [] (s_vec_Has v r n) ⟨rfl, rfl, rfl⟩ ?_
  rintro _ _ ⟨rfl, rfl⟩
  refine And.intro (fun h => ?_) (fun h => ?_)
  · refine Exists.intro (bv (inM ms (r, n))) (Exists.intro _ (Exists.intro _ (And.intro (lookD ms (r, n)) (And.intro rfl ?_))))
    refine VRet.mk [0, 1] (bv _) [.cells (dcs v 1) T_dots_Dots, dmap ms c] ⟨rfl, rfl, rfl⟩ ⟨?_, rfl⟩
    show bv _ = bv _
    simp [h]
  · refine VRet.mk [0, 1] (bv _) [.cells (dcs v 1) T_dots_Dots, dmap ms c] ⟨rfl, rfl, rfl⟩ ⟨?_, rfl⟩
    show bv _ = bv _
    simp at h
    simp [h]

theorem s_dots_Dots_Vec (v : Nat → Int) (ms : DM) (c : Nat) : Ctr Try.prog F_dots_Dots_Vec [.ptr 0 0] [.cells (dcs v 1) T_dots_Dots, dmap ms c]
    (fun x H => x = .agg (vcells v) ∧ H = [.cells (dcs v 1) T_dots_Dots, dmap ms c]) := by
  refine i_dots_Dots_Vec.spec follows ?_
  exact VRet.mk [0, 1] _ [.cells (dcs v 1) T_dots_Dots, dmap ms c] ⟨rfl, rfl, rfl⟩ ⟨rfl, rfl⟩
end Go.Proofs

namespace Go.Proofs
open Go Go.V
set_option maxRecDepth 100000
set_option linter.unusedVariables false

/-! ### The plain law: dots -/
/-- Which were seen: S; those loose lie beyond the clock. -/
structure Pre (v : Nat → Int) (ms : DM) (S : Int × Int → Prop) : Prop where
  lo : ∀ r, r < 7 → 0 ≤ v r ∧ v r ≤ 1099511627776
  nd : (ms.map (·.1)).Nodup
  seen : ∀ d, S d ↔ (has v d.1 d.2 = true ∨ inM ms d = true)
  far : ∀ d, inM ms d = true → isDot d.1 d.2 = true ∧ v d.1.toNat < d.2
structure Canon (v : Nat → Int) (ms : DM) (S : Int × Int → Prop) : Prop extends Pre v ms S where
  gap : ∀ d, inM ms d = true → v d.1.toNat + 1 < d.2

theorem isDot_rep {r n : Int} (h : isDot r n = true) : 0 ≤ r ∧ r < 7 := isRep_iff.1 (by simp [isDot] at h; exact h.1)
theorem isDot_iff {r n : Int} : isDot r n = true ↔ (0 ≤ r ∧ r < 7) ∧ 1 ≤ n ∧ n ≤ 1099511627776 := by simp [isDot, isRep]
theorem has_iff {v : Nat → Int} {r n : Int} : has v r n = true ↔ (0 ≤ r ∧ r < 7) ∧ 1 ≤ n ∧ n ≤ v r.toNat := by simp [has, isRep]

theorem inM_del {ms : DM} (h : (ms.map (·.1)).Nodup) (k d : Int × Int) : inM (MP.del ms k) d = true ↔ d ≠ k ∧ inM ms d = true := by
  unfold inM
  rw [get_del ms k d h]
  by_cases hd : d = k <;> simp [hd]
theorem inM_put (ms : DM) (k d : Int × Int) (c : Nat) : inM (MP.put ms k () c) d = true ↔ d = k ∨ inM ms d = true := by
  unfold inM
  rw [get_put]
  by_cases hd : d = k <;> simp [hd]

/-- One loose dot that follows on the clock is taken in. -/
theorem Pre.step {v : Nat → Int} {ms : DM} {S : Int × Int → Prop} (h : Pre v ms S) {i : Nat} (hi : i < 7) (hd : inM ms ((i : Int), v i + 1) = true) :
    Pre (upv v i (v i + 1)) (MP.del ms ((i : Int), v i + 1)) S := by
  have hf := h.far _ hd
  have hr := (isDot_iff.1 hf.1).2
  have hlo := h.lo i hi
  simp only at hr
  constructor
  · intro r hr7
    unfold upv
    split
    · omega
    · exact h.lo r hr7
  · exact nodup_del h.nd _
  · rintro ⟨r, n⟩
    rw [h.seen, inM_del h.nd]
    simp only [has_iff, upv]
    constructor
    · rintro (⟨h1, h2, h3⟩ | h1)
      · left
        refine ⟨h1, h2, ?_⟩
        split
        · rename_i e
          rw [e] at h3; omega
        · exact h3
      · by_cases he : (r, n) = ((i : Int), v i + 1)
        · left
          cases he
          refine ⟨by omega, by omega, ?_⟩
          rw [if_pos (by omega)]; exact Int.le_refl _
        · exact .inr ⟨he, h1⟩
    · rintro (⟨h1, h2, h3⟩ | ⟨_, h1⟩)
      · split at h3
        · rename_i e
          by_cases h4 : n ≤ v r.toNat
          · exact .inl ⟨h1, h2, h4⟩
          · right
            have e1 : r = (i : Int) := by omega
            have e2 : n = v i + 1 := by rw [e] at h4; omega
            rw [e1, e2]; exact hd
        · exact .inl ⟨h1, h2, h3⟩
      · exact .inr h1
  · rintro ⟨r, n⟩ hm
    rw [inM_del h.nd] at hm
    obtain ⟨h1, h2⟩ := h.far _ hm.2
    refine ⟨h1, ?_⟩
    simp only [upv] at h2 ⊢
    split
    · rename_i e
      have hrr := isDot_rep h1
      rw [e] at h2
      have : n ≠ v i + 1 := by
        intro e2
        refine hm.1 ?_
        rw [e2, show r = (i : Int) by simp only at hrr; omega]
      omega
    · exact h2

structure CX where
  i : Nat
  v : Nat → Int
  ms : DM
theorem s_close (v : Nat → Int) (ms : DM) (c : Nat) (S : Int × Int → Prop) (h0 : Pre v ms S) (hm : MOK ms c) : Ctr Try.prog F_dots_Dots_close [.ptr 0 0] [.cells (dcs v 1) T_dots_Dots, dmap ms c]
    (fun x H => x = .tup [] ∧ ∃ v' ms', Canon v' ms' S ∧ MOK ms' c ∧ H = [.cells (dcs v' 1) T_dots_Dots, dmap ms' c]) := by
  refine i_dots_Dots_close.spec follows ?_
  refine VLoop.mk CX (fun x => [(0, .ptr 0 0), (4, iv x.i)]) (fun x => [.cells (dcs x.v 1) T_dots_Dots, dmap x.ms c])
    (fun x => x.i ≤ 7 ∧ Pre x.v x.ms S ∧ MOK x.ms c ∧ ∀ d, inM x.ms d = true → d.1 < x.i → x.v d.1.toNat + 1 < d.2) (fun x => 7 - x.i) ⟨0, v, ms⟩ [0, 1] ⟨⟨Nat.zero_le _, h0, hm, ?_⟩, rfl, rfl, rfl⟩ ?_
  · intro d hd h1
    have := isDot_rep (h0.far d hd).1
    simp at h1; omega
  rintro ⟨i, v, ms⟩ ⟨hi, hP, hM, hG⟩ g
  refine And.intro (fun h => ?_) (fun h => ?_)
  · have h := of_decide_eq_true h
    refine VLoop.mk CX (fun x => [(0, .ptr 0 0), (2, iv i), (4, iv i)]) (fun x => [.cells (dcs x.v 1) T_dots_Dots, dmap x.ms c])
      (fun x => Pre x.v x.ms S ∧ MOK x.ms c ∧ ∀ d, inM x.ms d = true → d.1 < i → x.v d.1.toNat + 1 < d.2) (fun x => x.ms.length) ⟨0, v, ms⟩ [0, 1] ⟨⟨hP, hM, hG⟩, rfl, rfl, rfl⟩ ?_
    rintro ⟨_, v, ms⟩ ⟨hP, hM, hG⟩ g
    simp only at hP hG h
    have hi7 : 0 ≤ (i : Int) ∧ (i : Int) < 7 := ⟨by omega, h⟩
    have hin : i < 7 := by omega
    have hv := hP.lo i hin
    have hw : IntKind.i64.wrap (v (i : Int).toNat + 1) = v (i : Int).toNat + 1 := wrap64 (by rw [Int.toNat_natCast]; omega)
    have hw2 : IntKind.i64.wrap ((i : Int) + 1) = ((i + 1 : Nat) : Int) := wrap64 (by omega)
    refine And.intro hi7 (Exists.intro _ (And.intro (vcells_get' v hi7 [.mp 1]) ?_))
    refine Exists.intro _ (And.intro hw ?_)
    refine Exists.intro (bv (inM ms ((i : Int), v (i : Int).toNat + 1))) (Exists.intro _ (Exists.intro _ (And.intro (lookD ms ((i : Int), v (i : Int).toNat + 1)) (And.intro rfl ?_))))
    refine And.intro (fun h2 => ?_) (fun h2 => ?_)
    · refine Exists.intro _ (And.intro hw2 ?_)
      refine Exists.intro ⟨i + 1, v, ms⟩ (Exists.intro [0, 1] (And.intro ⟨⟨hin, hP, hM, ?_⟩, by simp only; omega⟩ ⟨rfl, rfl, rfl⟩))
      rintro ⟨r, n⟩ hd hdi
      simp only at hd hdi ⊢
      have hf := hP.far _ hd
      have hrr := isDot_rep hf.1
      simp only at hf hrr
      by_cases hri : r < i
      · exact hG _ hd hri
      · have e1 : r = (i : Int) := by omega
        subst e1
        have hne : n ≠ v (i : Int).toNat + 1 := by
          intro e; subst e; rw [hd] at h2; cases h2
        omega
    · have hdd : inM ms ((i : Int), v i + 1) = true := by rw [Int.toNat_natCast] at h2; simpa using h2
      refine Exists.intro _ (And.intro (delete_is kD ms ((i : Int), v (i : Int).toNat + 1)) ?_)
      refine And.intro hi7 (Exists.intro _ (And.intro (vcells_get' v hi7 [.mp 1]) ?_))
      refine Exists.intro _ (And.intro hw ?_)
      refine And.intro hi7 (Exists.intro _ (And.intro (vcells_put v (v (i : Int).toNat + 1) hi7 [.mp 1]) ?_))
      refine Exists.intro ⟨0, upv v i (v i + 1), MP.del ms ((i : Int), v i + 1)⟩ (Exists.intro [0, 1] (And.intro ⟨⟨hP.step hin hdd, hM.del _, ?_⟩, ?_⟩ ⟨rfl, rfl, rfl⟩))
      · rintro ⟨r, n⟩ hd hdi
        simp only at hd hdi ⊢
        rw [inM_del hP.nd] at hd
        have hrr := isDot_rep (hP.far _ hd.2).1
        simp only at hrr
        have := hG _ hd.2 hdi
        simp only [upv] at this ⊢
        rw [if_neg (by omega)]; exact this
      · have := len_del hdd
        show (MP.del ms _).length < ms.length
        omega
  · have h := of_decide_eq_false h
    refine VRet.mk [0, 1] (.tup []) [.cells (dcs v 1) T_dots_Dots, dmap ms c] ⟨rfl, rfl, rfl⟩ ⟨rfl, v, ms, ⟨hP, ?_⟩, hM, rfl⟩
    intro d hd
    refine hG d hd ?_
    have := isDot_rep (hP.far d hd).1
    simp at h ⊢; omega
end Go.Proofs

namespace Go.Proofs
open Go Go.V
set_option maxRecDepth 100000
set_option linter.unusedVariables false

/-- What Add does. -/
def AddR (v : Nat → Int) (ms : DM) (S : Int × Int → Prop) (d : Int × Int) (a : Bool) (e : Int) (v' : Nat → Int) (ms' : DM) : Prop :=
  (isDot d.1 d.2 = false ∧ a = false ∧ e = 1 ∧ v' = v ∧ ms' = ms) ∨
  (isDot d.1 d.2 = true ∧ S d ∧ a = false ∧ e = 0 ∧ v' = v ∧ ms' = ms) ∨
  (isDot d.1 d.2 = true ∧ ¬ S d ∧ d.2 ≠ v d.1.toNat + 1 ∧ 1000 ≤ ms.length ∧ a = false ∧ e = 2 ∧ v' = v ∧ ms' = ms) ∨
  (isDot d.1 d.2 = true ∧ ¬ S d ∧ (d.2 = v d.1.toNat + 1 ∨ ms.length < 1000) ∧ a = true ∧ e = 0 ∧ Canon v' ms' (fun x => x = d ∨ S x))

theorem Pre.add {v : Nat → Int} {ms : DM} {S : Int × Int → Prop} (h : Pre v ms S) {d : Int × Int} (hd : isDot d.1 d.2 = true) (hn : ¬ S d) (c : Nat) : Pre v (MP.put ms d () c) (fun x => x = d ∨ S x) := by
  constructor
  · exact h.lo
  · exact nodup_put h.nd _ _ _
  · intro x
    rw [inM_put, h.seen]
    constructor
    · rintro (h1 | h1 | h1)
      · exact .inr (.inl h1)
      · exact .inl h1
      · exact .inr (.inr h1)
    · rintro (h1 | h1 | h1)
      · exact .inr (.inl h1)
      · exact .inl h1
      · exact .inr (.inr h1)
  · intro x hx
    rw [inM_put] at hx
    rcases hx with rfl | hx
    · refine ⟨hd, ?_⟩
      have h1 : ¬ has v x.1 x.2 = true := fun e => hn ((h.seen x).2 (.inl e))
      have h2 := isDot_iff.1 hd
      have h3 : ¬ (x.2 ≤ v x.1.toNat) := fun e => h1 (has_iff.2 ⟨h2.1, h2.2.1, e⟩)
      omega
    · exact h.far x hx

theorem s_Add (v : Nat → Int) (ms : DM) (c : Nat) (S : Int × Int → Prop) (h0 : Canon v ms S) (hm : MOK ms c) (r n : Int) : Ctr Try.prog F_dots_Dots_Add [.ptr 0 0, .agg (dcells r n)] [.cells (dcs v 1) T_dots_Dots, dmap ms c]
    (fun x H => ∃ a e v' ms' c', x = .tup [bv a, iv e] ∧ H = [.cells (dcs v' 1) T_dots_Dots, dmap ms' c'] ∧ AddR v ms S (r, n) a e v' ms' ∧ MOK ms' c') := by
  refine i_dots_Dots_Add.spec follows ?_
  refine VCall.mk [] (s_vec_Dot r n) ⟨rfl, rfl, rfl⟩ ?_
  rintro _ _ ⟨rfl, rfl⟩
  refine And.intro (fun h1 => ?_) (fun h1 => ?_)
  · refine VRet.mk [0, 1] (.tup [bv false, iv 1]) [.cells (dcs v 1) T_dots_Dots, dmap ms c] ⟨rfl, rfl, rfl⟩ ⟨_, _, v, ms, c, rfl, rfl, .inl ⟨by simpa using h1, rfl, rfl, rfl, rfl⟩, hm⟩
  have hd : isDot r n = true := by simpa using h1
  refine VCall.mk [0, 1] (s_dots_Dots_Has v ms c r n) ⟨rfl, rfl, rfl⟩ ?_
  rintro _ _ ⟨rfl, rfl⟩
  refine And.intro (fun h2 => ?_) (fun h2 => ?_)
  · refine VRet.mk [0, 1] (.tup [bv false, iv 0]) [.cells (dcs v 1) T_dots_Dots, dmap ms c] ⟨rfl, rfl, rfl⟩ ⟨_, _, v, ms, c, rfl, rfl, .inr (.inl ⟨hd, ?_, rfl, rfl, rfl, rfl⟩), hm⟩
    rw [h0.seen]; simpa using h2
  have hns : ¬ S (r, n) := by
    rw [h0.seen]; simp at h2; simp [h2]
  have hr := isDot_rep hd
  have hv := h0.lo r.toNat (by omega)
  have hw : IntKind.i64.wrap (v r.toNat + 1) = v r.toNat + 1 := wrap64 (by omega)
  refine And.intro hr (Exists.intro _ (And.intro (vcells_get' v hr [.mp 1]) ?_))
  refine Exists.intro _ (And.intro hw ?_)
  refine And.intro (fun h3 => ?_) (fun h3 => ?_)
  · refine And.intro (fun h4 => ?_) (fun h4 => ?_)
    · refine VRet.mk [0, 1] (.tup [bv false, iv 2]) [.cells (dcs v 1) T_dots_Dots, dmap ms c] ⟨rfl, rfl, rfl⟩ ⟨_, _, v, ms, c, rfl, rfl, .inr (.inr (.inl ⟨hd, hns, by simpa using h3, ?_, rfl, rfl, rfl, rfl⟩)), hm⟩
      have := of_decide_eq_true h4
      simp [ents] at this; omega
    · have h4 := of_decide_eq_false h4
      have h5 : ms.length < 1000 := by simp [ents] at h4; omega
      refine Exists.intro _ (Exists.intro _ (And.intro (update_is (encv := encU) kD ms c (r, n) ()) ?_))
      refine VCall.mk [0, 1] (s_close v (MP.put ms (r, n) () c) _ (fun x => x = (r, n) ∨ S x) (h0.toPre.add hd hns c) (hm.put _ _)) ⟨rfl, rfl, rfl⟩ ?_
      rintro _ _ ⟨rfl, v', ms', hC, hm', rfl⟩
      refine VRet.mk [0, 1] (.tup [bv true, iv 0]) [.cells (dcs v' 1) T_dots_Dots, dmap ms' (if (MP.get ms (r, n)).isSome then c else c + 1)] ⟨rfl, rfl, rfl⟩ ⟨_, _, v', ms', _, rfl, rfl, .inr (.inr (.inr ⟨hd, hns, .inr h5, rfl, rfl, hC⟩)), hm'⟩
  · refine Exists.intro _ (Exists.intro _ (And.intro (update_is (encv := encU) kD ms c (r, n) ()) ?_))
    refine VCall.mk [0, 1] (s_close v (MP.put ms (r, n) () c) _ (fun x => x = (r, n) ∨ S x) (h0.toPre.add hd hns c) (hm.put _ _)) ⟨rfl, rfl, rfl⟩ ?_
    rintro _ _ ⟨rfl, v', ms', hC, hm', rfl⟩
    refine VRet.mk [0, 1] (.tup [bv true, iv 0]) [.cells (dcs v' 1) T_dots_Dots, dmap ms' (if (MP.get ms (r, n)).isSome then c else c + 1)] ⟨rfl, rfl, rfl⟩ ⟨_, _, v', ms', _, rfl, rfl, .inr (.inr (.inr ⟨hd, hns, .inl (by simpa using h3), rfl, rfl, hC⟩)), hm'⟩
end Go.Proofs

namespace Go.Proofs
open Go Go.V
set_option maxRecDepth 100000
set_option linter.unusedVariables false

theorem s_isNaN_int (n : Int) : Ctr Try.prog F_cmp_isNaN_int [iv n] [] (fun v H => v = bv false ∧ H = []) := by
  refine i_cmp_isNaN_int.spec follows ?_
  refine VRet.mk [] (bv _) [] ⟨rfl, rfl, rfl⟩ ⟨?_, rfl⟩
  show bv _ = bv _
  simp
theorem s_isNaN_int64 (n : Int) : Ctr Try.prog F_cmp_isNaN_int64 [iv n] [] (fun v H => v = bv false ∧ H = []) := by
  refine i_cmp_isNaN_int64.spec follows ?_
  refine VRet.mk [] (bv _) [] ⟨rfl, rfl, rfl⟩ ⟨?_, rfl⟩
  show bv _ = bv _
  simp

def cmpI (a b : Int) : Int := if a < b then -1 else if b < a then 1 else 0
theorem s_Compare_int (a b : Int) : Ctr Try.prog F_cmp_Compare_int [iv a, iv b] [] (fun v H => v = iv (cmpI a b) ∧ H = []) := by
  refine i_cmp_Compare_int.spec follows ?_
  refine VCall.mk [] (s_isNaN_int a) ⟨rfl, rfl, rfl⟩ ?_
  rintro _ _ ⟨rfl, rfl⟩
  refine VCall.mk [] (s_isNaN_int b) ⟨rfl, rfl, rfl⟩ ?_
  rintro _ _ ⟨rfl, rfl⟩
  refine And.intro (fun h => Bool.noConfusion h) (fun _ => ?_)
  refine And.intro (fun h => Bool.noConfusion h) (fun _ => ?_)
  refine And.intro (fun h => ?_) (fun h => ?_)
  · refine VRet.mk [] (iv _) [] ⟨rfl, rfl, rfl⟩ ⟨?_, rfl⟩
    show iv _ = iv _
    have h := of_decide_eq_true h
    simp [cmpI, h]
  have h := of_decide_eq_false h
  refine And.intro (fun h2 => ?_) (fun h2 => ?_)
  · refine VRet.mk [] (iv _) [] ⟨rfl, rfl, rfl⟩ ⟨?_, rfl⟩
    show iv _ = iv _
    have h2 := of_decide_eq_true h2
    simp [cmpI, h, h2]
  · refine VRet.mk [] (iv _) [] ⟨rfl, rfl, rfl⟩ ⟨?_, rfl⟩
    show iv _ = iv _
    have h2 := of_decide_eq_false h2
    simp [cmpI, h, h2]
theorem s_Compare_int64 (a b : Int) : Ctr Try.prog F_cmp_Compare_int64 [iv a, iv b] [] (fun v H => v = iv (cmpI a b) ∧ H = []) := by
  refine i_cmp_Compare_int64.spec follows ?_
  refine VCall.mk [] (s_isNaN_int64 a) ⟨rfl, rfl, rfl⟩ ?_
  rintro _ _ ⟨rfl, rfl⟩
  refine VCall.mk [] (s_isNaN_int64 b) ⟨rfl, rfl, rfl⟩ ?_
  rintro _ _ ⟨rfl, rfl⟩
  refine And.intro (fun h => Bool.noConfusion h) (fun _ => ?_)
  refine And.intro (fun h => Bool.noConfusion h) (fun _ => ?_)
  refine And.intro (fun h => ?_) (fun h => ?_)
  · refine VRet.mk [] (iv _) [] ⟨rfl, rfl, rfl⟩ ⟨?_, rfl⟩
    show iv _ = iv _
    have h := of_decide_eq_true h
    simp [cmpI, h]
  have h := of_decide_eq_false h
  refine And.intro (fun h2 => ?_) (fun h2 => ?_)
  · refine VRet.mk [] (iv _) [] ⟨rfl, rfl, rfl⟩ ⟨?_, rfl⟩
    show iv _ = iv _
    have h2 := of_decide_eq_true h2
    simp [cmpI, h, h2]
  · refine VRet.mk [] (iv _) [] ⟨rfl, rfl, rfl⟩ ⟨?_, rfl⟩
    show iv _ = iv _
    have h2 := of_decide_eq_false h2
    simp [cmpI, h, h2]

def orI : List Int → Int
  | [] => 0
  | x :: l => if x ≠ 0 then x else orI l

theorem s_Or_int (l : List Int) (c : Nat) (hl : l.length < 1000000) : Ctr Try.prog F_cmp_Or_int [.sl 0 0 l.length c] [.arr (l.map (.int .i64)) T_int] (fun v H => v = iv (orI l) ∧ H = [.arr (l.map (.int .i64)) T_int]) := by
  refine i_cmp_Or_int.spec follows ?_
  refine VLoop.mk Nat (fun i => [(0, .sl 0 0 l.length c), (3, iv 0), (6, .sl 0 0 l.length c), (7, iv l.length), (8, iv i)]) (fun i => [.arr (l.map (.int .i64)) T_int])
    (fun i => i ≤ l.length ∧ orI l = orI (l.drop i)) (fun i => l.length - i) 0 [0] ⟨⟨Nat.zero_le _, rfl⟩, rfl, rfl, rfl⟩ ?_
  rintro i ⟨hi, ho⟩ g
  refine And.intro (fun h => ?_) (fun h => ?_)
  · have h := of_decide_eq_true h
    have hil : i < l.length := by omega
    have hg : (l.map (Value.int .i64))[0 + (i : Int).toNat * 1]? = some (.int .i64 l[i]) := by simp [hil]
    have hd : l.drop i = l[i] :: l.drop (i + 1) := (List.drop_eq_getElem_cons hil)
    have hw : IntKind.i64.wrap ((i : Int) + 1) = ((i + 1 : Nat) : Int) := wrap64 (by have := hl; omega)
    refine And.intro ⟨Int.natCast_nonneg i, h, by simp⟩ (Exists.intro _ (And.intro hg ?_))
    refine And.intro (fun h2 => ?_) (fun h2 => ?_)
    · refine VRet.mk [0] (iv _) [.arr (l.map (.int .i64)) T_int] ⟨rfl, rfl, rfl⟩ ⟨?_, rfl⟩
      show iv _ = iv _
      have h2 : l[i] ≠ 0 := by simpa using h2
      rw [ho, hd]; simp [orI, h2]
    · refine Exists.intro _ (And.intro hw ?_)
      refine Exists.intro (i + 1) (Exists.intro [0] (And.intro ⟨⟨hil, ?_⟩, by omega⟩ ⟨rfl, rfl, rfl⟩))
      have h2 : l[i] = 0 := by simpa using h2
      rw [ho, hd]; simp [orI, h2]
  · have h := of_decide_eq_false h
    refine VRet.mk [0] (iv _) [.arr (l.map (.int .i64)) T_int] ⟨rfl, rfl, rfl⟩ ⟨?_, rfl⟩
    show iv _ = iv _
    rw [ho, List.drop_eq_nil_of_le (by omega)]; rfl

def cmpD (x y : Int × Int) : Int := orI [cmpI x.1 y.1, cmpI x.2 y.2]
theorem s_dots_Order (a b c d : Int) : Ctr Try.prog F_dots_Order [.agg (dcells a b), .agg (dcells c d)] [] (fun v H => v = iv (cmpD (a, b) (c, d)) ∧ H = []) := by
  refine i_dots_Order.spec follows ?_
  refine VCall.mk [] (s_Compare_int a c) ⟨rfl, rfl, rfl⟩ ?_
  rintro _ _ ⟨rfl, rfl⟩
  refine And.intro rfl (And.intro rfl ?_)
  refine VCall.mk [] (s_Compare_int64 b d) ⟨rfl, rfl, rfl⟩ ?_
  rintro _ _ ⟨rfl, rfl⟩
  refine VCall.mk [2] (s_Or_int [cmpI a c, cmpI b d] 2 (by simp)) ⟨rfl, rfl, rfl⟩ ?_
  rintro _ _ ⟨rfl, rfl⟩
  exact VRet.mk [] (iv _) [] ⟨rfl, rfl, rfl⟩ ⟨rfl, rfl⟩
end Go.Proofs

namespace Go.Proofs
open Go Go.V
set_option maxRecDepth 100000
set_option linter.unusedVariables false

/-! ### Iterators over dots -/
abbrev dcl (d : Int × Int) : List Value := [.int .i64 d.1, .int .i64 d.2]
abbrev dsv (d : Int × Int) : SV := .agg (dcells d.1 d.2)
theorem el_Dot : Elem Try.prog T_api_Dot (some 2) 2 16 [.int .i64 0, .int .i64 0] dsv dcl where
  shape := by kernel_rfl
  size := by kernel_rfl
  bytes := by kernel_rfl
  zero := by kernel_rfl
  zlen := rfl
  pos := ⟨by omega, by omega⟩
  sv_cells := fun x => .inr ⟨2, rfl, rfl⟩
  len := fun x => rfl
  ok := fun x => rfl

theorem ap_Dot : IsAp Try.prog F_slices_AppendSeq_sl_api_Dot_api_Dot T_sl_api_Dot T_api_Dot (some 2) 2 16 [.int .i64 0, .int .i64 0] [.int .i64 0, .int .i64 0] :=
  ⟨_, _, _, _, _, _, _, _, _, _, _, _, _, rfl, rfl, by kernel_rfl, by kernel_rfl, by kernel_rfl, by kernel_rfl, by kernel_rfl, rfl, rfl⟩

theorem it_Dot : IsIt Try.prog F_maps_Keys_map_api_Dot_bool_api_Dot_bool_1 T_api_Dot (some 2) [.int .i64 0, .int .i64 0] 0 :=
  ⟨_, _, _, _, _, _, _, _, _, _, _, rfl, rfl, by kernel_rfl, by kernel_rfl, by kernel_rfl, by kernel_rfl, rfl, rfl⟩

abbrev T_boxD : TypeId := T_map_api_Dot_bool
def kOf (e : MapEntry) : Int × Int := match e.key with
  | .agg ⟨[.int _ a, .int _ b]⟩ => (a, b)
  | _ => (0, 0)
def keysOf (ms : DM) : List (Int × Int) := ms.map (·.1)

theorem Gives.weak {α : Type} {P : Program} {f : FuncId} {caps : List SV} {H : List SO} {enc : α → Value} {S S' : List α → Prop} {N : Nat} (h : Gives P f caps H enc S N) (hS : ∀ xs, S xs → S' xs) : Gives P f caps H enc S' N := by
  intro l J ρ g W h1 h2 h3 h4
  refine Calls.mono (h l J ρ g W h1 h2 h3 h4) ?_
  rintro e w' ⟨hv, xs, g', h5, h6, h7⟩
  exact ⟨hv, xs, g', hS xs h5, h6, h7⟩

theorem Ctr.weak {P : Program} {f : FuncId} {args : List SV} {H : List SO} {Post Post' : SV → List SO → Prop} (h : Ctr P f args H Post) (hp : ∀ v H', Post v H' → Post' v H') : Ctr P f args H Post' := by
  intro ρ g w h1 h2
  refine Calls.mono (h ρ g w h1 h2) ?_
  rintro e w' ⟨ρ', v, H', h3, h4, h5, h6, h7, h8⟩
  exact ⟨ρ', v, H', h3, h4, h5, h6, h7, hp _ _ h8⟩

theorem gv_Keys (ms : DM) (c : Nat) (hm : MOK ms c) : Gives Try.prog F_maps_Keys_map_api_Dot_bool_api_Dot_bool_1 [.ptr 0 0] [.cells [.mp 1] T_boxD, dmap ms c] (fun x => V.val (fun _ => none) (dsv x)) (fun xs => xs.Perm (keysOf ms)) ms.length := by
  have e1 : (ents encD encU ms).length = ms.length := by simp [ents]
  have e2 : (ents encD encU ms).map kOf = keysOf ms := by
    simp only [ents, keysOf, List.map_map]
    exact List.map_congr_left fun x _ => rfl
  have h := it_gives el_Dot it_Dot (tB := T_boxD) (es := ents encD encU ms) (c := c) kOf ?_ ?_ ?_
  · rw [e1] at h
    refine Gives.weak h ?_
    rintro xs ⟨order, h1, rfl⟩
    rw [← e2]; exact h1.map _
  · intro e he
    obtain ⟨x, _, rfl⟩ := List.mem_map.1 he
    rfl
  · intro e he
    obtain ⟨x, hx, rfl⟩ := List.mem_map.1 he
    exact hm.1 x hx
  · simp only [ents, List.map_map]
    exact hm.2

/-- A row of dots in cells. -/
def Row (xs : List Value) (o c : Nat) (d : List (Int × Int)) : Prop := d.length ≤ c ∧ o + c * 2 ≤ xs.length ∧ (xs.drop o).take (d.length * 2) = d.flatMap dcl

/-- A row's dot. -/
theorem Row.cut {xs : List Value} {o c : Nat} {d : List (Int × Int)} (h : Row xs o c d) (i : Nat) (hi : i < d.length) : V.cut xs (o + i * 2) 2 = some (dcl d[i]) := by
  obtain ⟨h1, h2, h3⟩ := h
  rw [cut_take xs _ 2 (by omega)]
  congr 1
  have hk : ∀ x : Int × Int, (dcl x).length = 2 := fun _ => rfl
  apply List.ext_getElem?
  intro j
  by_cases hj : j < 2
  · rw [List.getElem?_take_of_lt hj, List.getElem?_drop]
    have h4 := flatMap_get hk d (i * 2 + j) (by omega)
    rw [← h3, List.getElem?_take_of_lt (by omega), List.getElem?_drop] at h4
    rw [show o + i * 2 + j = o + (i * 2 + j) by omega, h4, show (i * 2 + j) / 2 = i by omega, show (i * 2 + j) % 2 = j by omega, getElem!_pos d i hi]
  · rw [List.getElem?_eq_none (by simp; omega), List.getElem?_eq_none (by simp; omega)]

theorem s_maps_Keys (ms : DM) (c : Nat) : Ctr Try.prog F_maps_Keys_map_api_Dot_bool_api_Dot_bool [.mp 0] [dmap ms c] (fun x H => x = .fn F_maps_Keys_map_api_Dot_bool_api_Dot_bool_1 [.ptr 1 0] ∧ H = [dmap ms c, .cells [.mp 0] T_boxD]) := by
  refine i_maps_Keys_map_api_Dot_bool_api_Dot_bool.spec follows ?_
  exact VRet.mk [0, 1] (.fn F_maps_Keys_map_api_Dot_bool_api_Dot_bool_1 [.ptr 1 0]) [dmap ms c, .cells [.mp 0] T_boxD] ⟨rfl, rfl, rfl⟩ ⟨rfl, rfl⟩

theorem s_AppendSeq (ms : DM) (c : Nat) (hm : MOK ms c) (hl : ms.length ≤ 1000000) : Ctr Try.prog F_slices_AppendSeq_sl_api_Dot_api_Dot [.raw (.slice none 0 0), .fn F_maps_Keys_map_api_Dot_bool_api_Dot_bool_1 [.ptr 0 0]] [.cells [.mp 1] T_boxD, dmap ms c]
    (fun x H => ∃ d o c' ys, x = .sl 3 o d.length c' ∧ H = [.cells [.mp 1] T_boxD, dmap ms c, .gone, .arr ys T_api_Dot] ∧ d.Perm (keysOf ms) ∧ Row ys o c' d) := by
  have h := ap_ctr el_Dot rfl ap_Dot (gv_Keys ms c hm) (by kernel_rfl) (by omega) rfl
  refine Ctr.weak h ?_
  rintro x H ⟨d, o, c', ys, h1, rfl, rfl, h2, h3, h4⟩
  exact ⟨d, o, c', ys, rfl, rfl, h1, h2, h3, h4⟩

theorem s_Collect (ms : DM) (c : Nat) (hm : MOK ms c) (hl : ms.length ≤ 1000000) : Ctr Try.prog F_slices_Collect_api_Dot [.fn F_maps_Keys_map_api_Dot_bool_api_Dot_bool_1 [.ptr 0 0]] [.cells [.mp 1] T_boxD, dmap ms c]
    (fun x H => ∃ d o c' ys, x = .sl 2 o d.length c' ∧ H = [.cells [.mp 1] T_boxD, dmap ms c, .arr ys T_api_Dot] ∧ d.Perm (keysOf ms) ∧ Row ys o c' d) := by
  refine i_slices_Collect_api_Dot.spec follows ?_
  refine VCall.mk [0, 1] (s_AppendSeq ms c hm hl) ⟨rfl, rfl, rfl⟩ ?_
  rintro _ _ ⟨d, o, c', ys, rfl, rfl, hp, hr⟩
  exact VRet.mk [0, 1, 3] (.sl 2 o d.length c') [.cells [.mp 1] T_boxD, dmap ms c, .arr ys T_api_Dot] ⟨rfl, rfl, rfl⟩ ⟨d, o, c', ys, rfl, rfl, hp, hr⟩

theorem cmpD_lt {x y : Int × Int} : cmpD x y < 0 ↔ x.1 < y.1 ∨ (x.1 = y.1 ∧ x.2 < y.2) := by
  simp only [cmpD, orI, cmpI]
  by_cases h1 : x.1 < y.1
  · simp [h1]
  · by_cases h2 : y.1 < x.1
    · simp [h1, h2]; omega
    · by_cases h3 : x.2 < y.2
      · simp [h1, h2, h3]; omega
      · by_cases h4 : y.2 < x.2
        · simp [h1, h2, h3, h4]
        · simp [h1, h2, h3, h4]
theorem ltOf_cmpD {x y : Int × Int} : ltOf cmpD x y = true ↔ x.1 < y.1 ∨ (x.1 = y.1 ∧ x.2 < y.2) := by
  simp only [ltOf, decide_eq_true_iff]; exact cmpD_lt
theorem swo_cmpD : Sort.SWO (ltOf cmpD) where
  irrefl := fun x => by rw [Bool.eq_false_iff, Ne, ltOf_cmpD]; omega
  trans := fun x y z => by rw [ltOf_cmpD, ltOf_cmpD, ltOf_cmpD]; omega
  ntrans := fun x y z => by rw [Bool.eq_false_iff, Bool.eq_false_iff, Bool.eq_false_iff, Ne, Ne, Ne, ltOf_cmpD, ltOf_cmpD, ltOf_cmpD]; omega

theorem s_SortFunc (d : List (Int × Int)) (xs : List Value) (o c : Nat) (hr : Row xs o c d) (hl : d.length ≤ 1000000) : Ctr Try.prog F_slices_SortFunc_sl_api_Dot_api_Dot [.sl 0 o d.length c, .fn F_dots_Order []] [.arr xs T_api_Dot]
    (fun x H => ∃ d' xs', x = .tup [] ∧ H = [.arr xs' T_api_Dot] ∧ d'.Perm d ∧ d'.Pairwise (fun a b => ¬ cmpD b a < 0) ∧ Row xs' o c d') := by
  obtain ⟨h1, h2, h3⟩ := hr
  have h := sortK_ctr Try.sortDot Try.sortDot_agg Try.sortDot_size (cells := dcl) (fun _ => rfl) (by omega) (fun _ => rfl) cmpD swo_cmpD (gq := F_dots_Order) (by kernel_rfl)
    (fun x y => Ctr.weak (s_dots_Order x.1 x.2 y.1 y.2) (fun v H' h => h.1)) (H := [.arr xs T_api_Dot]) (j := 0) (off := o) (cap := c) (xs := xs) (e := T_api_Dot) rfl d h3 (by omega) (by omega)
  refine Ctr.weak h ?_
  rintro v H' ⟨rfl, d', hp, hs, rfl⟩
  have hl := hp.length_eq
  have hf : (d'.flatMap dcl).length = d'.length * 2 := flatMap_len (f := dcl) (k := 2) (fun _ => rfl) d'
  refine ⟨d', _, rfl, rfl, hp, ?_, by omega, by rw [rowSet_len (by omega)]; omega, ?_⟩
  · refine hs.imp fun {a b} h => ?_
    simpa [ltOf] using h
  · rw [← hf]; exact rowSet_cut (by omega)

theorem s_SortedFunc (ms : DM) (c : Nat) (hm : MOK ms c) (hl : ms.length ≤ 1000000) : Ctr Try.prog F_slices_SortedFunc_api_Dot [.fn F_maps_Keys_map_api_Dot_bool_api_Dot_bool_1 [.ptr 0 0], .fn F_dots_Order []] [.cells [.mp 1] T_boxD, dmap ms c]
    (fun x H => ∃ d o c' ys, x = .sl 2 o d.length c' ∧ H = [.cells [.mp 1] T_boxD, dmap ms c, .arr ys T_api_Dot] ∧ d.Perm (keysOf ms) ∧ d.Pairwise (fun a b => ¬ cmpD b a < 0) ∧ Row ys o c' d) := by
  refine i_slices_SortedFunc_api_Dot.spec follows ?_
  refine VCall.mk [0, 1] (s_Collect ms c hm hl) ⟨rfl, rfl, rfl⟩ ?_
  rintro _ _ ⟨d, o, c', ys, rfl, rfl, hp, hr⟩
  have hdl : d.length ≤ 1000000 := by have := hp.length_eq; simp [keysOf] at this; omega
  refine VCall.mk [2] (s_SortFunc d ys o c' hr hdl) ⟨rfl, rfl, rfl⟩ ?_
  rintro _ _ ⟨d', xs', rfl, rfl, hp', hs, hr'⟩
  have hlen : d.length = d'.length := hp'.length_eq.symm
  refine VRet.mk [0, 1, 2] (.sl 2 o d.length c') [.cells [.mp 1] T_boxD, dmap ms c, .arr xs' T_api_Dot] ⟨rfl, rfl, rfl⟩ ⟨d', o, c', xs', ?_, rfl, hp'.trans hp, hs, hr'⟩
  show SV.sl 2 o d.length c' = _
  rw [hlen]

theorem s_Loose (v : Nat → Int) (ms : DM) (c : Nat) (hm : MOK ms c) (hl : ms.length ≤ 1000000) : Ctr Try.prog F_dots_Dots_Loose [.ptr 0 0] [.cells (dcs v 1) T_dots_Dots, dmap ms c]
    (fun x H => ∃ d o c' ys, x = .sl 2 o d.length c' ∧ H = [.cells (dcs v 1) T_dots_Dots, dmap ms c, .arr ys T_api_Dot] ∧ d.Perm (keysOf ms) ∧ d.Pairwise (fun a b => ¬ cmpD b a < 0) ∧ Row ys o c' d) := by
  refine i_dots_Dots_Loose.spec follows ?_
  refine VCall.mk [1] (s_maps_Keys ms c) ⟨rfl, rfl, rfl⟩ ?_
  rintro _ _ ⟨rfl, rfl⟩
  refine VCall.mk [2, 1] (s_SortedFunc ms c hm hl) ⟨rfl, rfl, rfl⟩ ?_
  rintro _ _ ⟨d, o, c', ys, rfl, rfl, hp, hs, hr⟩
  exact VRet.mk [0, 1, 3] (.sl 2 o d.length c') [.cells (dcs v 1) T_dots_Dots, dmap ms c, .arr ys T_api_Dot] ⟨rfl, rfl, rfl⟩ ⟨d, o, c', ys, rfl, rfl, hp, hs, hr⟩
end Go.Proofs

namespace Go.Proofs
open Go Go.V
set_option maxRecDepth 100000
set_option linter.unusedVariables false

/-! ### Canonical states -/
theorem Canon.vle {v v' : Nat → Int} {ms ms' : DM} {S S' : Int × Int → Prop} (h : Canon v ms S) (h' : Canon v' ms' S') (hs : ∀ d, S d → S' d) (i : Nat) (hi : i < 7) : v i ≤ v' i := by
  refine Int.not_lt.1 fun hlt => ?_
  have hl := h.lo i hi
  have hl' := h'.lo i hi
  have h1 : S ((i : Int), v' i + 1) := (h.seen _).2 (.inl (has_iff.2 ⟨⟨by simp only; omega, by simp only; omega⟩, by simp only; omega, by simp only [Int.toNat_natCast]; omega⟩))
  rcases (h'.seen _).1 (hs _ h1) with h2 | h2
  · have := (has_iff.1 h2).2.2
    simp only [Int.toNat_natCast] at this; omega
  · have := h'.gap _ h2
    simp only [Int.toNat_natCast] at this; omega
theorem Canon.inMle {v v' : Nat → Int} {ms ms' : DM} {S S' : Int × Int → Prop} (h : Canon v ms S) (h' : Canon v' ms' S') (hs : ∀ d, S d ↔ S' d) (d : Int × Int) (hd : inM ms d = true) : inM ms' d = true := by
  have hf := h.far d hd
  have hr := isDot_rep hf.1
  rcases (h'.seen d).1 ((hs d).1 ((h.seen d).2 (.inr hd))) with h2 | h2
  · have h3 := (has_iff.1 h2).2.2
    have := h'.vle h (fun d => (hs d).2) d.1.toNat (by omega)
    omega
  · exact h2
theorem Canon.uniq {v v' : Nat → Int} {ms ms' : DM} {S S' : Int × Int → Prop} (h : Canon v ms S) (h' : Canon v' ms' S') (hs : ∀ d, S d ↔ S' d) : (∀ i, i < 7 → v i = v' i) ∧ (∀ d, inM ms d = inM ms' d) ∧ (keysOf ms).Perm (keysOf ms') := by
  have h1 : ∀ d, inM ms d = inM ms' d := fun d => Bool.eq_iff_iff.2 ⟨h.inMle h' hs d, h'.inMle h (fun d => (hs d).symm) d⟩
  refine ⟨fun i hi => Int.le_antisymm (h.vle h' (fun d => (hs d).1) i hi) (h'.vle h (fun d => (hs d).2) i hi), h1, ?_⟩
  refine (List.perm_ext_iff_of_nodup h.nd h'.nd).2 fun d => ?_
  have := h1 d
  unfold inM at this
  constructor
  · intro hd; exact get_mem.1 (by rw [← this]; exact get_mem.2 hd)
  · intro hd; exact get_mem.1 (by rw [this]; exact get_mem.2 hd)

theorem Canon.zero : Canon (fun _ => 0) [] (fun _ => False) where
  lo := fun r _ => ⟨by omega, by omega⟩
  nd := by simp
  seen := fun d => by
    constructor
    · exact fun h => h.elim
    · rintro (h | h)
      · have := (has_iff.1 h).2; omega
      · simp [inM, get_nil] at h
  far := fun d h => by simp [inM, get_nil] at h
  gap := fun d h => by simp [inM, get_nil] at h

/-! ### Len -/
def sumN (v : Nat → Int) : Nat → Int
  | 0 => 0
  | n + 1 => sumN v n + v n
theorem sumN_le {v : Nat → Int} (h : ∀ r, r < 7 → 0 ≤ v r ∧ v r ≤ 1099511627776) : ∀ n, n ≤ 7 → 0 ≤ sumN v n ∧ sumN v n ≤ n * 1099511627776
  | 0, _ => by simp [sumN]
  | n + 1, hn => by
    have := sumN_le h n (by omega)
    have := h n (by omega)
    simp only [sumN]; omega
def lenOf (v : Nat → Int) (ms : DM) : Int := ms.length + sumN v 7
theorem s_Len (v : Nat → Int) (ms : DM) (c : Nat) (hv : ∀ r, r < 7 → 0 ≤ v r ∧ v r ≤ 1099511627776) (hl : ms.length ≤ 1000000) : Ctr Try.prog F_dots_Dots_Len [.ptr 0 0] [.cells (dcs v 1) T_dots_Dots, dmap ms c]
    (fun x H => x = iv (lenOf v ms) ∧ H = [.cells (dcs v 1) T_dots_Dots, dmap ms c]) := by
  refine i_dots_Dots_Len.spec follows ?_
  refine VLoop.mk (Nat × Int) (fun x => [(3, iv x.2), (14, .agg (vcells v)), (15, iv x.1)]) (fun i => [.cells (dcs v 1) T_dots_Dots, dmap ms c])
    (fun x => x.1 ≤ 7 ∧ x.2 = ms.length + sumN v x.1) (fun x => 7 - x.1) (0, ((ents encD encU ms).length : Int)) [0, 1] ⟨⟨Nat.zero_le _, by simp [ents, sumN]⟩, rfl, rfl, rfl⟩ ?_
  rintro ⟨i, n⟩ ⟨hi, hn⟩ g
  simp only at hi hn
  have hs := sumN_le hv i hi
  refine And.intro (fun h => ?_) (fun h => ?_)
  · have h := of_decide_eq_true h
    have hi7 : 0 ≤ (i : Int) ∧ (i : Int) < 7 := ⟨by omega, h⟩
    have := hv i (by simp only at h; omega)
    have hw : IntKind.i64.wrap ((i : Int) + 1) = ((i + 1 : Nat) : Int) := wrap64 (by omega)
    have hw2 : IntKind.i64.wrap (n + v (i : Int).toNat) = (ms.length : Int) + sumN v (i + 1) := by
      rw [wrap64 (by rw [Int.toNat_natCast]; omega), Int.toNat_natCast, sumN]; omega
    have hg : (vcells v)[(i : Int).toNat * 1]? = some (iv (v (i : Int).toNat)) := by have := vcells_get' v hi7 []; simpa using this
    refine And.intro hi7 (Exists.intro _ (And.intro hg ?_))
    refine Exists.intro _ (And.intro hw2 ?_)
    refine Exists.intro _ (And.intro hw ?_)
    refine Exists.intro (i + 1, (ms.length : Int) + sumN v (i + 1)) (Exists.intro [0, 1] (And.intro ⟨⟨by simp only at h ⊢; omega, rfl⟩, by simp only at h ⊢; omega⟩ ⟨rfl, rfl, rfl⟩))
  · have h := of_decide_eq_false h
    refine VRet.mk [0, 1] (iv _) [.cells (dcs v 1) T_dots_Dots, dmap ms c] ⟨rfl, rfl, rfl⟩ ⟨?_, rfl⟩
    show iv _ = iv _
    have : i = 7 := by simp only at h; omega
    subst this; rw [hn]; rfl

theorem isDot_of {r n : Int} (h1 : 0 ≤ r ∧ r < 7) (h2 : 1 ≤ n ∧ n ≤ 1099511627776) : isDot r n = true := isDot_iff.2 ⟨h1, h2⟩
/-- A dot that may be, and was not seen: it is added. -/
theorem AddR.fresh {v : Nat → Int} {ms : DM} {S : Int × Int → Prop} {d : Int × Int} {a : Bool} {e : Int} {v' : Nat → Int} {ms' : DM} (h : AddR v ms S d a e v' ms') (hd : isDot d.1 d.2 = true) (hn : ¬ S d) (hl : ms.length < 1000) :
    a = true ∧ e = 0 ∧ Canon v' ms' (fun x => x = d ∨ S x) := by
  rcases h with ⟨h1, _⟩ | ⟨_, h1, _⟩ | ⟨_, _, _, h1, _⟩ | ⟨_, _, _, h1⟩
  · rw [hd] at h1; cases h1
  · exact (hn h1).elim
  · omega
  · exact h1

theorem canon1 : Canon (fun _ => 0) [((0, 2), (), 0)] (fun x => x = (0, 2) ∨ False) where
  lo := fun r _ => ⟨by omega, by omega⟩
  nd := by simp
  seen := fun d => by
    have : has (fun _ => 0) d.1 d.2 = false := by
      cases h : has (fun _ => 0) d.1 d.2 with
      | false => rfl
      | true => have := (has_iff.1 h).2; omega
    rw [this]
    unfold inM
    rw [get_cons, get_nil]
    by_cases hd : d = (0, 2) <;> simp [hd]
  far := fun d h => by
    unfold inM at h
    rw [get_cons, get_nil] at h
    by_cases hd : d = (0, 2)
    · subst hd; exact ⟨isDot_of (by simp) (by simp), by simp⟩
    · simp [hd] at h
  gap := fun d h => by
    unfold inM at h
    rw [get_cons, get_nil] at h
    by_cases hd : d = (0, 2)
    · subst hd; simp
    · simp [hd] at h
theorem canon2 : Canon (fun i => if i = 0 then 2 else 0) [] (fun x => x = (0, 1) ∨ x = (0, 2) ∨ False) where
  lo := fun r _ => by split <;> omega
  nd := by simp
  seen := fun ⟨r, n⟩ => by
    rw [has_iff]
    simp only [inM, get_nil, Option.isSome_none, Bool.false_eq_true, or_false, Prod.mk.injEq]
    split <;> omega
  far := fun d h => by simp [inM, get_nil] at h
  gap := fun d h => by simp [inM, get_nil] at h

theorem keysOf_nil {ms : DM} (h : (keysOf ms).Perm []) : ms = [] := by
  have := h.length_eq; simp [keysOf] at this; exact this
theorem dcs_congr {v v' : Nat → Int} (h : ∀ i, i < 7 → v i = v' i) (k : Nat) : dcs v k = dcs v' k := by
  simp only [dcs]
  rw [h 0 (by omega), h 1 (by omega), h 2 (by omega), h 3 (by omega), h 4 (by omega), h 5 (by omega), h 6 (by omega)]

/-- The document's gap. -/
theorem s_awake : Ctr Try.prog F_rostrumlaw8_awake [] [] (fun x H => x = bv true ∧ H = []) := by
  refine i_rostrumlaw8_awake.spec follows ?_
  refine VCall.mk [] s_dots_New ⟨rfl, rfl, rfl⟩ ?_
  rintro _ _ ⟨rfl, rfl⟩
  refine VCall.mk [1, 0] (s_Add (fun _ => 0) [] 0 (fun _ => False) Canon.zero (MOK.nil 0) 0 2) ⟨rfl, rfl, rfl⟩ ?_
  rintro _ _ ⟨a, e, v1, ms1, c1, rfl, rfl, hR, hM⟩
  obtain ⟨rfl, rfl, hC⟩ := hR.fresh (isDot_of (by simp) (by simp)) (by simp) (by simp)
  obtain ⟨hv1, hm1, hk1⟩ := hC.uniq canon1 (fun _ => Iff.rfl)
  have hl1 : ms1.length = 1 := by have := hk1.length_eq; simpa [keysOf] using this
  refine VCall.mk [1, 0] (s_Loose v1 ms1 c1 hM (by omega)) ⟨rfl, rfl, rfl⟩ ?_
  rintro _ _ ⟨d, o, c', ys, rfl, rfl, hp, -, hr⟩
  have hd : d = [(0, 2)] := List.perm_singleton.1 (hp.trans hk1)
  subst hd
  refine VCall.mk [1, 0] (s_Add v1 ms1 c1 _ hC hM 0 1) ⟨rfl, rfl, rfl⟩ ?_
  rintro _ _ ⟨a, e, v2, ms2, c2, rfl, rfl, hR2, hM2⟩
  obtain ⟨rfl, rfl, hC2⟩ := hR2.fresh (isDot_of (by simp) (by simp)) (by simp) (by omega)
  obtain ⟨hv2, hm2, hk2⟩ := hC2.uniq canon2 (fun _ => Iff.rfl)
  have hm2' : ms2 = [] := keysOf_nil hk2
  subst hm2'
  refine And.intro (fun _ => ?_) (fun h => absurd h (by decide))
  refine And.intro (fun _ => ?_) (fun h => absurd h (by decide))
  refine And.intro (fun _ => ?_) (fun h => absurd h (by decide))
  refine And.intro ⟨by omega, by simp, by have := hr.1; have := hr.2.1; simp at *; omega⟩ ?_
  refine Exists.intro _ (And.intro (hr.cut 0 (by simp)) ?_)
  refine And.intro (fun _ => ?_) (fun h => absurd h (by decide))
  refine And.intro (fun _ => ?_) (fun h => absurd h (by decide))
  refine And.intro (fun _ => ?_) (fun h => absurd h (by decide))
  refine VCall.mk [1, 0] (s_dots_Dots_Vec v2 [] c2) ⟨rfl, rfl, rfl⟩ ?_
  rintro _ _ ⟨rfl, rfl⟩
  have e0 := hv2 0 (by omega)
  have e1 := hv2 1 (by omega)
  have e2 := hv2 2 (by omega)
  have e3 := hv2 3 (by omega)
  have e4 := hv2 4 (by omega)
  have e5 := hv2 5 (by omega)
  have e6 := hv2 6 (by omega)
  simp at e0 e1 e2 e3 e4 e5 e6
  refine And.intro (fun _ => ?_) (fun h => absurd h (by simp [e0, e1, e2, e3, e4, e5, e6]))
  refine VCall.mk [1, 0] (s_Loose v2 [] c2 hM2 (by simp)) ⟨rfl, rfl, rfl⟩ ?_
  rintro _ _ ⟨d2, o2, c2', ys2, rfl, rfl, hp2, -, hr2⟩
  have hd2 : d2 = [] := List.perm_nil.1 hp2
  subst hd2
  refine And.intro (fun _ => ?_) (fun h => absurd h (by decide))
  refine VCall.mk [1, 0] (s_Len v2 [] c2 hC2.lo (by simp)) ⟨rfl, rfl, rfl⟩ ?_
  rintro _ _ ⟨rfl, rfl⟩
  refine VRet.mk [] (bv _) [] ⟨rfl, rfl, rfl⟩ ⟨?_, rfl⟩
  show bv _ = bv _
  simp [lenOf, sumN, e0, e1, e2, e3, e4, e5, e6]
end Go.Proofs

namespace Go.Proofs
open Go Go.V
set_option maxRecDepth 100000
set_option linter.unusedVariables false

/-! ### How many were seen -/
def clk (v : Nat → Int) (n : Nat) : List (Int × Int) := (List.range n).flatMap fun r => (List.range (v r).toNat).map fun (k : Nat) => ((r : Int), (k : Int) + 1)
def allOf (v : Nat → Int) (ms : DM) : List (Int × Int) := clk v 7 ++ keysOf ms
theorem mem_clk {v : Nat → Int} {n : Nat} {d : Int × Int} : d ∈ clk v n ↔ ∃ r : Nat, r < n ∧ d.1 = r ∧ 1 ≤ d.2 ∧ d.2 ≤ v r := by
  simp only [clk, List.mem_flatMap, List.mem_range, List.mem_map]
  constructor
  · rintro ⟨r, hr, k, hk, rfl⟩
    exact ⟨r, hr, rfl, by simp only; omega, by simp only; omega⟩
  · rintro ⟨r, hr, h1, h2, h3⟩
    refine ⟨r, hr, (d.2 - 1).toNat, by omega, ?_⟩
    ext
    · exact h1.symm
    · simp only; omega
theorem mem_clk7 {v : Nat → Int} {d : Int × Int} : d ∈ clk v 7 ↔ has v d.1 d.2 = true := by
  rw [mem_clk, has_iff]
  constructor
  · rintro ⟨r, hr, h1, h2, h3⟩
    rw [h1]; simp only [Int.toNat_natCast]; omega
  · rintro ⟨h1, h2, h3⟩
    exact ⟨d.1.toNat, by omega, by omega, h2, h3⟩
theorem len_clk {v : Nat → Int} (hv : ∀ r, r < 7 → 0 ≤ v r ∧ v r ≤ 1099511627776) : ∀ n, n ≤ 7 → ((clk v n).length : Int) = sumN v n
  | 0, _ => by simp [clk, sumN]
  | n + 1, hn => by
    have := len_clk hv n (by omega)
    have h := hv n (by omega)
    simp only [clk] at this ⊢
    rw [List.range_succ, List.flatMap_append, List.length_append, sumN, Int.natCast_add, this]
    simp; omega
theorem nodup_clk (v : Nat → Int) (n : Nat) : (clk v n).Nodup := by
  unfold clk List.Nodup
  rw [List.pairwise_flatMap]
  refine ⟨fun r _ => ?_, ?_⟩
  · rw [List.pairwise_map]
    refine List.Pairwise.imp ?_ (List.nodup_range (n := (v r).toNat))
    intro a b hab h
    simp only [Prod.mk.injEq] at h; omega
  · refine List.Pairwise.imp ?_ (List.nodup_range (n := n))
    intro a b hab x hx y hy h
    obtain ⟨k, _, rfl⟩ := List.mem_map.1 hx
    obtain ⟨k', _, rfl⟩ := List.mem_map.1 hy
    simp only [Prod.mk.injEq] at h; omega
theorem mem_keysOf {ms : DM} {d : Int × Int} : d ∈ keysOf ms ↔ inM ms d = true := get_mem.symm
theorem Pre.nodup {v : Nat → Int} {ms : DM} {S : Int × Int → Prop} (h : Pre v ms S) : (allOf v ms).Nodup := by
  unfold allOf
  rw [List.nodup_append]
  refine ⟨nodup_clk v 7, h.nd, fun a ha b hb => ?_⟩
  rintro rfl
  have h1 := has_iff.1 (mem_clk7.1 ha)
  have h2 := (h.far _ (mem_keysOf.1 hb)).2
  omega
theorem Pre.mem_all {v : Nat → Int} {ms : DM} {S : Int × Int → Prop} (h : Pre v ms S) (d : Int × Int) : d ∈ allOf v ms ↔ S d := by
  unfold allOf
  rw [List.mem_append, h.seen, mem_clk7, mem_keysOf]
theorem Pre.len_all {v : Nat → Int} {ms : DM} {S : Int × Int → Prop} (h : Pre v ms S) : ((allOf v ms).length : Int) = lenOf v ms := by
  have := len_clk h.lo 7 (Nat.le_refl _)
  simp only [allOf, List.length_append, lenOf, Int.natCast_add, this, keysOf, List.length_map]; omega
/-- One more. -/
theorem Canon.len_add {v v' : Nat → Int} {ms ms' : DM} {S : Int × Int → Prop} {d : Int × Int} (h : Canon v ms S) (h' : Canon v' ms' (fun x => x = d ∨ S x)) (hn : ¬ S d) : lenOf v' ms' = lenOf v ms + 1 := by
  rw [← h.len_all, ← h'.len_all]
  have hp : (allOf v' ms').Perm (d :: allOf v ms) := by
    refine (List.perm_ext_iff_of_nodup h'.nodup (List.nodup_cons.2 ⟨fun e => hn ((h.mem_all d).1 e), h.nodup⟩)).2 fun x => ?_
    rw [h'.mem_all, List.mem_cons, h.mem_all]
  rw [hp.length_eq]; simp
/-- No fewer. -/
theorem Canon.len_le {v v' : Nat → Int} {ms ms' : DM} {S S' : Int × Int → Prop} (h : Canon v ms S) (h' : Canon v' ms' S') (hs : ∀ d, S d → S' d) : lenOf v ms ≤ lenOf v' ms' := by
  rw [← h.len_all, ← h'.len_all]
  have hp : ((allOf v' ms').filter (fun x => decide (x ∈ allOf v ms))).Perm (allOf v ms) := by
    refine (List.perm_ext_iff_of_nodup (List.Pairwise.filter _ h'.nodup) h.nodup).2 fun x => ?_
    rw [List.mem_filter, h'.mem_all]
    constructor
    · rintro ⟨_, h2⟩; exact of_decide_eq_true h2
    · intro h2; exact ⟨hs x ((h.mem_all x).1 h2), decide_eq_true h2⟩
  have h1 := hp.length_eq
  have h2 := List.length_filter_le (fun x => decide (x ∈ allOf v ms)) (allOf v' ms')
  omega

/-- Those loose, in order: one list. -/
def Srt (ms : DM) (d : List (Int × Int)) : Prop := d.Perm (keysOf ms) ∧ d.Pairwise (fun a b => ¬ cmpD b a < 0)
theorem Srt.uniq {ms : DM} {d d' : List (Int × Int)} (h : Srt ms d) (h' : Srt ms d') : d = d' := by
  refine List.Perm.eq_of_pairwise (le := fun a b => ¬ cmpD b a < 0) ?_ h.2 h'.2 (h.1.trans h'.1.symm)
  intro a b _ _ h1 h2
  rw [cmpD_lt] at h1 h2
  ext
  · omega
  · omega
theorem Srt.mem {ms : DM} {d : List (Int × Int)} (h : Srt ms d) (x : Int × Int) : x ∈ d ↔ inM ms x = true := by
  rw [h.1.mem_iff, mem_keysOf]
end Go.Proofs

