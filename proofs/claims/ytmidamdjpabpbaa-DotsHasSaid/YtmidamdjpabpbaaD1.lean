/- Part of the proof that the statement named in the last file holds: lemmas of the prover's own. No conditions. -/
import Derived.Test.YtmidamdjpabpbaaB1
import Derived.Test.YtmidamdjpabpbaaK8
namespace Go.Proofs
open Go Go.V
set_option maxRecDepth 100000
set_option linter.unusedVariables false

def isRep (n : Int) : Bool := decide (0 ≤ n ∧ n < 7)
theorem isRep_iff {n : Int} : isRep n = true ↔ 0 ≤ n ∧ n < 7 := by simp [isRep]
theorem isRep_not {n : Int} : isRep n = false ↔ ¬ (0 ≤ n ∧ n < 7) := by simp [isRep]
theorem s_vec_Rep (n : Int) : Ctr Try.prog F_vec_Rep [iv n] [] (fun v H => v = bv (isRep n) ∧ H = []) := by
  refine i_vec_Rep.spec follows ?_
  refine And.intro (fun h => ?_) (fun h => ?_)
  · refine VRet.mk [] (bv _) [] ⟨rfl, rfl, rfl⟩ ⟨?_, rfl⟩
    show bv _ = bv _
    have h := of_decide_eq_true h
    simp [isRep, h]
  · refine VRet.mk [] (bv _) [] ⟨rfl, rfl, rfl⟩ ⟨?_, rfl⟩
    show bv _ = bv _
    have h := of_decide_eq_false h
    simp [isRep, h]

def isDot (r n : Int) : Bool := isRep r && (decide (1 ≤ n) && decide (n ≤ 1099511627776))
theorem s_vec_Dot (r n : Int) : Ctr Try.prog F_vec_Dot [.agg (dcells r n)] [] (fun v H => v = bv (isDot r n) ∧ H = []) := by
  refine i_vec_Dot.spec follows ?_
  refine VCall.mk [] (s_vec_Rep _) ⟨rfl, rfl, rfl⟩ ?_
  rintro _ _ ⟨rfl, rfl⟩
  refine And.intro (fun h => ?_) (fun h => ?_)
  · refine And.intro (fun h2 => ?_) (fun h2 => ?_)
    · refine VRet.mk [] (bv _) [] ⟨rfl, rfl, rfl⟩ ⟨?_, rfl⟩
      show bv _ = bv _
      simp [isDot, h, h2]
    · refine VRet.mk [] (bv _) [] ⟨rfl, rfl, rfl⟩ ⟨?_, rfl⟩
      show bv _ = bv _
      simp [isDot, h, h2]
  · refine VRet.mk [] (bv _) [] ⟨rfl, rfl, rfl⟩ ⟨?_, rfl⟩
    show bv _ = bv _
    simp [isDot, h]

def has (v : Nat → Int) (r n : Int) : Bool := isRep r && (decide (1 ≤ n) && decide (n ≤ v r.toNat))
theorem s_vec_Has (v : Nat → Int) (r n : Int) : Ctr Try.prog F_vec_Has [.agg (vcells v), .agg (dcells r n)] [] (fun x H => x = bv (has v r n) ∧ H = []) := by
  refine i_vec_Has.spec follows ?_
  refine VCall.mk [] (s_vec_Rep _) ⟨rfl, rfl, rfl⟩ ?_
  rintro _ _ ⟨rfl, rfl⟩
  refine And.intro (fun h => ?_) (fun h => ?_)
  · refine And.intro (fun h2 => ?_) (fun h2 => ?_)
    · refine And.intro (isRep_iff.1 h) (Exists.intro _ (And.intro (vcells_get' v (isRep_iff.1 h) []) ?_))
      refine VRet.mk [] (bv _) [] ⟨rfl, rfl, rfl⟩ ⟨?_, rfl⟩
      show bv _ = bv _
      simp [has, h, h2]
    · refine VRet.mk [] (bv _) [] ⟨rfl, rfl, rfl⟩ ⟨?_, rfl⟩
      show bv _ = bv _
      simp [has, h, h2]
  · refine VRet.mk [] (bv _) [] ⟨rfl, rfl, rfl⟩ ⟨?_, rfl⟩
    show bv _ = bv _
    simp [has, h]

/-! ### Dots -/
abbrev encD (d : Int × Int) : Value := .agg #[.int .i64 d.1, .int .i64 d.2]
abbrev encU (_ : Unit) : Value := .bool true
abbrev DM := List ((Int × Int) × Unit × Nat)
abbrev dmap (ms : DM) (c : Nat) : SO := .map (ents encD encU ms) c
abbrev dcs (v : Nat → Int) (k : Nat) : List SV := [iv (v 0), iv (v 1), iv (v 2), iv (v 3), iv (v 4), iv (v 5), iv (v 6), .mp k]
def inM (ms : DM) (d : Int × Int) : Bool := (MP.get ms d).isSome

theorem keyT_Dot {mt et : TypeId} (h : Try.prog.underlying mt = some (.map T_api_Dot et)) : KeyT Try.prog mt et encD where
  ex := by
    have h1 : clsT Try.prog 2 T_api_Dot = some [.i, .i] := by kernel_rfl
    have h2 : isAggT Try.prog T_api_Dot = some true := by kernel_rfl
    refine ⟨T_api_Dot, 2, _, h, by omega, by omega, h1, fun a => ⟨[.int .i64 a.1, .int .i64 a.2], by simp [mkV, h2], rfl, fun b ys hb hl => ?_⟩⟩
    have : ys = [.int .i64 b.1, .int .i64 b.2] := by
      simp only [mkV, h2, if_true] at hb
      injection hb with hb
      have := congrArg Array.toList hb
      simpa using this.symm
    subst this
    refine ⟨decide (a.1 = b.1) && decide (a.2 = b.2), by simp [eqV, eq1V], ?_⟩
    simp [Prod.ext_iff]
  bits := fun a => by simp [Instr.sameBits]

theorem kD : KeyT Try.prog T_map_api_Dot_bool T_bool encD := keyT_Dot (by kernel_rfl)
theorem lookD (ms : DM) (d : Int × Int) : LookupIs Try.prog T_map_api_Dot_bool (ents encD encU ms) (encD d) (.bool (inM ms d)) (inM ms d) := by
  have := lookup_is (encv := encU) kD (z := .bool false) (by kernel_rfl) ms d
  unfold inM
  cases h : MP.get ms d <;> rw [h] at this <;> exact this

theorem s_dots_New : Ctr Try.prog F_dots_New [] [] (fun x H => x = .ptr 1 0 ∧ H = [dmap [] 0, .cells (dcs (fun _ => 0) 0) T_dots_Dots]) := by
  refine i_dots_New.spec follows ?_
  exact VRet.mk [0, 1] _ [dmap [] 0, .cells (dcs (fun _ => 0) 0) T_dots_Dots] ⟨rfl, rfl, rfl⟩ ⟨rfl, rfl⟩

theorem s_dots_Dots_Has (v : Nat → Int) (ms : DM) (c : Nat) (r n : Int) : Ctr Try.prog F_dots_Dots_Has [.ptr 0 0, .agg (dcells r n)] [.cells (dcs v 1) T_dots_Dots, dmap ms c]
    (fun x H => x = bv (has v r n || inM ms (r, n)) ∧ H = [.cells (dcs v 1) T_dots_Dots, dmap ms c]) := by
  refine i_dots_Dots_Has.spec follows ?_
  refine VCall.mk [] (s_vec_Has v r n) ⟨rfl, rfl, rfl⟩ ?_
  rintro _ _ ⟨rfl, rfl⟩
  refine And.intro (fun h => ?_) (fun h => ?_)
  · refine Exists.intro (bv (inM ms (r, n))) (Exists.intro _ (Exists.intro _ (And.intro (lookD ms (r, n)) (And.intro rfl ?_))))
    refine VRet.mk [0, 1] (bv _) [.cells (dcs v 1) T_dots_Dots, dmap ms c] ⟨rfl, rfl, rfl⟩ ⟨?_, rfl⟩
    show bv _ = bv _
    simp [h]
  · refine VRet.mk [0, 1] (bv _) [.cells (dcs v 1) T_dots_Dots, dmap ms c] ⟨rfl, rfl, rfl⟩ ⟨?_, rfl⟩
    show bv _ = bv _
    simp at h
    simp [h]

theorem s_dots_Dots_Vec (v : Nat → Int) (ms : DM) (c : Nat) : Ctr Try.prog F_dots_Dots_Vec [.ptr 0 0] [.cells (dcs v 1) T_dots_Dots, dmap ms c]
    (fun x H => x = .agg (vcells v) ∧ H = [.cells (dcs v 1) T_dots_Dots, dmap ms c]) := by
  refine i_dots_Dots_Vec.spec follows ?_
  exact VRet.mk [0, 1] _ [.cells (dcs v 1) T_dots_Dots, dmap ms c] ⟨rfl, rfl, rfl⟩ ⟨rfl, rfl⟩
end Go.Proofs
