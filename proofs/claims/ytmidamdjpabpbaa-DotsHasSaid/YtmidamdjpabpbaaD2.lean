/- Part of the proof that the statement named in the last file holds: lemmas of the prover's own. No conditions. -/
import Derived.Test.YtmidamdjpabpbaaD1
namespace Go.Proofs
open Go Go.V
set_option maxRecDepth 100000
set_option linter.unusedVariables false

/-! ### The plain law: dots -/
/-- Which were seen: S; those loose lie beyond the clock. -/
structure Pre (v : Nat → Int) (ms : DM) (S : Int × Int → Prop) : Prop where
  lo : ∀ r, r < 7 → 0 ≤ v r ∧ v r ≤ 1099511627776
  nd : (ms.map (·.1)).Nodup
  seen : ∀ d, S d ↔ (has v d.1 d.2 = true ∨ inM ms d = true)
  far : ∀ d, inM ms d = true → isDot d.1 d.2 = true ∧ v d.1.toNat < d.2
structure Canon (v : Nat → Int) (ms : DM) (S : Int × Int → Prop) : Prop extends Pre v ms S where
  gap : ∀ d, inM ms d = true → v d.1.toNat + 1 < d.2

theorem isDot_rep {r n : Int} (h : isDot r n = true) : 0 ≤ r ∧ r < 7 := isRep_iff.1 (by simp [isDot] at h; exact h.1)
theorem isDot_iff {r n : Int} : isDot r n = true ↔ (0 ≤ r ∧ r < 7) ∧ 1 ≤ n ∧ n ≤ 1099511627776 := by simp [isDot, isRep]
theorem has_iff {v : Nat → Int} {r n : Int} : has v r n = true ↔ (0 ≤ r ∧ r < 7) ∧ 1 ≤ n ∧ n ≤ v r.toNat := by simp [has, isRep]

theorem inM_del {ms : DM} (h : (ms.map (·.1)).Nodup) (k d : Int × Int) : inM (MP.del ms k) d = true ↔ d ≠ k ∧ inM ms d = true := by
  unfold inM
  rw [get_del ms k d h]
  by_cases hd : d = k <;> simp [hd]
theorem inM_put (ms : DM) (k d : Int × Int) (c : Nat) : inM (MP.put ms k () c) d = true ↔ d = k ∨ inM ms d = true := by
  unfold inM
  rw [get_put]
  by_cases hd : d = k <;> simp [hd]

/-- One loose dot that follows on the clock is taken in. -/
theorem Pre.step {v : Nat → Int} {ms : DM} {S : Int × Int → Prop} (h : Pre v ms S) {i : Nat} (hi : i < 7) (hd : inM ms ((i : Int), v i + 1) = true) :
    Pre (upv v i (v i + 1)) (MP.del ms ((i : Int), v i + 1)) S := by
  have hf := h.far _ hd
  have hr := (isDot_iff.1 hf.1).2
  have hlo := h.lo i hi
  simp only at hr
  constructor
  · intro r hr7
    unfold upv
    split
    · omega
    · exact h.lo r hr7
  · exact nodup_del h.nd _
  · rintro ⟨r, n⟩
    rw [h.seen, inM_del h.nd]
    simp only [has_iff, upv]
    constructor
    · rintro (⟨h1, h2, h3⟩ | h1)
      · left
        refine ⟨h1, h2, ?_⟩
        split
        · rename_i e
          rw [e] at h3; omega
        · exact h3
      · by_cases he : (r, n) = ((i : Int), v i + 1)
        · left
          cases he
          refine ⟨by omega, by omega, ?_⟩
          rw [if_pos (by omega)]; exact Int.le_refl _
        · exact .inr ⟨he, h1⟩
    · rintro (⟨h1, h2, h3⟩ | ⟨_, h1⟩)
      · split at h3
        · rename_i e
          by_cases h4 : n ≤ v r.toNat
          · exact .inl ⟨h1, h2, h4⟩
          · right
            have e1 : r = (i : Int) := by omega
            have e2 : n = v i + 1 := by rw [e] at h4; omega
            rw [e1, e2]; exact hd
        · exact .inl ⟨h1, h2, h3⟩
      · exact .inr h1
  · rintro ⟨r, n⟩ hm
    rw [inM_del h.nd] at hm
    obtain ⟨h1, h2⟩ := h.far _ hm.2
    refine ⟨h1, ?_⟩
    simp only [upv] at h2 ⊢
    split
    · rename_i e
      have hrr := isDot_rep h1
      rw [e] at h2
      have : n ≠ v i + 1 := by
        intro e2
        refine hm.1 ?_
        rw [e2, show r = (i : Int) by simp only at hrr; omega]
      omega
    · exact h2

structure CX where
  i : Nat
  v : Nat → Int
  ms : DM
theorem s_close (v : Nat → Int) (ms : DM) (c : Nat) (S : Int × Int → Prop) (h0 : Pre v ms S) (hm : MOK ms c) : Ctr Try.prog F_dots_Dots_close [.ptr 0 0] [.cells (dcs v 1) T_dots_Dots, dmap ms c]
    (fun x H => x = .tup [] ∧ ∃ v' ms', Canon v' ms' S ∧ MOK ms' c ∧ H = [.cells (dcs v' 1) T_dots_Dots, dmap ms' c]) := by
  refine i_dots_Dots_close.spec follows ?_
  refine VLoop.mk CX (fun x => [(0, .ptr 0 0), (4, iv x.i)]) (fun x => [.cells (dcs x.v 1) T_dots_Dots, dmap x.ms c])
    (fun x => x.i ≤ 7 ∧ Pre x.v x.ms S ∧ MOK x.ms c ∧ ∀ d, inM x.ms d = true → d.1 < x.i → x.v d.1.toNat + 1 < d.2) (fun x => 7 - x.i) ⟨0, v, ms⟩ [0, 1] ⟨⟨Nat.zero_le _, h0, hm, ?_⟩, rfl, rfl, rfl⟩ ?_
  · intro d hd h1
    have := isDot_rep (h0.far d hd).1
    simp at h1; omega
  rintro ⟨i, v, ms⟩ ⟨hi, hP, hM, hG⟩ g
  refine And.intro (fun h => ?_) (fun h => ?_)
  · have h := of_decide_eq_true h
    refine VLoop.mk CX (fun x => [(0, .ptr 0 0), (2, iv i), (4, iv i)]) (fun x => [.cells (dcs x.v 1) T_dots_Dots, dmap x.ms c])
      (fun x => Pre x.v x.ms S ∧ MOK x.ms c ∧ ∀ d, inM x.ms d = true → d.1 < i → x.v d.1.toNat + 1 < d.2) (fun x => x.ms.length) ⟨0, v, ms⟩ [0, 1] ⟨⟨hP, hM, hG⟩, rfl, rfl, rfl⟩ ?_
    rintro ⟨_, v, ms⟩ ⟨hP, hM, hG⟩ g
    simp only at hP hG h
    have hi7 : 0 ≤ (i : Int) ∧ (i : Int) < 7 := ⟨by omega, h⟩
    have hin : i < 7 := by omega
    have hv := hP.lo i hin
    have hw : IntKind.i64.wrap (v (i : Int).toNat + 1) = v (i : Int).toNat + 1 := wrap64 (by rw [Int.toNat_natCast]; omega)
    have hw2 : IntKind.i64.wrap ((i : Int) + 1) = ((i + 1 : Nat) : Int) := wrap64 (by omega)
    refine And.intro hi7 (Exists.intro _ (And.intro (vcells_get' v hi7 [.mp 1]) ?_))
    refine Exists.intro _ (And.intro hw ?_)
    refine Exists.intro (bv (inM ms ((i : Int), v (i : Int).toNat + 1))) (Exists.intro _ (Exists.intro _ (And.intro (lookD ms ((i : Int), v (i : Int).toNat + 1)) (And.intro rfl ?_))))
    refine And.intro (fun h2 => ?_) (fun h2 => ?_)
    · refine Exists.intro _ (And.intro hw2 ?_)
      refine Exists.intro ⟨i + 1, v, ms⟩ (Exists.intro [0, 1] (And.intro ⟨⟨hin, hP, hM, ?_⟩, by simp only; omega⟩ ⟨rfl, rfl, rfl⟩))
      rintro ⟨r, n⟩ hd hdi
      simp only at hd hdi ⊢
      have hf := hP.far _ hd
      have hrr := isDot_rep hf.1
      simp only at hf hrr
      by_cases hri : r < i
      · exact hG _ hd hri
      · have e1 : r = (i : Int) := by omega
        subst e1
        have hne : n ≠ v (i : Int).toNat + 1 := by
          intro e; subst e; rw [hd] at h2; cases h2
        omega
    · have hdd : inM ms ((i : Int), v i + 1) = true := by rw [Int.toNat_natCast] at h2; simpa using h2
      refine Exists.intro _ (And.intro (delete_is kD ms ((i : Int), v (i : Int).toNat + 1)) ?_)
      refine And.intro hi7 (Exists.intro _ (And.intro (vcells_get' v hi7 [.mp 1]) ?_))
      refine Exists.intro _ (And.intro hw ?_)
      refine And.intro hi7 (Exists.intro _ (And.intro (vcells_put v (v (i : Int).toNat + 1) hi7 [.mp 1]) ?_))
      refine Exists.intro ⟨0, upv v i (v i + 1), MP.del ms ((i : Int), v i + 1)⟩ (Exists.intro [0, 1] (And.intro ⟨⟨hP.step hin hdd, hM.del _, ?_⟩, ?_⟩ ⟨rfl, rfl, rfl⟩))
      · rintro ⟨r, n⟩ hd hdi
        simp only at hd hdi ⊢
        rw [inM_del hP.nd] at hd
        have hrr := isDot_rep (hP.far _ hd.2).1
        simp only at hrr
        have := hG _ hd.2 hdi
        simp only [upv] at this ⊢
        rw [if_neg (by omega)]; exact this
      · have := len_del hdd
        show (MP.del ms _).length < ms.length
        omega
  · have h := of_decide_eq_false h
    refine VRet.mk [0, 1] (.tup []) [.cells (dcs v 1) T_dots_Dots, dmap ms c] ⟨rfl, rfl, rfl⟩ ⟨rfl, v, ms, ⟨hP, ?_⟩, hM, rfl⟩
    intro d hd
    refine hG d hd ?_
    have := isDot_rep (hP.far d hd).1
    simp at h ⊢; omega
end Go.Proofs
