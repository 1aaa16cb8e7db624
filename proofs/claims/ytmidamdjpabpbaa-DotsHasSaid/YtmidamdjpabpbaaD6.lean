/- Part of the proof that the statement named in the last file holds: lemmas of the prover's own. No conditions. -/
import Derived.Test.YtmidamdjpabpbaaD5
namespace Go.Proofs
open Go Go.V
set_option maxRecDepth 100000
set_option linter.unusedVariables false

/-! ### Canonical states -/
theorem Canon.vle {v v' : Nat → Int} {ms ms' : DM} {S S' : Int × Int → Prop} (h : Canon v ms S) (h' : Canon v' ms' S') (hs : ∀ d, S d → S' d) (i : Nat) (hi : i < 7) : v i ≤ v' i := by
  refine Int.not_lt.1 fun hlt => ?_
  have hl := h.lo i hi
  have hl' := h'.lo i hi
  have h1 : S ((i : Int), v' i + 1) := (h.seen _).2 (.inl (has_iff.2 ⟨⟨by simp only; omega, by simp only; omega⟩, by simp only; omega, by simp only [Int.toNat_natCast]; omega⟩))
  rcases (h'.seen _).1 (hs _ h1) with h2 | h2
  · have := (has_iff.1 h2).2.2
    simp only [Int.toNat_natCast] at this; omega
  · have := h'.gap _ h2
    simp only [Int.toNat_natCast] at this; omega
theorem Canon.inMle {v v' : Nat → Int} {ms ms' : DM} {S S' : Int × Int → Prop} (h : Canon v ms S) (h' : Canon v' ms' S') (hs : ∀ d, S d ↔ S' d) (d : Int × Int) (hd : inM ms d = true) : inM ms' d = true := by
  have hf := h.far d hd
  have hr := isDot_rep hf.1
  rcases (h'.seen d).1 ((hs d).1 ((h.seen d).2 (.inr hd))) with h2 | h2
  · have h3 := (has_iff.1 h2).2.2
    have := h'.vle h (fun d => (hs d).2) d.1.toNat (by omega)
    omega
  · exact h2
theorem Canon.uniq {v v' : Nat → Int} {ms ms' : DM} {S S' : Int × Int → Prop} (h : Canon v ms S) (h' : Canon v' ms' S') (hs : ∀ d, S d ↔ S' d) : (∀ i, i < 7 → v i = v' i) ∧ (∀ d, inM ms d = inM ms' d) ∧ (keysOf ms).Perm (keysOf ms') := by
  have h1 : ∀ d, inM ms d = inM ms' d := fun d => Bool.eq_iff_iff.2 ⟨h.inMle h' hs d, h'.inMle h (fun d => (hs d).symm) d⟩
  refine ⟨fun i hi => Int.le_antisymm (h.vle h' (fun d => (hs d).1) i hi) (h'.vle h (fun d => (hs d).2) i hi), h1, ?_⟩
  refine (List.perm_ext_iff_of_nodup h.nd h'.nd).2 fun d => ?_
  have := h1 d
  unfold inM at this
  constructor
  · intro hd; exact get_mem.1 (by rw [← this]; exact get_mem.2 hd)
  · intro hd; exact get_mem.1 (by rw [this]; exact get_mem.2 hd)

theorem Canon.zero : Canon (fun _ => 0) [] (fun _ => False) where
  lo := fun r _ => ⟨by omega, by omega⟩
  nd := by simp
  seen := fun d => by
    constructor
    · exact fun h => h.elim
    · rintro (h | h)
      · have := (has_iff.1 h).2; omega
      · simp [inM, get_nil] at h
  far := fun d h => by simp [inM, get_nil] at h
  gap := fun d h => by simp [inM, get_nil] at h

/-! ### Len -/
def sumN (v : Nat → Int) : Nat → Int
  | 0 => 0
  | n + 1 => sumN v n + v n
theorem sumN_le {v : Nat → Int} (h : ∀ r, r < 7 → 0 ≤ v r ∧ v r ≤ 1099511627776) : ∀ n, n ≤ 7 → 0 ≤ sumN v n ∧ sumN v n ≤ n * 1099511627776
  | 0, _ => by simp [sumN]
  | n + 1, hn => by
    have := sumN_le h n (by omega)
    have := h n (by omega)
    simp only [sumN]; omega
def lenOf (v : Nat → Int) (ms : DM) : Int := ms.length + sumN v 7
theorem s_Len (v : Nat → Int) (ms : DM) (c : Nat) (hv : ∀ r, r < 7 → 0 ≤ v r ∧ v r ≤ 1099511627776) (hl : ms.length ≤ 1000000) : Ctr Try.prog F_dots_Dots_Len [.ptr 0 0] [.cells (dcs v 1) T_dots_Dots, dmap ms c]
    (fun x H => x = iv (lenOf v ms) ∧ H = [.cells (dcs v 1) T_dots_Dots, dmap ms c]) := by
  refine i_dots_Dots_Len.spec follows ?_
  refine VLoop.mk (Nat × Int) (fun x => [(3, iv x.2), (14, .agg (vcells v)), (15, iv x.1)]) (fun i => [.cells (dcs v 1) T_dots_Dots, dmap ms c])
    (fun x => x.1 ≤ 7 ∧ x.2 = ms.length + sumN v x.1) (fun x => 7 - x.1) (0, ((ents encD encU ms).length : Int)) [0, 1] ⟨⟨Nat.zero_le _, by simp [ents, sumN]⟩, rfl, rfl, rfl⟩ ?_
  rintro ⟨i, n⟩ ⟨hi, hn⟩ g
  simp only at hi hn
  have hs := sumN_le hv i hi
  refine And.intro (fun h => ?_) (fun h => ?_)
  · have h := of_decide_eq_true h
    have hi7 : 0 ≤ (i : Int) ∧ (i : Int) < 7 := ⟨by omega, h⟩
    have := hv i (by simp only at h; omega)
    have hw : IntKind.i64.wrap ((i : Int) + 1) = ((i + 1 : Nat) : Int) := wrap64 (by omega)
    have hw2 : IntKind.i64.wrap (n + v (i : Int).toNat) = (ms.length : Int) + sumN v (i + 1) := by
      rw [wrap64 (by rw [Int.toNat_natCast]; omega), Int.toNat_natCast, sumN]; omega
    have hg : (vcells v)[(i : Int).toNat * 1]? = some (iv (v (i : Int).toNat)) := by have := vcells_get' v hi7 []; simpa using this
    refine And.intro hi7 (Exists.intro _ (And.intro hg ?_))
    refine Exists.intro _ (And.intro hw2 ?_)
    refine Exists.intro _ (And.intro hw ?_)
    refine Exists.intro (i + 1, (ms.length : Int) + sumN v (i + 1)) (Exists.intro [0, 1] (And.intro ⟨⟨by simp only at h ⊢; omega, rfl⟩, by simp only at h ⊢; omega⟩ ⟨rfl, rfl, rfl⟩))
  · have h := of_decide_eq_false h
    refine VRet.mk [0, 1] (iv _) [.cells (dcs v 1) T_dots_Dots, dmap ms c] ⟨rfl, rfl, rfl⟩ ⟨?_, rfl⟩
    show iv _ = iv _
    have : i = 7 := by simp only at h; omega
    subst this; rw [hn]; rfl

theorem isDot_of {r n : Int} (h1 : 0 ≤ r ∧ r < 7) (h2 : 1 ≤ n ∧ n ≤ 1099511627776) : isDot r n = true := isDot_iff.2 ⟨h1, h2⟩
/-- A dot that may be, and was not seen: it is added. -/
theorem AddR.fresh {v : Nat → Int} {ms : DM} {S : Int × Int → Prop} {d : Int × Int} {a : Bool} {e : Int} {v' : Nat → Int} {ms' : DM} (h : AddR v ms S d a e v' ms') (hd : isDot d.1 d.2 = true) (hn : ¬ S d) (hl : ms.length < 1000) :
    a = true ∧ e = 0 ∧ Canon v' ms' (fun x => x = d ∨ S x) := by
  rcases h with ⟨h1, _⟩ | ⟨_, h1, _⟩ | ⟨_, _, _, h1, _⟩ | ⟨_, _, _, h1⟩
  · rw [hd] at h1; cases h1
  · exact (hn h1).elim
  · omega
  · exact h1

theorem canon1 : Canon (fun _ => 0) [((0, 2), (), 0)] (fun x => x = (0, 2) ∨ False) where
  lo := fun r _ => ⟨by omega, by omega⟩
  nd := by simp
  seen := fun d => by
    have : has (fun _ => 0) d.1 d.2 = false := by
      cases h : has (fun _ => 0) d.1 d.2 with
      | false => rfl
      | true => have := (has_iff.1 h).2; omega
    rw [this]
    unfold inM
    rw [get_cons, get_nil]
    by_cases hd : d = (0, 2) <;> simp [hd]
  far := fun d h => by
    unfold inM at h
    rw [get_cons, get_nil] at h
    by_cases hd : d = (0, 2)
    · subst hd; exact ⟨isDot_of (by simp) (by simp), by simp⟩
    · simp [hd] at h
  gap := fun d h => by
    unfold inM at h
    rw [get_cons, get_nil] at h
    by_cases hd : d = (0, 2)
    · subst hd; simp
    · simp [hd] at h
theorem canon2 : Canon (fun i => if i = 0 then 2 else 0) [] (fun x => x = (0, 1) ∨ x = (0, 2) ∨ False) where
  lo := fun r _ => by split <;> omega
  nd := by simp
  seen := fun ⟨r, n⟩ => by
    rw [has_iff]
    simp only [inM, get_nil, Option.isSome_none, Bool.false_eq_true, or_false, Prod.mk.injEq]
    split <;> omega
  far := fun d h => by simp [inM, get_nil] at h
  gap := fun d h => by simp [inM, get_nil] at h

theorem keysOf_nil {ms : DM} (h : (keysOf ms).Perm []) : ms = [] := by
  have := h.length_eq; simp [keysOf] at this; exact this
theorem dcs_congr {v v' : Nat → Int} (h : ∀ i, i < 7 → v i = v' i) (k : Nat) : dcs v k = dcs v' k := by
  simp only [dcs]
  rw [h 0 (by omega), h 1 (by omega), h 2 (by omega), h 3 (by omega), h 4 (by omega), h 5 (by omega), h 6 (by omega)]

/-- The document's gap. -/
theorem s_awake : Ctr Try.prog F_rostrumlaw8_awake [] [] (fun x H => x = bv true ∧ H = []) := by
  refine i_rostrumlaw8_awake.spec follows ?_
  refine VCall.mk [] s_dots_New ⟨rfl, rfl, rfl⟩ ?_
  rintro _ _ ⟨rfl, rfl⟩
  refine VCall.mk [1, 0] (s_Add (fun _ => 0) [] 0 (fun _ => False) Canon.zero (MOK.nil 0) 0 2) ⟨rfl, rfl, rfl⟩ ?_
  rintro _ _ ⟨a, e, v1, ms1, c1, rfl, rfl, hR, hM⟩
  obtain ⟨rfl, rfl, hC⟩ := hR.fresh (isDot_of (by simp) (by simp)) (by simp) (by simp)
  obtain ⟨hv1, hm1, hk1⟩ := hC.uniq canon1 (fun _ => Iff.rfl)
  have hl1 : ms1.length = 1 := by have := hk1.length_eq; simpa [keysOf] using this
  refine VCall.mk [1, 0] (s_Loose v1 ms1 c1 hM (by omega)) ⟨rfl, rfl, rfl⟩ ?_
  rintro _ _ ⟨d, o, c', ys, rfl, rfl, hp, -, hr⟩
  have hd : d = [(0, 2)] := List.perm_singleton.1 (hp.trans hk1)
  subst hd
  refine VCall.mk [1, 0] (s_Add v1 ms1 c1 _ hC hM 0 1) ⟨rfl, rfl, rfl⟩ ?_
  rintro _ _ ⟨a, e, v2, ms2, c2, rfl, rfl, hR2, hM2⟩
  obtain ⟨rfl, rfl, hC2⟩ := hR2.fresh (isDot_of (by simp) (by simp)) (by simp) (by omega)
  obtain ⟨hv2, hm2, hk2⟩ := hC2.uniq canon2 (fun _ => Iff.rfl)
  have hm2' : ms2 = [] := keysOf_nil hk2
  subst hm2'
  refine And.intro (fun _ => ?_) (fun h => absurd h (by decide))
  refine And.intro (fun _ => ?_) (fun h => absurd h (by decide))
  refine And.intro (fun _ => ?_) (fun h => absurd h (by decide))
  refine And.intro ⟨by omega, by simp, by have := hr.1; have := hr.2.1; simp at *; omega⟩ ?_
  refine Exists.intro _ (And.intro (hr.cut 0 (by simp)) ?_)
  refine And.intro (fun _ => ?_) (fun h => absurd h (by decide))
  refine And.intro (fun _ => ?_) (fun h => absurd h (by decide))
  refine And.intro (fun _ => ?_) (fun h => absurd h (by decide))
  refine VCall.mk [1, 0] (s_dots_Dots_Vec v2 [] c2) ⟨rfl, rfl, rfl⟩ ?_
  rintro _ _ ⟨rfl, rfl⟩
  have e0 := hv2 0 (by omega)
  have e1 := hv2 1 (by omega)
  have e2 := hv2 2 (by omega)
  have e3 := hv2 3 (by omega)
  have e4 := hv2 4 (by omega)
  have e5 := hv2 5 (by omega)
  have e6 := hv2 6 (by omega)
  simp at e0 e1 e2 e3 e4 e5 e6
  refine And.intro (fun _ => ?_) (fun h => absurd h (by simp [e0, e1, e2, e3, e4, e5, e6]))
  refine VCall.mk [1, 0] (s_Loose v2 [] c2 hM2 (by simp)) ⟨rfl, rfl, rfl⟩ ?_
  rintro _ _ ⟨d2, o2, c2', ys2, rfl, rfl, hp2, -, hr2⟩
  have hd2 : d2 = [] := List.perm_nil.1 hp2
  subst hd2
  refine And.intro (fun _ => ?_) (fun h => absurd h (by decide))
  refine VCall.mk [1, 0] (s_Len v2 [] c2 hC2.lo (by simp)) ⟨rfl, rfl, rfl⟩ ?_
  rintro _ _ ⟨rfl, rfl⟩
  refine VRet.mk [] (bv _) [] ⟨rfl, rfl, rfl⟩ ⟨?_, rfl⟩
  show bv _ = bv _
  simp [lenOf, sumN, e0, e1, e2, e3, e4, e5, e6]
end Go.Proofs
