/- Part of the proof that the statement named in the last file holds: lemmas of the prover's own. No conditions. -/
import Derived.Test.YtmidamdjpabpbaaD2
namespace Go.Proofs
open Go Go.V
set_option maxRecDepth 100000
set_option linter.unusedVariables false

/-- What Add does. -/
def AddR (v : Nat → Int) (ms : DM) (S : Int × Int → Prop) (d : Int × Int) (a : Bool) (e : Int) (v' : Nat → Int) (ms' : DM) : Prop :=
  (isDot d.1 d.2 = false ∧ a = false ∧ e = 1 ∧ v' = v ∧ ms' = ms) ∨
  (isDot d.1 d.2 = true ∧ S d ∧ a = false ∧ e = 0 ∧ v' = v ∧ ms' = ms) ∨
  (isDot d.1 d.2 = true ∧ ¬ S d ∧ d.2 ≠ v d.1.toNat + 1 ∧ 1000 ≤ ms.length ∧ a = false ∧ e = 2 ∧ v' = v ∧ ms' = ms) ∨
  (isDot d.1 d.2 = true ∧ ¬ S d ∧ (d.2 = v d.1.toNat + 1 ∨ ms.length < 1000) ∧ a = true ∧ e = 0 ∧ Canon v' ms' (fun x => x = d ∨ S x))

theorem Pre.add {v : Nat → Int} {ms : DM} {S : Int × Int → Prop} (h : Pre v ms S) {d : Int × Int} (hd : isDot d.1 d.2 = true) (hn : ¬ S d) (c : Nat) : Pre v (MP.put ms d () c) (fun x => x = d ∨ S x) := by
  constructor
  · exact h.lo
  · exact nodup_put h.nd _ _ _
  · intro x
    rw [inM_put, h.seen]
    constructor
    · rintro (h1 | h1 | h1)
      · exact .inr (.inl h1)
      · exact .inl h1
      · exact .inr (.inr h1)
    · rintro (h1 | h1 | h1)
      · exact .inr (.inl h1)
      · exact .inl h1
      · exact .inr (.inr h1)
  · intro x hx
    rw [inM_put] at hx
    rcases hx with rfl | hx
    · refine ⟨hd, ?_⟩
      have h1 : ¬ has v x.1 x.2 = true := fun e => hn ((h.seen x).2 (.inl e))
      have h2 := isDot_iff.1 hd
      have h3 : ¬ (x.2 ≤ v x.1.toNat) := fun e => h1 (has_iff.2 ⟨h2.1, h2.2.1, e⟩)
      omega
    · exact h.far x hx

theorem s_Add (v : Nat → Int) (ms : DM) (c : Nat) (S : Int × Int → Prop) (h0 : Canon v ms S) (hm : MOK ms c) (r n : Int) : Ctr Try.prog F_dots_Dots_Add [.ptr 0 0, .agg (dcells r n)] [.cells (dcs v 1) T_dots_Dots, dmap ms c]
    (fun x H => ∃ a e v' ms' c', x = .tup [bv a, iv e] ∧ H = [.cells (dcs v' 1) T_dots_Dots, dmap ms' c'] ∧ AddR v ms S (r, n) a e v' ms' ∧ MOK ms' c') := by
  refine i_dots_Dots_Add.spec follows ?_
  refine VCall.mk [] (s_vec_Dot r n) ⟨rfl, rfl, rfl⟩ ?_
  rintro _ _ ⟨rfl, rfl⟩
  refine And.intro (fun h1 => ?_) (fun h1 => ?_)
  · refine VRet.mk [0, 1] (.tup [bv false, iv 1]) [.cells (dcs v 1) T_dots_Dots, dmap ms c] ⟨rfl, rfl, rfl⟩ ⟨_, _, v, ms, c, rfl, rfl, .inl ⟨by simpa using h1, rfl, rfl, rfl, rfl⟩, hm⟩
  have hd : isDot r n = true := by simpa using h1
  refine VCall.mk [0, 1] (s_dots_Dots_Has v ms c r n) ⟨rfl, rfl, rfl⟩ ?_
  rintro _ _ ⟨rfl, rfl⟩
  refine And.intro (fun h2 => ?_) (fun h2 => ?_)
  · refine VRet.mk [0, 1] (.tup [bv false, iv 0]) [.cells (dcs v 1) T_dots_Dots, dmap ms c] ⟨rfl, rfl, rfl⟩ ⟨_, _, v, ms, c, rfl, rfl, .inr (.inl ⟨hd, ?_, rfl, rfl, rfl, rfl⟩), hm⟩
    rw [h0.seen]; simpa using h2
  have hns : ¬ S (r, n) := by
    rw [h0.seen]; simp at h2; simp [h2]
  have hr := isDot_rep hd
  have hv := h0.lo r.toNat (by omega)
  have hw : IntKind.i64.wrap (v r.toNat + 1) = v r.toNat + 1 := wrap64 (by omega)
  refine And.intro hr (Exists.intro _ (And.intro (vcells_get' v hr [.mp 1]) ?_))
  refine Exists.intro _ (And.intro hw ?_)
  refine And.intro (fun h3 => ?_) (fun h3 => ?_)
  · refine And.intro (fun h4 => ?_) (fun h4 => ?_)
    · refine VRet.mk [0, 1] (.tup [bv false, iv 2]) [.cells (dcs v 1) T_dots_Dots, dmap ms c] ⟨rfl, rfl, rfl⟩ ⟨_, _, v, ms, c, rfl, rfl, .inr (.inr (.inl ⟨hd, hns, by simpa using h3, ?_, rfl, rfl, rfl, rfl⟩)), hm⟩
      have := of_decide_eq_true h4
      simp [ents] at this; omega
    · have h4 := of_decide_eq_false h4
      have h5 : ms.length < 1000 := by simp [ents] at h4; omega
      refine Exists.intro _ (Exists.intro _ (And.intro (update_is (encv := encU) kD ms c (r, n) ()) ?_))
      refine VCall.mk [0, 1] (s_close v (MP.put ms (r, n) () c) _ (fun x => x = (r, n) ∨ S x) (h0.toPre.add hd hns c) (hm.put _ _)) ⟨rfl, rfl, rfl⟩ ?_
      rintro _ _ ⟨rfl, v', ms', hC, hm', rfl⟩
      refine VRet.mk [0, 1] (.tup [bv true, iv 0]) [.cells (dcs v' 1) T_dots_Dots, dmap ms' (if (MP.get ms (r, n)).isSome then c else c + 1)] ⟨rfl, rfl, rfl⟩ ⟨_, _, v', ms', _, rfl, rfl, .inr (.inr (.inr ⟨hd, hns, .inr h5, rfl, rfl, hC⟩)), hm'⟩
  · refine Exists.intro _ (Exists.intro _ (And.intro (update_is (encv := encU) kD ms c (r, n) ()) ?_))
    refine VCall.mk [0, 1] (s_close v (MP.put ms (r, n) () c) _ (fun x => x = (r, n) ∨ S x) (h0.toPre.add hd hns c) (hm.put _ _)) ⟨rfl, rfl, rfl⟩ ?_
    rintro _ _ ⟨rfl, v', ms', hC, hm', rfl⟩
    refine VRet.mk [0, 1] (.tup [bv true, iv 0]) [.cells (dcs v' 1) T_dots_Dots, dmap ms' (if (MP.get ms (r, n)).isSome then c else c + 1)] ⟨rfl, rfl, rfl⟩ ⟨_, _, v', ms', _, rfl, rfl, .inr (.inr (.inr ⟨hd, hns, .inl (by simpa using h3), rfl, rfl, hC⟩)), hm'⟩
end Go.Proofs
