/- Part of the proof that the statement named in the last file holds: lemmas of the prover's own. No conditions. -/
import Derived.Test.YtnhhjfkcmhbblaaDoorDB
import Derived.Test.YtnhhjfkcmhbblaaDoorVD
import Derived.Test.YtnhhjfkcmhbblaaDoorRows
import Derived.PinnedBridge
import Derived.Lay
import Derived.LaidOnce
import Derived.SevenTiedAt
import Derived.Test.YtnhhjfkcmhbblaaDoorTie
import Derived.Test.YtnhhjfkcmhbblaaDoorCards
namespace Go.Proofs
open Go Go.V Go.Lib
set_option maxRecDepth 100000
set_option linter.unusedVariables false

set_option maxHeartbeats 40000000 in
theorem s_ValueKnown (h : Nat → Option Obj) : Ctr Tryd.prog F_rostrumlaw12_ValueKnown [] [.heap h] (fun r H => r = bv true ∧ H = [.heap h]) := by
  refine i_rostrumlaw12_ValueKnown.spec follows ?_
  refine VCall.mk [] s_awake ⟨rfl, rfl, rfl⟩ ?_
  rintro _ _ ⟨rfl, rfl⟩
  refine And.intro (fun h => absurd h (by decide)) (fun _ => ?_)
  refine VCall.mk [] (s_value_New 0) ⟨rfl, rfl, rfl⟩ ?_
  rintro _ _ (⟨k, _⟩ | ⟨k, _⟩ | ⟨k, _⟩ | ⟨_, rfl, rfl⟩)
  · omega
  · omega
  · omega
  refine VCall.mk [] (s_value_New 4) ⟨rfl, rfl, rfl⟩ ?_
  rintro _ _ (⟨k, _⟩ | ⟨k, _⟩ | ⟨k, _⟩ | ⟨_, rfl, rfl⟩)
  · omega
  · omega
  · omega
  refine VCall.mk [] (s_value_New 1) ⟨rfl, rfl, rfl⟩ ?_
  rintro _ _ (⟨_, rfl, rfl⟩ | ⟨k, _⟩ | ⟨k, _⟩ | ⟨k, _⟩)
  rotate_left 1
  · omega
  · omega
  · omega
  refine VCall.mk [] (s_value_New 3) ⟨rfl, rfl, rfl⟩ ?_
  rintro _ _ (⟨k, _⟩ | ⟨k, _⟩ | ⟨_, rfl, rfl⟩ | ⟨k, _⟩)
  · omega
  · omega
  rotate_left 1
  · omega
  refine VCall.mk [1, 2, 3] (s_AsSet_S [] 0) ⟨rfl, rfl, rfl⟩ ?_
  rintro _ _ ⟨rfl, rfl⟩
  refine VCall.mk [4] (s_AsText_T false (ByteArray.mk #[]) 0 0 0) ⟨rfl, rfl, rfl⟩ ?_
  rintro _ _ ⟨rfl, rfl⟩
  refine And.intro (fun _ => ?_) (fun h => absurd h (by decide))
  refine And.intro (fun _ => ?_) (fun h => absurd h (by decide))
  refine VCall.mk [1, 2, 3] s_Add1 ⟨rfl, rfl, rfl⟩ ?_
  rintro _ _ ⟨rfl, rfl⟩
  refine VCall.mk [1, 2, 3] s_Add2 ⟨rfl, rfl, rfl⟩ ?_
  rintro _ _ ⟨rfl, rfl⟩
  refine VCall.mk [4] s_Write1 ⟨rfl, rfl, rfl⟩ ?_
  rintro _ _ ⟨rfl, rfl⟩
  refine VCall.mk [] s_AsSet_0 ⟨rfl, rfl, rfl⟩ ?_
  rintro _ _ ⟨rfl, rfl⟩
  refine VCall.mk [] s_AsSet_nS ⟨rfl, rfl, rfl⟩ ?_
  rintro _ _ ⟨rfl, rfl⟩
  refine And.intro (fun _ => ?_) (fun h => absurd (of_decide_eq_false h) (by decide))
  refine And.intro (fun _ => ?_) (fun h => absurd (of_decide_eq_false h) (by decide))
  refine And.intro (fun _ => ?_) (fun h => absurd (of_decide_eq_false h) (by decide))
  refine And.intro (fun _ => ?_) (fun h => absurd (of_decide_eq_false h) (by decide))
  refine Exists.intro F_value_Set_Kind (And.intro ⟨m_S, by kernel_rfl⟩ ?_)
  refine VCall.mk [1, 2, 3] (s_Kind_S (ents encD encT M2) 2) ⟨rfl, rfl, rfl⟩ ?_
  rintro _ _ ⟨rfl, rfl⟩
  refine And.intro (fun _ => ?_) (fun h => absurd (of_decide_eq_false h) (by decide))
  refine Exists.intro F_value_Text_Kind (And.intro ⟨m_T, by kernel_rfl⟩ ?_)
  refine VCall.mk [4] (s_Kind_T true (ByteArray.mk #[116]) 1 0 1) ⟨rfl, rfl, rfl⟩ ?_
  rintro _ _ ⟨rfl, rfl⟩
  refine And.intro (fun _ => ?_) (fun h => absurd (of_decide_eq_false h) (by decide))
  refine VCall.mk [1, 2, 3] s_Show_S2 ⟨rfl, rfl, rfl⟩ ?_
  rintro _ _ ⟨rfl, rfl⟩
  refine And.intro (fun _ => ?_) (fun h => absurd h (by rw [beq_self_eq_true]; decide))
  refine VCall.mk [4] (s_Show_T1 true (ByteArray.mk #[116]) 1 0 1) ⟨rfl, rfl, rfl⟩ ?_
  rintro _ _ ⟨rfl, rfl⟩
  refine And.intro (fun _ => ?_) (fun h => absurd h (by rw [beq_self_eq_true]; decide))
  refine VCall.mk [] s_Show_0 ⟨rfl, rfl, rfl⟩ ?_
  rintro _ _ ⟨rfl, rfl⟩
  refine And.intro (fun _ => ?_) (fun h => absurd h (by rw [beq_self_eq_true]; decide))
  refine And.intro (fun _ => ?_) (fun h => absurd h (by decide))
  refine And.intro (fun _ => ?_) (fun h => absurd h (by decide))
  refine VCall.mk [5] s_Put_0 ⟨rfl, rfl, rfl⟩ ?_
  rintro _ _ ⟨zs, o, c, rfl, rfl, hc, hz⟩
  refine Exists.intro (ByteArray.mk #[7]) (And.intro (show (some ((zs.drop o).take (1 * 1), 1) : Option (List Value × Nat)) = some ([.int .u8 7], 1) from by rw [Nat.mul_one, hz]) ?_)
  refine And.intro (fun _ => ?_) (fun h => absurd h (by rw [beq_self_eq_true]; decide))
  refine VCall.mk [] s_Show_nT ⟨rfl, rfl, rfl⟩ ?_
  rintro _ _ ⟨rfl, rfl⟩
  refine And.intro (fun _ => ?_) (fun h => absurd h (by rw [beq_self_eq_true]; decide))
  refine VCall.mk [1, 2, 3] (s_MustSet (ents encD encT M2) 2) ⟨rfl, rfl, rfl⟩ ?_
  rintro _ _ ⟨rfl, rfl⟩
  exact VRet.mk [0] (bv true) [.heap h] ⟨rfl, rfl, rfl⟩ ⟨rfl, rfl⟩
end Go.Proofs

namespace Go.Proofs.YtnhhjfkcmhbblaaDoor
open Go.ChangeShapes Go.WideShapes Go.ChangeAt Go.RowKit Go.V Go.Joins Go.Shelf Go.Lib
set_option maxRecDepth 100000

theorem own : ownKnob Tryd.prog.godebug = none := by kernel_rfl
theorem laidOut : laidOutB Tryd.prog = true := by kernel_rfl
abbrev laidB : List (String × DataW Unit) := Rows.valueKnownRow.laid
theorem valueKnown_lifted (os : Os) (started : os.Started) (H : Type) (enc : TypeId × Value → H) :
    ReturnsInHanded {} Tryd.checked os 4 .any (fun w args => (Rows.valueKnownSpec.pre enc Tryd.prog Tryd.f4 [] false w args ∧ laidMetH Tryd.prog laidB w) ∧ sizedMet enc Tryd.prog Tryd.f4 (OpenSpec.ofChange Rows.valueKnownSpec) false w args)
      (Rows.valueKnownSpec.post enc Tryd.prog Tryd.f4 false true false false) := by
  refine returnsInHanded_of_change_and (C := Tryd.checked) (X := fun w _ => laidMetH Tryd.prog laidB w) (fun _ _ _ hh h => h.of_heap hh) own started (by kernel_rfl) Tryd.func4
    (ChangeSpec.witness_shaped (enc := enc) (C := Tryd.checked) (os := os) (X := fun w _ => laidMetH Tryd.prog laidB w) false (World.laidAll Tryd.prog os laidB) #[] 8 (World.laidAll_os _ _ _)
      (World.shaped_of_ZipB (by kernel_rfl) (by kernel_rfl)) (by kernel_rfl) (by kernel_rfl) (by kernel_rfl)
      (by rw [MakeChecks.laidMetH_plain _ _ _ (by kernel_rfl)]; exact laidMet_laidAll _ (by kernel_rfl) (by kernel_rfl))) ?_
  intro W base args ds gs before hval0 hW _ _ hL _
  have hval : ∀ (j : Nat) t v, Tryd.f4.params[j]? = some t → args[j]? = some v → Value.okWide Tryd.prog W .any base t v := hval0
  have hW' := hW
  obtain ⟨p, q, hA0, hV, rfl, hfz, hnd⟩ := hW
  have hA : DataW.TrodAll enc Tryd.prog W 0 (fun _ => true) true Tryd.f4.params.toList args.toList ds p := hA0
  rw [Tryd.params4] at hA hval
  obtain ⟨hargs, rfl, rfl⟩ := trodAll_nil hA
  obtain rfl : args = #[] := by cases args; simp_all
  obtain ⟨rfl, rfl⟩ := trodVars_none hV
  clear hA0 hval0
  refine Calls.mono (ctr_all (s_ValueKnown (allH W)) rfl rfl (r := .bool true) ?_) fun e W' ⟨he, bel⟩ => ?_
  · rintro v H' ρ' ⟨rfl, rfl⟩; exact ⟨rfl, _, rfl, Sub.refl _⟩
  subst he
  exact ⟨_, rfl, _, _, _, [], _, [], hW', trodAll_mk1 (shut_bool Tryd.underlying4 _), trodAll_mk0, rfl, bel.frame _, fun h => by cases h⟩
theorem valueKnown_row : Rows.valueKnownRow.holds Tryd.pinned (OpenSpec.ofChange Rows.valueKnownSpec) :=
  OpenClaim.holds_of_wide 4 Tryd.f4 rfl rfl rfl rfl rfl rfl rfl ⟨rfl, rfl, rfl, rfl, rfl⟩ rfl rfl rfl rfl rfl (by kernel_rfl) Tryd.func4 (by kernel_rfl)
    (of_decide_eq_true (by kernel_rfl)) (by unfold Func.isWrapper; first | (rw [if_pos (by decide +kernel)]; kernel_rfl) | (rw [if_neg (by decide +kernel)]; exact ⟨rfl, rfl⟩))
    (fun os started H enc _ => valueKnown_lifted os started H enc)
theorem valueKnownCard_holds : Rows.ValueKnownCardSaid :=
  Claim7.holds_tied_plain_at .later [] [.data, .data, .data] true (true, "ceb67bd1a922e30f192e378ff884a180f90d68348a0a6d50a2f3b1eb50da590c") true valueKnown_row (fun _ h => by cases h) (by kernel_rfl) (fun _ h => by cases h) valueKnown_row_tie rfl ⟨rfl, rfl⟩ (by kernel_rfl) rfl
    (fun f fn hf hfn => by
      obtain rfl : f = 4 := Option.some.inj ((show Tryd.prog.funcNamed "rostrum/rostrumlaw12.ValueKnown" = some 4 by kernel_rfl).symm.trans hf) |>.symm
      obtain rfl : fn = Tryd.f4 := (Option.some.inj (Tryd.func4.symm.trans hfn)).symm
      exact ⟨by kernel_rfl, fun j t ht => by
        rw [Tryd.params4] at ht
        simp at ht⟩)
    (by kernel_rfl)
end Go.Proofs.YtnhhjfkcmhbblaaDoor

