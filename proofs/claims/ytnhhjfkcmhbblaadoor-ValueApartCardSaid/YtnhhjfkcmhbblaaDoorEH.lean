/- Part of the proof that the statement named in the last file holds: lemmas of the prover's own. No conditions. -/
import Derived.Test.YtnhhjfkcmhbblaaDoorDA
import Derived.Test.YtnhhjfkcmhbblaaDoorVD
import Derived.Test.YtnhhjfkcmhbblaaDoorRows
import Derived.PinnedBridge
import Derived.Lay
import Derived.LaidOnce
import Derived.SevenTiedAt
import Derived.Test.YtnhhjfkcmhbblaaDoorTie
import Derived.Test.YtnhhjfkcmhbblaaDoorCards
namespace Go.Proofs
open Go Go.V Go.Lib
set_option maxRecDepth 100000
set_option linter.unusedVariables false

theorem s_ValueApart (h : Nat → Option Obj) (k : Int) (x : ByteArray) (by' : Int) : Ctr Tryd.prog F_rostrumlaw12_ValueApart [iv k, .raw (.string x), iv by'] [.heap h] (fun r H => r = bv true ∧ H = [.heap h]) := by
  refine i_rostrumlaw12_ValueApart.spec follows ?_
  refine VCall.mk [] s_awake ⟨rfl, rfl, rfl⟩ ?_
  rintro _ _ ⟨rfl, rfl⟩
  refine And.intro (fun h => absurd h (by decide)) (fun _ => ?_)
  refine And.intro (fun _ => VRet.mk [0] (bv true) [.heap h] ⟨rfl, rfl, rfl⟩ ⟨rfl, rfl⟩) (fun hx => ?_)
  refine VCall.mk [] (s_value_New k) ⟨rfl, rfl, rfl⟩ ?_
  rintro _ _ (⟨rfl, rfl, rfl⟩ | ⟨rfl, rfl, rfl⟩ | ⟨rfl, rfl, rfl⟩ | ⟨hk, rfl, rfl⟩)
  · refine VCall.mk [] (s_value_New 1) ⟨rfl, rfl, rfl⟩ ?_
    rintro _ _ (⟨_, rfl, rfl⟩ | ⟨h, _⟩ | ⟨h, _⟩ | ⟨h, _⟩)
    rotate_left 1
    · omega
    · omega
    · omega
    refine And.intro (fun _ => ?_) (fun h => absurd (of_decide_eq_true h) (by decide))
    refine And.intro (fun h => absurd (of_decide_eq_true h) (by decide)) (fun _ => ?_)
    refine And.intro (fun _ => ?_) (fun h => absurd h (by decide))
    refine And.intro (fun _ => ?_) (fun h => absurd h (by decide))
    refine VCall.mk [4, 5, 6] s_Show_S ⟨rfl, rfl, rfl⟩ ?_
    rintro _ _ ⟨rfl, rfl⟩
    refine VCall.mk [1, 2, 3] (s_AsSet_S [] 0) ⟨rfl, rfl, rfl⟩ ?_
    rintro _ _ ⟨rfl, rfl⟩
    refine And.intro (fun _ => ?_) (fun h => absurd h (by decide))
    refine VCall.mk [1, 2, 3] (s_Add0 x) ⟨rfl, rfl, rfl⟩ ?_
    rintro _ _ ⟨e, es', c, rfl, rfl⟩
    refine VCall.mk [1, 2, 3] (s_AsNumber_S es' c) ⟨rfl, rfl, rfl⟩ ?_
    rintro _ _ ⟨rfl, rfl⟩
    refine And.intro (fun h => absurd h (by decide)) (fun _ => ?_)
    refine VCall.mk [1, 2, 3] (s_AsText_S es' c) ⟨rfl, rfl, rfl⟩ ?_
    rintro _ _ ⟨rfl, rfl⟩
    refine And.intro (fun h => absurd h (by decide)) (fun _ => ?_)
    refine VCall.mk [4, 5, 6] s_Show_S ⟨rfl, rfl, rfl⟩ ?_
    rintro _ _ ⟨rfl, rfl⟩
    refine And.intro (fun _ => ?_) (fun h => absurd h (by rw [beq_self_eq_true]; decide))
    refine Exists.intro F_value_Set_Kind (And.intro ⟨m_S, by kernel_rfl⟩ ?_)
    refine VCall.mk [1, 2, 3] (s_Kind_S es' c) ⟨rfl, rfl, rfl⟩ ?_
    rintro _ _ ⟨rfl, rfl⟩
    refine And.intro (fun _ => ?_) (fun h => absurd (of_decide_eq_false h) (by decide))
    refine Exists.intro F_value_Set_Kind (And.intro ⟨m_S, by kernel_rfl⟩ ?_)
    refine VCall.mk [4, 5, 6] (s_Kind_S [] 0) ⟨rfl, rfl, rfl⟩ ?_
    rintro _ _ ⟨rfl, rfl⟩
    exact VRet.mk [0] (bv (decide ((1 : Int) = 1))) [.heap h] ⟨rfl, rfl, rfl⟩ ⟨by rw [decide_eq_true rfl], rfl⟩
  · refine VCall.mk [] (s_value_New 2) ⟨rfl, rfl, rfl⟩ ?_
    rintro _ _ (⟨h, _⟩ | ⟨_, rfl, rfl⟩ | ⟨h, _⟩ | ⟨h, _⟩)
    · omega
    rotate_left 1
    · omega
    · omega
    refine And.intro (fun _ => ?_) (fun h => absurd (of_decide_eq_true h) (by decide))
    refine And.intro (fun h => absurd (of_decide_eq_true h) (by decide)) (fun _ => ?_)
    refine And.intro (fun _ => ?_) (fun h => absurd h (by decide))
    refine And.intro (fun _ => ?_) (fun h => absurd h (by decide))
    refine VCall.mk [2] s_Show_N ⟨rfl, rfl, rfl⟩ ?_
    rintro _ _ ⟨rfl, rfl⟩
    refine VCall.mk [1] (s_AsSet_N 0 0) ⟨rfl, rfl, rfl⟩ ?_
    rintro _ _ ⟨rfl, rfl⟩
    refine And.intro (fun h => absurd h (by decide)) (fun _ => ?_)
    refine VCall.mk [1] (s_AsNumber_N 0 0) ⟨rfl, rfl, rfl⟩ ?_
    rintro _ _ ⟨rfl, rfl⟩
    refine And.intro (fun _ => ?_) (fun h => absurd h (by decide))
    refine VCall.mk [1] (s_TAdd0 by') ⟨rfl, rfl, rfl⟩ ?_
    rintro _ _ ⟨e, p, q, rfl, rfl⟩
    refine VCall.mk [1] (s_AsText_N p q) ⟨rfl, rfl, rfl⟩ ?_
    rintro _ _ ⟨rfl, rfl⟩
    refine And.intro (fun h => absurd h (by decide)) (fun _ => ?_)
    refine VCall.mk [2] s_Show_N ⟨rfl, rfl, rfl⟩ ?_
    rintro _ _ ⟨rfl, rfl⟩
    refine And.intro (fun _ => ?_) (fun h => absurd h (by rw [beq_self_eq_true]; decide))
    refine Exists.intro F_value_Number_Kind (And.intro ⟨m_N, by kernel_rfl⟩ ?_)
    refine VCall.mk [1] (s_Kind_N p q) ⟨rfl, rfl, rfl⟩ ?_
    rintro _ _ ⟨rfl, rfl⟩
    refine And.intro (fun _ => ?_) (fun h => absurd (of_decide_eq_false h) (by decide))
    refine Exists.intro F_value_Number_Kind (And.intro ⟨m_N, by kernel_rfl⟩ ?_)
    refine VCall.mk [2] (s_Kind_N 0 0) ⟨rfl, rfl, rfl⟩ ?_
    rintro _ _ ⟨rfl, rfl⟩
    exact VRet.mk [0] (bv (decide ((2 : Int) = 2))) [.heap h] ⟨rfl, rfl, rfl⟩ ⟨by rw [decide_eq_true rfl], rfl⟩
  · refine VCall.mk [] (s_value_New 3) ⟨rfl, rfl, rfl⟩ ?_
    rintro _ _ (⟨h, _⟩ | ⟨h, _⟩ | ⟨_, rfl, rfl⟩ | ⟨h, _⟩)
    · omega
    · omega
    rotate_left 1
    · omega
    refine And.intro (fun _ => ?_) (fun h => absurd (of_decide_eq_true h) (by decide))
    refine And.intro (fun h => absurd (of_decide_eq_true h) (by decide)) (fun _ => ?_)
    refine And.intro (fun _ => ?_) (fun h => absurd h (by decide))
    refine And.intro (fun _ => ?_) (fun h => absurd h (by decide))
    refine VCall.mk [2] s_Show_T ⟨rfl, rfl, rfl⟩ ?_
    rintro _ _ ⟨rfl, rfl⟩
    refine VCall.mk [1] (s_AsSet_T false (ByteArray.mk #[]) 0 0 0) ⟨rfl, rfl, rfl⟩ ?_
    rintro _ _ ⟨rfl, rfl⟩
    refine And.intro (fun h => absurd h (by decide)) (fun _ => ?_)
    refine VCall.mk [1] (s_AsNumber_T false (ByteArray.mk #[]) 0 0 0) ⟨rfl, rfl, rfl⟩ ?_
    rintro _ _ ⟨rfl, rfl⟩
    refine And.intro (fun h => absurd h (by decide)) (fun _ => ?_)
    refine VCall.mk [1] (s_AsText_T false (ByteArray.mk #[]) 0 0 0) ⟨rfl, rfl, rfl⟩ ?_
    rintro _ _ ⟨rfl, rfl⟩
    refine And.intro (fun _ => ?_) (fun h => absurd h (by decide))
    refine VCall.mk [1] (s_Write0 x) ⟨rfl, rfl, rfl⟩ ?_
    rintro _ _ ⟨b1, e, b2, y, t, p, n, rfl, rfl⟩
    refine VCall.mk [2] s_Show_T ⟨rfl, rfl, rfl⟩ ?_
    rintro _ _ ⟨rfl, rfl⟩
    refine And.intro (fun _ => ?_) (fun h => absurd h (by rw [beq_self_eq_true]; decide))
    refine Exists.intro F_value_Text_Kind (And.intro ⟨m_T, by kernel_rfl⟩ ?_)
    refine VCall.mk [1] (s_Kind_T b2 y t p n) ⟨rfl, rfl, rfl⟩ ?_
    rintro _ _ ⟨rfl, rfl⟩
    refine And.intro (fun _ => ?_) (fun h => absurd (of_decide_eq_false h) (by decide))
    refine Exists.intro F_value_Text_Kind (And.intro ⟨m_T, by kernel_rfl⟩ ?_)
    refine VCall.mk [2] (s_Kind_T false (ByteArray.mk #[]) 0 0 0) ⟨rfl, rfl, rfl⟩ ?_
    rintro _ _ ⟨rfl, rfl⟩
    exact VRet.mk [0] (bv (decide ((3 : Int) = 3))) [.heap h] ⟨rfl, rfl, rfl⟩ ⟨by rw [decide_eq_true rfl], rfl⟩
  · refine VCall.mk [] (s_value_New k) ⟨rfl, rfl, rfl⟩ ?_
    rintro _ _ (⟨h, _⟩ | ⟨h, _⟩ | ⟨h, _⟩ | ⟨_, rfl, rfl⟩)
    · omega
    · omega
    · omega
    refine And.intro (fun h1 => ?_) (fun _ => ?_)
    · have h1 := of_decide_eq_false h1
      refine And.intro (fun _ => ?_) (fun h2 => absurd (of_decide_eq_false h2) (by omega))
      refine And.intro (fun _ => ?_) (fun h => absurd (of_decide_eq_false h) (by decide))
      refine And.intro (fun _ => ?_) (fun h => absurd (of_decide_eq_false h) (by decide))
      exact VRet.mk [0] (bv true) [.heap h] ⟨rfl, rfl, rfl⟩ ⟨rfl, rfl⟩
    · refine And.intro (fun _ => ?_) (fun h => absurd (of_decide_eq_false h) (by decide))
      refine And.intro (fun _ => ?_) (fun h => absurd (of_decide_eq_false h) (by decide))
      exact VRet.mk [0] (bv true) [.heap h] ⟨rfl, rfl, rfl⟩ ⟨rfl, rfl⟩
end Go.Proofs

namespace Go.Proofs.YtnhhjfkcmhbblaaDoor
open Go.ChangeShapes Go.WideShapes Go.ChangeAt Go.RowKit Go.V Go.Joins Go.Shelf Go.Lib
set_option maxRecDepth 100000

theorem own : ownKnob Tryd.prog.godebug = none := by kernel_rfl
theorem laidOut : laidOutB Tryd.prog = true := by kernel_rfl
abbrev laidB : List (String × DataW Unit) := Rows.valueApartRow.laid
theorem valueApart_lifted (os : Os) (started : os.Started) (H : Type) (enc : TypeId × Value → H) :
    ReturnsInHanded {} Tryd.checked os 3 .any (fun w args => (Rows.valueApartSpec.pre enc Tryd.prog Tryd.f3 [] false w args ∧ laidMetH Tryd.prog laidB w) ∧ sizedMet enc Tryd.prog Tryd.f3 (OpenSpec.ofChange Rows.valueApartSpec) false w args)
      (Rows.valueApartSpec.post enc Tryd.prog Tryd.f3 false true false false) := by
  refine returnsInHanded_of_change_and (C := Tryd.checked) (X := fun w _ => laidMetH Tryd.prog laidB w) (fun _ _ _ hh h => h.of_heap hh) own started (by kernel_rfl) Tryd.func3
    (ChangeSpec.witness_shaped (enc := enc) (C := Tryd.checked) (os := os) (X := fun w _ => laidMetH Tryd.prog laidB w) false (World.laidAll Tryd.prog os laidB) #[.int .i64 0, .string ByteArray.empty, .int .i64 0] 8 (World.laidAll_os _ _ _)
      (World.shaped_of_ZipB (by kernel_rfl) (by kernel_rfl)) (by kernel_rfl) (by kernel_rfl) (by kernel_rfl)
      (by rw [MakeChecks.laidMetH_plain _ _ _ (by kernel_rfl)]; exact laidMet_laidAll _ (by kernel_rfl) (by kernel_rfl))) ?_
  intro W base args ds gs before hval0 hW _ _ hL _
  have hval : ∀ (j : Nat) t v, Tryd.f3.params[j]? = some t → args[j]? = some v → Value.okWide Tryd.prog W .any base t v := hval0
  have hW' := hW
  obtain ⟨p, q, hA0, hV, rfl, hfz, hnd⟩ := hW
  have hA : DataW.TrodAll enc Tryd.prog W 0 (fun _ => true) true Tryd.f3.params.toList args.toList ds p := hA0
  rw [Tryd.params3] at hA hval
  obtain ⟨v0, vs0, d0, ds0, p0, q0, hargs, rfl, rfl, h0, r0⟩ := trodAll_cons hA
  obtain ⟨v1, vs1, d1, ds1, p1, q1, rfl, rfl, rfl, h1, r1⟩ := trodAll_cons r0
  obtain ⟨v2, vs2, d2, ds2, p2, q2, rfl, rfl, rfl, h2, r2⟩ := trodAll_cons r1
  obtain ⟨rfl, rfl, rfl⟩ := trodAll_nil r2
  obtain rfl : args = #[v0, v1, v2] := by cases args; simp_all
  obtain ⟨rfl, rfl⟩ := trodVars_none hV
  have k0 := h0
  have k1 := h1
  have k2 := h2
  have lt0 : ∀ x ∈ p0, x.block < W.heap.size := by obtain ⟨m, hm⟩ := k0; exact DataW.trod_lt m _ _ _ hm
  have lt2 : ∀ x ∈ p2, x.block < W.heap.size := by obtain ⟨m, hm⟩ := k2; exact DataW.trod_lt m _ _ _ hm
  have lt1 : ∀ x ∈ p1, x.block < W.heap.size := by obtain ⟨m, hm⟩ := k1; exact DataW.trod_lt m _ _ _ hm
  obtain ⟨n0, rfl⟩ := okWide_int Tryd.underlying3 (hval 0 3 v0 rfl rfl)
  obtain ⟨n1, rfl⟩ := okWide_string Tryd.underlying9 (hval 1 9 v1 rfl rfl)
  obtain ⟨n2, rfl⟩ := okWide_int Tryd.underlying2 (hval 2 2 v2 rfl rfl)
  clear hA0 hval0
  refine Calls.mono (ctr_all (s_ValueApart (allH W) n0 n1 n2) rfl rfl (r := .bool true) ?_) fun e W' ⟨he, bel⟩ => ?_
  · rintro v H' ρ' ⟨rfl, rfl⟩; exact ⟨rfl, _, rfl, Sub.refl _⟩
  subst he
  exact ⟨_, rfl, _, _, _, [], _, [], hW', trodAll_mk1 (shut_bool Tryd.underlying4 _), (trodAll_cons_mk (Below.trod laidOut (by kernel_rfl) (of_decide_eq_true (by kernel_rfl)) k0 bel lt0) (trodAll_cons_mk (Below.trod laidOut (by kernel_rfl) (of_decide_eq_true (by kernel_rfl)) k1 bel lt1) (trodAll_cons_mk (Below.trod laidOut (by kernel_rfl) (of_decide_eq_true (by kernel_rfl)) k2 bel lt2) trodAll_mk0))), rfl, bel.frame _, fun h => by cases h⟩
theorem valueApart_row : Rows.valueApartRow.holds Tryd.pinned (OpenSpec.ofChange Rows.valueApartSpec) :=
  OpenClaim.holds_of_wide 3 Tryd.f3 rfl rfl rfl rfl rfl rfl rfl ⟨rfl, rfl, rfl, rfl, rfl⟩ rfl rfl rfl rfl rfl (by kernel_rfl) Tryd.func3 (by kernel_rfl)
    (of_decide_eq_true (by kernel_rfl)) (by unfold Func.isWrapper; first | (rw [if_pos (by decide +kernel)]; kernel_rfl) | (rw [if_neg (by decide +kernel)]; exact ⟨rfl, rfl⟩))
    (fun os started H enc _ => valueApart_lifted os started H enc)
theorem valueApartCard_holds : Rows.ValueApartCardSaid :=
  Claim7.holds_tied_plain_at .later [] [.data, .data, .data] true (true, "ceb67bd1a922e30f192e378ff884a180f90d68348a0a6d50a2f3b1eb50da590c") true valueApart_row (fun _ h => by cases h) (by kernel_rfl) (fun _ h => by cases h) valueApart_row_tie rfl ⟨rfl, rfl⟩ (by kernel_rfl) rfl
    (fun f fn hf hfn => by
      obtain rfl : f = 3 := Option.some.inj ((show Tryd.prog.funcNamed "rostrum/rostrumlaw12.ValueApart" = some 3 by kernel_rfl).symm.trans hf) |>.symm
      obtain rfl : fn = Tryd.f3 := (Option.some.inj (Tryd.func3.symm.trans hfn)).symm
      exact ⟨by kernel_rfl, fun j t ht => by
        rw [Tryd.params3] at ht
        have hm : t ∈ [3, 9, 2] := by simpa using Array.mem_of_getElem? ht
        have hall : ([3, 9, 2].all fun u => !Tryd.prog.wantsStandIn u) = true := by kernel_rfl
        exact (show Tryd.prog.wantsStandIn t = false by simpa using List.all_eq_true.1 hall t hm)⟩)
    (by kernel_rfl)
end Go.Proofs.YtnhhjfkcmhbblaaDoor

