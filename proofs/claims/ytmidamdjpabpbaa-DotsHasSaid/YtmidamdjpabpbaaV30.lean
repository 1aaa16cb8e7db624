/- Part of the proof that the statement named in the last file holds: lemmas of the prover's own. No conditions. -/
import Derived.Test.YtmidamdjpabpbaaV29
namespace Go.V
open Go

section
variable {P : Program} {ρ : Rho} {H : List SO} {g : Fr} {w : World} {t : List SV} {a : Act} {ops : Array Oper} {Q : Exit → Act → World → Prop}

theorem callv_inv {o : Oper} {y : Opd} {l : List Opd} (hc : cOp P o = some (.callv y l)) : ∃ x args ats, o.op = .call { callee := .value x, args := args, argTypes := ats } ∧ cOpd x = some y ∧ cOpds args = some l := by
  unfold cOp at hc
  split at hc
  case h_32 x args ats _ ho =>
    simp only [Option.bind_eq_bind, Option.bind_eq_some_iff, Option.pure_def, Option.some.injEq, VOp.callv.injEq] at hc
    obtain ⟨y', hx, l', hl, rfl, rfl⟩ := hc
    exact ⟨x, args, ats, ho, hx, hl⟩
  all_goals
    exfalso
    revert hc
    repeat' split
    all_goals simp [Option.bind_eq_some_iff]

/-- One operation of a region, in the In-calculus. -/
theorem ins_in {F : Fence} (hF : F = Fence.wide ∨ ∃ l, F = Fence.wide.inRound l) {n : Nat} {dd : List Deferred} {i : Nat} {rest : List Nat} {o : Oper} {x : VIns} (ho : ops[i]? = some o) (hc : cIns P ops o = some x) {K : List SV → List SO → Prop}
    (h : At P ρ H g w t a) (hd : a.defers = dd) (hv : vcIns P x t H K) (hr : ∀ a' w', NxtD dd P ρ H g K a' w' → wpOpsIn F n P ops Q rest a' w') : wpOpsIn F n P ops Q (i :: rest) a w := by
  obtain ⟨t', h', hcase⟩ := vcIns_cases hc h hv
  simp only [wpOpsIn, ho]
  rcases hcase with ⟨hw, hop, _⟩ | ⟨hw, hk⟩
  · rw [if_pos hw]
    have hco := (cIns_spec hc).1
    have := wpIn_of_good (Q := Q) hF (n := n) (K := K) h' hd (not_defer hco) (vcOp_sound h' hco hop).1
    obtain ⟨u1, u2⟩ := this
    refine ⟨u1, ?_⟩
    generalize (o.semAt F.round a.eval).run P w = r at *
    cases r with
    | halt x w' => cases x <;> exact u2
    | ok m w' =>
      cases m <;> simp only [Oper.uponIn] at u2 ⊢
      case value v => exact hr _ _ u2
      case skip => exact hr _ _ u2
      case defer d => exact hr _ _ u2
      case enter f args => exact ⟨u2.1, CallsIn.mono u2.2 fun e w'' he => by cases e <;> first | exact hr _ _ he | exact he⟩
      case row row args => exact ⟨u2.1, RowsIn.mono u2.2 fun _ _ he => hr _ _ he⟩
      case round l f tmps assign body => exact ⟨u2.1, RoundIn.mono u2.2 fun e w'' he => by cases e <;> first | exact hr _ _ he | exact he⟩
  · rw [if_neg (by rw [hw]; simp)]
    exact ⟨fun f _ => (asks0_of hF).1 f, hr _ _ (NxtD.here h' hd o.dst (sv := un) rfl hk)⟩

/-- A call of yield. -/
theorem yield_in {l : Nat} {i : Nat} {rest : List Nat} {o : Oper} {y : Opd} {y2 : Opd} {dst : Option Nat} (ho : ops[i]? = some o) (hc : cIns P ops o = some ⟨dst, none, .callv y [y2]⟩)
    (h : At P ρ H g w t a) (hy : ev t y = .raw (.func (.yield l) #[] #[])) {R : Ending → World → Prop} (hY : YieldAt Fence.wide 0 P l #[val ρ (ev t y2)] w R)
    (hr : ∀ e w', R e w' → ∃ v, e = .returned v ∧ wpOpsIn Fence.wide 0 P ops Q rest (a.put dst v) w') : wpOpsIn Fence.wide 0 P ops Q (i :: rest) a w := by
  obtain ⟨hco, hdst, hgd⟩ := cIns_spec hc
  obtain ⟨x, args, ats, hop, hx, hargs⟩ := callv_inv hco
  have hgn : o.guard = none := by
    rcases hgd with ⟨h1, _⟩ | ⟨j, gd, want, _, _, h3⟩
    · exact h1
    · cases h3
  simp only [wpOpsIn, ho]
  rw [if_pos (by simp [Region.wanted, hgn])]
  refine ⟨fun _ _ => trivial, ?_⟩
  rw [Oper.semAt_eq _ _ _ (not_defer hco)]
  obtain ⟨fn, tmps, assign, body, hrun, hround⟩ := hY
  have e1 : a.eval x = .func (.yield l) #[] #[] := by rw [h.eq hx, hy]; rfl
  have e2 : args.map a.eval = #[val ρ (ev t y2)] := by
    obtain ⟨h1, _⟩ := evL_map h hargs
    apply Array.toList_inj.1
    simpa [evL, valL] using h1
  have hex : (execOp a.eval o).run P w = .ok (.round l fn tmps assign body) w := by
    simp only [execOp, hop, resolve, e1, e2, Deferred.ofValue, Sem.run_bind, Sem.run_pure, Result.andThen_ok, invoke]
    simpa using hrun
  rw [hex]
  refine ⟨fun hh => (by cases hh), RoundIn.mono hround fun e w' he => ?_⟩
  obtain ⟨v, rfl, hv⟩ := hr e w' he
  rw [← hdst]; exact hv
end
end Go.V
