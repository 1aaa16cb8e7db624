/- Part of the proof that the statement named in the last file holds: lemmas of the prover's own. No conditions. -/
import Derived.Test.YtmidamdjpabpbaaV22
import Derived.RangeFuncSeq
import Derived.RangeFuncLeaves
namespace Go.V
open Go

section
variable {P : Program} {ρ : Rho} {H : List SO} {g : Fr} {w : World} {t : List SV} {a : Act} {ops : Array Oper} {Q : Exit → Act → World → Prop}

/-- A fence that asks nothing. -/
def Asks0 (F : Fence) : Prop := (∀ f, F.fn f) ∧ F.depth = none
theorem asks0_wide : Asks0 Fence.wide := ⟨fun _ => trivial, rfl⟩
theorem asks0_round (l : Nat) : Asks0 (Fence.wide.inRound l) := ⟨fun _ => trivial, rfl⟩

theorem callsIn0 {F : Fence} (hF : F = Fence.wide ∨ ∃ l, F = Fence.wide.inRound l) {n : Nat} {f : FuncId} {args : Array Value} {R : Ending → World → Prop} (h : Calls P f args w R) : CallsIn F n P f args w R := by
  rcases hF with rfl | ⟨l, rfl⟩
  · exact callsIn_wide.2 h
  · exact (callsIn_wide (n := n)).2 h
theorem asks0_of {F : Fence} (hF : F = Fence.wide ∨ ∃ l, F = Fence.wide.inRound l) : Asks0 F := by
  rcases hF with rfl | ⟨l, rfl⟩
  · exact asks0_wide
  · exact asks0_round l

/-- 'Nxt' with deferred calls kept. -/
def NxtD (dd : List Deferred) (P : Program) (ρ : Rho) (H : List SO) (g : Fr) (K : List SV → List SO → Prop) (a' : Act) (w' : World) : Prop :=
  ∃ ρ' t' H', At P ρ' H' g w' t' a' ∧ a'.defers = dd ∧ (∀ k, k < H.length → ρ' k = ρ k) ∧ H.length ≤ H'.length ∧ K t' H'
theorem Res.nextD {dd : List Deferred} {K : List SV → List SO → Prop} (h : At P ρ H g w t a) (hd : a.defers = dd) {d : Option Nat} {v : Value} {w' : World} (hr : Res ρ H g (fun sv H' => K (put t d sv) H') v w') : NxtD dd P ρ H g K (a.put d v) w' := by
  obtain ⟨ρ', sv, H', rfl, hS, hρ, hl, hb, hk⟩ := hr
  refine ⟨ρ', put t d sv, H', ⟨(h.f.ext hρ h.b).put d sv, belowL_put (belowL_mono hl t h.b) d hb, hS⟩, ?_, hρ, hl, hk⟩
  cases d <;> exact hd
theorem NxtD.here {dd : List Deferred} {K : List SV → List SO → Prop} (h : At P ρ H g w t a) (hd : a.defers = dd) (d : Option Nat) {sv : SV} (hb : below H.length sv = true) (hk : K (put t d sv) H) : NxtD dd P ρ H g K (a.put d (val ρ sv)) w :=
  (Res.here (K := fun sv H' => K (put t d sv) H') h.s hb hk).nextD h hd

theorem wpIn_of_good {F : Fence} (hF : F = Fence.wide ∨ ∃ l, F = Fence.wide.inRound l) {n : Nat} {dd : List Deferred} {K : List SV → List SO → Prop} (h : At P ρ H g w t a) (hd : a.defers = dd) {o : Oper} (hnd : ∀ c, o.op ≠ .defer c)
    (hg : GoodRes P ρ H g (fun sv H' => K (put t o.dst sv) H') ((execOp a.eval o).run P w)) : o.wpIn F n P a w (NxtD dd P ρ H g K) Q := by
  obtain ⟨hf, hdep⟩ := asks0_of hF
  refine ⟨fun f _ => hf f, ?_⟩
  rw [Oper.semAt_eq _ _ _ hnd]
  generalize (execOp a.eval o).run P w = r at *
  cases r with
  | halt x w' => simp [GoodRes] at hg
  | ok n w' =>
    cases n <;> simp only [GoodRes] at hg <;> simp only [Oper.uponIn]
    case value v => exact hg.nextD h hd
    case skip => exact hg.nextD h hd
    case enter f args =>
      refine ⟨fun hs => (by rw [hdep] at hs; cases hs), callsIn0 hF (Calls.mono hg ?_)⟩
      rintro e w'' ⟨v, rfl, hr⟩
      exact hr.nextD h hd

theorem not_defer {o : Oper} {op : VOp} (hc : cOp P o = some op) : ∀ c, o.op ≠ .defer c := by
  intro c e
  simp [cOp, e] at hc

theorem vcReg_soundIn {F : Fence} (hF : F = Fence.wide ∨ ∃ l, F = Fence.wide.inRound l) {n : Nat} {dd : List Deferred} {Q' : List SV → List SO → Prop} (hQ : ∀ a w, NxtD dd P ρ H g Q' a w → Q .normal a w) : ∀ (l : List VIns) (k : Nat), (∀ j : Nat, (ops.toList.drop k)[j]?.bind (cIns P ops) = l[j]?) → k + l.length = ops.size →
    ∀ {ρ1 : Rho} {H1 : List SO} {w1 : World} {t1 : List SV} {a1 : Act}, At P ρ1 H1 g w1 t1 a1 → a1.defers = dd → (∀ k, k < H.length → ρ1 k = ρ k) → H.length ≤ H1.length →
    vcReg P l t1 H1 Q' → wpOpsIn F n P ops Q (List.range' k l.length) a1 w1
  | [], k, _, _, ρ1, H1, w1, t1, a1, h, hd, hρ, hl, hv => by
    simp only [List.length_nil, List.range', wpOpsIn]
    exact hQ _ _ ⟨ρ1, t1, H1, h, hd, hρ, hl, hv⟩
  | x :: l, k, hc, hn, ρ1, H1, w1, t1, a1, h, hd, hρ, hl, hv => by
    have h0 := hc 0
    simp only [List.getElem?_cons_zero, List.getElem?_drop, Nat.add_zero] at h0
    cases ho : ops[k]? with
    | none => simp [ho] at h0
    | some o =>
      simp [ho] at h0
      simp only [List.length_cons, List.range']
      simp only [vcReg] at hv
      have step : ∀ {ρ' : Rho} {H' : List SO} {w' : World} {t' : List SV} {a' : Act}, At P ρ' H' g w' t' a' → a'.defers = dd → (∀ k, k < H1.length → ρ' k = ρ1 k) → H1.length ≤ H'.length → vcReg P l t' H' Q' →
          wpOpsIn F n P ops Q (List.range' (k + 1) l.length) a' w' := by
        intro ρ' H' w' t' a' h1 h2 h3 h4 h5
        refine vcReg_soundIn hF hQ l (k + 1) (fun j => ?_) (by simp at hn; omega) h1 h2 (fun k hk => (h3 k (by omega)).trans (hρ k hk)) (by omega) h5
        have := hc (j + 1)
        simp only [List.getElem?_drop, List.getElem?_cons_succ] at this ⊢
        rw [← this]; congr 2; omega
      have mono : ∀ a' w', NxtD dd P ρ1 H1 g (fun t' H' => vcReg P l t' H' Q') a' w' → wpOpsIn F n P ops Q (List.range' (k + 1) l.length) a' w' := by
        rintro a' w' ⟨ρ', t', H', h1, h2, h3, h4, h5⟩
        exact step h1 h2 h3 h4 h5
      obtain ⟨t', h', hcase⟩ := vcIns_cases h0 h hv
      simp only [wpOpsIn, ho]
      rcases hcase with ⟨hw, hop, _⟩ | ⟨hw, hk⟩
      · rw [if_pos hw]
        have hco := (cIns_spec h0).1
        have := wpIn_of_good (Q := Q) hF (n := n) (K := fun t' H' => vcReg P l t' H' Q') h' hd (not_defer hco) (vcOp_sound h' hco hop).1
        obtain ⟨u1, u2⟩ := this
        refine ⟨u1, ?_⟩
        generalize (o.semAt F.round a1.eval).run P w1 = r at *
        cases r with
        | halt x w' => cases x <;> exact u2
        | ok m w' =>
          cases m <;> simp only [Oper.uponIn] at u2 ⊢
          case value v => exact mono _ _ u2
          case skip => exact mono _ _ u2
          case defer d => exact mono _ _ u2
          case enter f args => exact ⟨u2.1, CallsIn.mono u2.2 fun e w'' he => by cases e <;> first | exact mono _ _ he | exact he⟩
          case row row args => exact ⟨u2.1, RowsIn.mono u2.2 fun _ _ he => mono _ _ he⟩
          case round l f tmps assign body => exact ⟨u2.1, RoundIn.mono u2.2 fun e w'' he => by cases e <;> first | exact mono _ _ he | exact he⟩
      · rw [if_neg (by rw [hw]; simp)]
        exact ⟨fun f _ => (asks0_of hF).1 f, mono _ _ (NxtD.here h' hd o.dst (sv := un) rfl hk)⟩

theorem vcReg_regionIn {F : Fence} (hF : F = Fence.wide ∨ ∃ l, F = Fence.wide.inRound l) {n : Nat} {dd : List Deferred} {id : Nat} {l : List VIns} (hc : ops.toList.mapM (cIns P ops) = some l) {Q' : List SV → List SO → Prop} (hQ : ∀ a w, NxtD dd P ρ H g Q' a w → Q .normal a w)
    (h : At P ρ H g w t a) (hd : a.defers = dd) (hv : vcReg P l t H Q') : (Code.region id ops false).wpIn F n P Q a w := by
  obtain ⟨h1, h2⟩ := mapM_get hc
  refine wpIn_region ?_
  have := vcReg_soundIn (ops := ops) (Q := Q) (n := n) hF hQ l 0 (by simpa using h2) (by simpa using h1) h hd (fun _ _ => rfl) (Nat.le_refl _) hv
  rw [List.range_eq_range', ← Array.length_toList, ← h1]
  exact this
end
end Go.V
