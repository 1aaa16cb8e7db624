/- Part of the proof that the statement named in the last file holds: lemmas of the prover's own. No conditions. -/
import Derived.Test.YtmidamdjpabpbaaV33
import Derived.Below
namespace Go.V
open Go Go.RowKit

/-! ### From a contract to the row's end -/
section
variable {P : Program}
/-- A call whose blocks are all read alone leaves what was there as it was. -/
theorem ctr_below {f : FuncId} {args : List SV} {H : List SO} {Post : SV → List SO → Prop} (h : Ctr P f args H Post) (W : World) (ρ : Rho)
    (hH : ∀ (k : Nat) so, H[k]? = some so → so.isRo = true ∧ entryOK ρ W k so) (ha : belowL H.length args = true) {vs : Array Value} (hv : (valL ρ args).toArray = vs) {r : Value} (hp : ∀ v H ρ', Post v H → val ρ' v = r) :
    Calls P f vs W fun e w' => e = .returned r ∧ Below W.heap.size W w' := by
  subst hv
  have hno : ∀ (k : Nat) so, H[k]? = some so → so.owned = true → False := by
    intro k so hk ho
    have := (hH k so hk).1
    cases so <;> simp_all [SO.isRo, SO.owned]
  have hS : St ρ H ⟨fun b => W.heap[b]?, W.os, W.tape, W.output, W.drawn⟩ W := by
    constructor
    · intro k so hk; exact (hH k so hk).2
    · intro i j si sj b _ hi _ ho; exact (hno i si hi ho).elim
    · intro i j si gh b hi ho; exact (hno i si hi ho).elim
    · exact ⟨rfl, rfl, rfl, Nat.le_refl _⟩
    · intro b o h; exact h
    · intro i si b hi ho; exact (hno i si hi ho).elim
    · intro k l e hk; exact (hno k _ hk rfl).elim
    · intro k m s seen st hk; exact (hno k _ hk rfl).elim
  refine Calls.mono (h ρ _ W hS ha) ?_
  rintro e w' ⟨ρ', v, H', rfl, hS', -, -, -, hP⟩
  obtain ⟨h1, h2, h3, h4⟩ := hS'.env
  have hle : W.heap.size ≤ w'.heap.size := by
    rcases Nat.eq_zero_or_pos W.heap.size with h | h
    · omega
    · have := hS'.frm (W.heap.size - 1) _ (Array.getElem?_eq_getElem (xs := W.heap) (by omega))
      have := (Array.getElem?_eq_some_iff.1 this).1
      omega
  refine ⟨by rw [hp v H' ρ' hP], h1, h2, h3, hle, fun k hk => ?_⟩
  rw [hS'.frm k _ (Array.getElem?_eq_getElem hk)]; simp [hk]

/-- A slice that came in: nil, or in a block. -/
theorem open_sl {t e : TypeId} {W : World} {base : Nat} {a : Option Addr} {len cap : Nat} (ht : P.underlying t = some (.slice e)) (hv : Value.okWide P W .any base t (.slice a len cap)) :
    (a = none ∧ len = 0 ∧ cap = 0) ∨ ∃ b off xs e' fr, a = some ⟨b, off, none⟩ ∧ W.heap[b]? = some (.cells xs e' fr) ∧ len ≤ cap ∧ (cap : Int) ≤ IntKind.i64.max := by
  simp only [Value.okWide, ht, Cell.okWide] at hv
  cases a with
  | none =>
    left
    unfold Cell.ok at hv
    cases len <;> cases cap <;> simp_all
  | some a =>
    right
    unfold Cell.ok at hv
    simp only [ht] at hv
    obtain ⟨h1, h2, _, h3, row, cells, h4, _⟩ := hv
    obtain ⟨b, off, spot⟩ := a
    simp only at h3 h4
    subst h3
    unfold World.shape? at h4
    split at h4
    · rename_i c el fr hb
      exact ⟨b, off, c, el, fr, rfl, hb, h1, h2⟩
    · cases h4
/-- The block that a slice that came in lies in, as a block that is read. -/
def roOf (W : World) (a : Option Addr) : List Value × TypeId := match a with
  | none => ([], 0)
  | some a => match W.heap[a.block]? with
    | some (.cells xs e _) => (xs.toList, e)
    | _ => ([], 0)
def slOf (k : Nat) (a : Option Addr) (len cap : Nat) : SV := .sl k (match a with | none => 0 | some a => a.off) len cap
end
end Go.V
