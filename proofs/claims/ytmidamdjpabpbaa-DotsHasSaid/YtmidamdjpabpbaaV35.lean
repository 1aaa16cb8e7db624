/- Part of the proof that the statement named in the last file holds: lemmas of the prover's own. No conditions. -/
import Derived.Test.YtmidamdjpabpbaaV34
import Derived.ProofKit
import Derived.Deep.SlicePairs
import Derived.Lib.SmallJoins
namespace Go.V
open Go Go.RowKit Go.ChangeShapes Go.WideShapes

/-! ### Arguments that come in -/
section
variable {P : Program} {H : Type} {enc : TypeId × Value → H} {W : World}

def roOK (W : World) (bo : Option Nat) (xs : List Value) (te : TypeId) : Prop := (bo = none ∧ xs = []) ∨ ∃ b fr, bo = some b ∧ W.heap[b]? = some (.cells xs.toArray te fr)

def pcl (k0 k1 : IntKind) (x : Int × Int) : List Value := [.int k0 x.1, .int k1 x.2]

/-- A slice of structs of two integers. -/
theorem open_pairs {t e : TypeId} {f0 f1 : Field} {k0 k1 : IntKind} {base : Nat} {a : Option Addr} {len cap : Nat} {d : DataW H} {p : List MemPlace} (ht : P.underlying t = some (.slice e)) (he : P.underlying e = some (.struct #[f0, f1]))
    (ce : P.cellsOf e = 2) (o0 : f0.offset = 0) (o1 : f1.offset = 1) (c0 : P.cellsOf f0.type = 1) (c1 : P.cellsOf f1.type = 1) (u0 : P.underlying f0.type = some (.int k0)) (u1 : P.underlying f1.type = some (.int k1))
    (hval : Value.okWide P W .any base t (.slice a len cap)) (h : DataW.Trod enc P W 0 (fun _ => true) true t (.slice a len cap) d p) :
    ∃ (ds : List (Int × Int)) (xs : List Value) (te : TypeId) (o : Nat) (bo : Option Nat), ds.length = len ∧ roOK W bo xs te ∧ bo.map (fun b => (⟨b, o, none⟩ : Addr)) = a ∧ len ≤ cap ∧
      (∀ x ∈ ds, (Lit.int k0 x.1).wf = true ∧ (Lit.int k1 x.2).wf = true) ∧ (0 < ds.length → o + ds.length * 2 ≤ xs.length ∧ (xs.drop o).take (ds.length * 2) = ds.flatMap (pcl k0 k1)) := by
  rcases open_sl ht hval with ⟨rfl, rfl, rfl⟩ | ⟨b, o, xs, te, fr, rfl, hb, hlc, _⟩
  · exact ⟨[], [], 0, 0, none, rfl, .inl ⟨rfl, rfl⟩, rfl, Nat.le_refl _, by simp, by simp⟩
  obtain ⟨fuel, hf⟩ := h
  rcases Go.Deep.open_slice_pairs ht he ce o0 o1 c0 c1 hf with ⟨hcs, _⟩ | ⟨a, l, c, m, n, V0, V1, D0, D1, P0, P1, hcs, _, hl, _, hm, _, hx⟩
  · simp [Value.cells] at hcs
  · simp only [Value.cells, List.cons.injEq, Value.slice.injEq, Option.some.injEq, and_true] at hcs
    obtain ⟨rfl, rfl, rfl⟩ := hcs
    simp only [if_true] at hm
    subst hm
    have each : ∀ i, i < m → ∃ q : Int × Int, xs[o + i * 2]? = some (.int k0 q.1) ∧ xs[o + i * 2 + 1]? = some (.int k1 q.2) ∧ (Lit.int k0 q.1).wf = true ∧ (Lit.int k1 q.2).wf = true := by
      intro i hi
      obtain ⟨g0, g1, g2, g3⟩ := hx i hi
      obtain ⟨x, e0, _, w0⟩ := DataW.trod_int u0 g2
      obtain ⟨y, e1, _, w1⟩ := DataW.trod_int u1 g3
      simp only [List.cons.injEq, and_true] at e0 e1
      rw [e0, add_eq, cell_of hb] at g0
      rw [e1, add_eq, cell_of hb] at g1
      exact ⟨(x, y), g0, by rw [Nat.add_assoc]; exact g1, w0, w1⟩
    obtain ⟨q, hq⟩ := Go.Deep.choose_lt each
    refine ⟨(List.range len).map q, xs.toList, te, o, some b, by simp, .inr ⟨b, fr, rfl, by simpa using hb⟩, rfl, hl, ?_, ?_⟩
    · intro x hx
      obtain ⟨i, hi, rfl⟩ := List.mem_map.1 hx
      have := hq i (by have := List.mem_range.1 hi; omega)
      exact ⟨this.2.2.1, this.2.2.2⟩
    · simp only [List.length_map, List.length_range]
      intro hpos
      have hlast := (hq (len - 1) (by omega)).2.1
      have hsz := (Array.getElem?_eq_some_iff.1 hlast).1
      have hbnd : o + len * 2 ≤ xs.toList.length := by simp; omega
      refine ⟨hbnd, ?_⟩
      have hk : ∀ x : Int × Int, (pcl k0 k1 x).length = 2 := fun _ => rfl
      apply List.ext_getElem?
      intro t
      by_cases ht : t < len * 2
      · rw [List.getElem?_take_of_lt ht, List.getElem?_drop, flatMap_get hk _ t (by simpa using ht)]
        have hi : t / 2 < len := by omega
        have hqi := hq (t / 2) (by omega)
        have hgi : ((List.range len).map q)[t / 2]! = q (t / 2) := by rw [getElem!_pos _ _ (by simpa using hi)]; simp
        rw [hgi]
        rcases Nat.mod_two_eq_zero_or_one t with h0 | h0
        · rw [h0, show o + t = o + t / 2 * 2 by omega]; simpa [pcl] using hqi.1
        · rw [h0, show o + t = o + t / 2 * 2 + 1 by omega]; simpa [pcl] using hqi.2.1
      · rw [List.getElem?_eq_none (by simp; omega), List.getElem?_eq_none (by rw [flatMap_len hk]; simp; omega)]
end
end Go.V
