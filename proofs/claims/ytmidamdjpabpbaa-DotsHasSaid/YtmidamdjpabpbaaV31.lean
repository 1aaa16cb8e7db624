/- Part of the proof that the statement named in the last file holds: lemmas of the prover's own. No conditions. -/
import Derived.Test.YtmidamdjpabpbaaV30
namespace Go.V
open Go

/-- Function f is maps.Keys's (which = 0) or maps.Values's (which = 1) iterator. -/
def itL2 (tE : TypeId) (n : Option Nat) (zs : List Value) (which : Nat) : List VIns := [⟨some 8, none, .entry (.t 5)⟩, ⟨some 9, none, .extr (.t 8) which⟩, ⟨some 3, none, .new tE zs⟩, ⟨none, none, .store n (.t 3) (.t 9)⟩]
def itL3 (n : Option Nat) : List VIns := [⟨some 10, none, .mov (.t 0)⟩, ⟨some 11, none, .load n (.t 3)⟩, ⟨some 12, none, .callv (.t 10) [.t 11]⟩, ⟨some 13, none, .un .not (.t 12)⟩]
def IsIt (P : Program) (f : FuncId) (tE : TypeId) (n : Option Nat) (zs : List Value) (which : Nat) : Prop :=
  ∃ (fn : Func) (i0 i1 i2 i3 b0 b1 : Nat) (ops0 ops1 ops2 ops3 : Array Oper), P.funcs[f]? = some fn ∧
    fn.body = some (.seq (.region i0 ops0 false) (.block b0 (.loop (.seq (.region i1 ops1 false) (.seq (.cond (.tmp 7) .skip (.exit b0)) (.block b1 (.seq (.region i2 ops2 false) (.seq (.region i3 ops3 false) (.cond (.tmp 13) .ret .skip))))))))) ∧
    ops0.toList.mapM (cIns P ops0) = some [⟨some 4, none, .load none (.t 1)⟩, ⟨some 5, none, .range false (.t 4)⟩] ∧
    ops1.toList.mapM (cIns P ops1) = some [⟨some 6, none, .next false (.t 5)⟩, ⟨some 7, none, .extr (.t 6) 0⟩] ∧
    ops2.toList.mapM (cIns P ops2) = some (itL2 tE n zs which) ∧ ops3.toList.mapM (cIns P ops3) = some (itL3 n) ∧ fn.ntmps = 14 ∧ fn.results = #[]

section
variable {P : Program} {α : Type} {tE : TypeId} {n : Option Nat} {sz by' : Nat} {zs : List Value} {sv : α → SV} {cells : α → List Value}

/-- A round keeps what the iterator owns. -/
theorem St.round {ρ : Rho} {H : List SO} {g g' : Fr} {W W' : World} (h : St ρ H g W) (hp : plainH H = true) (hc : Cov W' g') (he : ExtF g W g' W') : St ρ H g' W' := by
  have ow : ∀ (i : Nat) si b, H[i]? = some si → si.owned = true → ρ i = some b → ∀ o, W.heap[b]? = some o → W'.heap[b]? = some o ∧ g'.f b = none :=
    fun i si b hi ho hb o hw => he b o hw (h.frd i si b hi ho hb)
  constructor
  · intro k s hk
    rcases plainH_spec hp k s hk with h1 | h1
    · refine entryOK_congr (n := H.length) (List.getElem?_eq_some_iff.1 hk).1 (h.ent k s hk) (fun _ _ => rfl) ?_ ?_ ?_
      · rintro l e rfl; exact h.scp k l e hk
      · rintro m s' seen st rfl; exact h.sci k m s' seen st hk
      · intro b o _ hb hor _
        exact (ow k s b hk h1 (hor (.inl h1)) o hb).1
    · subst h1; trivial
  · exact h.dis
  · exact h.gho
  · exact hc.1
  · exact hc.2
  · intro i si b hi ho hb
    have hlt := entryOK_lt (h.ent i si hi) (.inl ho) hb
    exact (ow i si b hi ho hb _ (Array.getElem?_eq_getElem hlt)).2
  · exact h.scp
  · exact h.sci

theorem it_l2 (h : Elem P tE n sz by' zs sv cells) {tB : TypeId} {es : List MapEntry} {c s : Nat} {seen : List Nat} {which : Nat} {e : MapEntry} (x : α)
    (hlast : seen.getLast? = some s) (hfind : es.find? (·.born == s) = some e) (hx : [svConst e.key, svConst e.val][which]? = some (sv x)) (u0 u1 u2 u3 u4 u6 u7 u8 u9 u10 u11 u12 u13 : SV) :
    vcReg P (itL2 tE n zs which) [u0, u1, u2, u3, u4, .ptr 2 0, u6, u7, u8, u9, u10, u11, u12, u13] [.cells [.mp 1] tB, .map es c, .iter (some 1) c seen c]
      (fun t' H' => (∃ v8, t' = [u0, u1, u2, .ptr 3 0, u4, .ptr 2 0, u6, u7, v8, sv x, u10, u11, u12, u13]) ∧ H' = [.cells [.mp 1] tB, .map es c, .iter (some 1) c seen c, .cells ((cells x).map .raw) tE]) := by
  simp only [itL2, vcReg, vcIns, vcOp, putK_eq, put, evK, getK, vcEntry, objK]
  refine ⟨s, e, hlast, hfind, trivial, ?_⟩
  simp only [List.set_cons_succ, List.set_cons_zero, getK, hx, rawsK_eq, newHK_eq, List.length_cons, List.length_nil, Nat.reduceAdd, List.cons_append, List.nil_append, vcStore, h.stored x, objK]
  simp only [paste_all (zs.map SV.raw) ((cells x).map SV.raw) (by simp [h.len x, h.zlen]), setHK_eq, List.set_cons_succ, List.set_cons_zero]
  exact ⟨⟨_, rfl⟩, trivial⟩
end
end Go.V
