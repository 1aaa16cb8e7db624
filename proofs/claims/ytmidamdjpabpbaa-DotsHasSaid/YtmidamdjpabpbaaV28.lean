/- Part of the proof that the statement named in the last file holds: lemmas of the prover's own. No conditions. -/
import Derived.Test.YtmidamdjpabpbaaV27
namespace Go.V
open Go

section
variable {P : Program} {ρ : Rho} {H : List SO} {g : Fr} {w : World}

/-- The last entry goes over to the frame. -/
theorem St.toFrame {ρ1 : Rho} {l : List SV} {tS : TypeId} {W : World} (h0 : St ρ H g w) (h : St ρ1 (H ++ [.cells l tS]) g W) (hρ : ∀ k, k < H.length → ρ1 k = ρ k) {Bs : Nat} (hB : ρ1 H.length = some Bs) {o : Obj} (ho : W.heap[Bs]? = some o) :
    St ρ H (g.at Bs (some o)) W := by
  have hget : ∀ (i : Nat) s, H[i]? = some s → (H ++ [SO.cells l tS])[i]? = some s := fun i s hi => by
    rw [List.getElem?_append_left (List.getElem?_eq_some_iff.1 hi).1]; exact hi
  have hlast : (H ++ [SO.cells l tS])[H.length]? = some (.cells l tS) := by rw [List.getElem?_append_right (Nat.le_refl _)]; simp
  have hlt : ∀ {i : Nat} {s : SO}, H[i]? = some s → i < H.length := fun hi => (List.getElem?_eq_some_iff.1 hi).1
  constructor
  · intro k s hk
    refine entryOK_congr (ρ := ρ1) (hlt hk) (h.ent k s (hget k s hk)) (fun j hj => (hρ j hj).symm) ?_ ?_ (fun b o' _ hb _ _ => hb)
    · rintro l e rfl; exact h0.scp k l e hk
    · rintro m s' seen st rfl; exact h0.sci k m s' seen st hk
  · intro i j si sj b hij hi hj ho hoj hb
    rw [← hρ i (hlt hi)] at hb
    rw [← hρ j (hlt hj)]
    exact h.dis i j si sj b hij (hget i si hi) (hget j sj hj) ho hoj hb
  · intro i j si gh b hi ho hj hb
    rw [← hρ i (hlt hi)] at hb
    exact h.gho i j si gh b (hget i si hi) ho (hget j _ hj) hb
  · exact h.env
  · intro b ob hb
    simp only [Fr.at] at hb
    split at hb
    · rename_i e; subst e; cases hb; exact ho
    · exact h.frm b ob hb
  · intro i si b hi hos hb
    simp only [Fr.at]
    rw [← hρ i (hlt hi)] at hb
    split
    · rename_i e; subst e
      exact absurd hB (h.dis i H.length si _ b (by have := hlt hi; omega) (hget i si hi) hlast hos (.inl rfl) hb)
    · exact h.frd i si b (hget i si hi) hos hb
  · exact h0.scp
  · exact h0.sci

variable {α : Type} {tS tE : TypeId} {n : Option Nat} {sz by' : Nat} {zs zsl : List Value} {sv : α → SV} {cells : α → List Value}

theorem ApJ.turn {g0 gf : Fr} {Bs D l : Nat} {rec : Loop} {xs : List α} (h : ApJ tS tE sz cells g0 Bs D l rec xs gf) (rec' : Loop) : ApJ tS tE sz cells g0 Bs D l rec' xs (gf.at l (some (.loop rec'))) := by
  obtain ⟨r, o, c, ys, hBs, hlen, hrow⟩ := h.row
  have hlB : Bs ≠ l := by
    rintro rfl
    have := h.lrec; rw [hBs] at this; cases this
  have hlD : D ≠ l := by
    rintro rfl
    have := h.lrec; rw [h.dd] at this; cases this
  refine ⟨h.env, ?_, by simp [Fr.at], ?_, h.own, r, o, c, ys, ?_, hlen, ?_⟩
  · intro b ob hb
    simp only [Fr.at]
    rw [if_neg (by rintro rfl; rw [h.own.2.1] at hb; cases hb)]; exact h.keep b ob hb
  · simp only [Fr.at]; rw [if_neg hlD]; exact h.dd
  · simp only [Fr.at]; rw [if_neg hlB]; exact hBs
  · rcases hrow with h1 | ⟨b, fr, e1, e2, e3⟩
    · exact .inl h1
    · refine .inr ⟨b, fr, e1, ?_, e3⟩
      simp only [Fr.at]
      rw [if_neg (by rintro rfl; rw [h.lrec] at e2; cases e2)]; exact e2

theorem owned_not_deferred {i b : Nat} {so : SO} {ds : Option (List Deferred)} (h : entryOK ρ w i so) (ho : so.owned = true) (hr : ρ i = some b) (hb : w.heap[b]? = some (.deferred ds)) : False := by
  cases so <;> simp only [entryOK, SO.owned] at h ho
  case cells l e => obtain ⟨b', h1, h2⟩ := h; rw [hr] at h1; cases h1; rw [hb] at h2; cases h2
  case arr xs e =>
    rcases h with ⟨h1, _⟩ | ⟨b', fr, h1, h2, _⟩
    · rw [hr] at h1; cases h1
    · rw [hr] at h1; cases h1; rw [hb] at h2; cases h2
  case map es c => obtain ⟨b', h1, h2⟩ := h; rw [hr] at h1; cases h1; rw [hb] at h2; cases h2
  case iter m s seen st => obtain ⟨b', h1, h2⟩ := h; rw [hr] at h1; cases h1; rw [hb] at h2; cases h2
  case siter s p => obtain ⟨b', h1, h2⟩ := h; rw [hr] at h1; cases h1; rw [hb] at h2; cases h2
  all_goals cases ho

/-- Function f is slices.AppendSeq at these types. -/
def IsAp (P : Program) (f : FuncId) (tS tE : TypeId) (n : Option Nat) (sz by' : Nat) (zs zsl : List Value) : Prop :=
  ∃ (fn : Func) (i0 i1 i2 i3 i4 b0 b1 : Nat) (ops0 ops1 ops2 ops3 ops4 : Array Oper), P.funcs[f]? = some fn ∧
    fn.body = some (.seq (.region i0 ops0 false) (.seq (.seq (.region i1 ops1 false) (.block b0 (.rangeFunc (.tmp 6) #[7] (.region i2 ops2 false) (.block b1 (.region i3 ops3 false))))) (.seq (.region i4 ops4 false) .ret))) ∧
    ops0.toList.mapM (cIns P ops0) = some [⟨some 2, none, .box tS (.t 0)⟩, ⟨some 4, none, .mov (.c (.raw (.slice none 0 0)))⟩] ∧
    ops1.toList.mapM (cIns P ops1) = some [⟨some 6, none, .mov (.t 1)⟩] ∧
    ops2.toList.mapM (cIns P ops2) = some (apL2 tE n zs) ∧ ops3.toList.mapM (cIns P ops3) = some (apL3 tE n sz by' zs zsl) ∧
    ops4.toList.mapM (cIns P ops4) = some [⟨some 12, none, .load none (.t 2)⟩, ⟨some 4, none, .mov (.t 12)⟩] ∧ fn.ntmps = 13 ∧ fn.results = #[.tmp 4]
end
end Go.V
