/- Part of the proof that the statement named in the last file holds: lemmas of the prover's own. No conditions. -/
import Derived.Test.YtmidamdjpabpbaaV23
namespace Go.V
open Go

/-! ### Ranges over a function -/
def Cov (W : World) (g : Fr) : Prop := (W.os = g.os ∧ W.tape = g.tape ∧ W.output = g.out ∧ g.dr ≤ W.drawn) ∧ ∀ b o, g.f b = some o → W.heap[b]? = some o
/-- What lies outside both frames stays. -/
def ExtF (g : Fr) (W : World) (g' : Fr) (W' : World) : Prop := ∀ b o, W.heap[b]? = some o → g.f b = none → W'.heap[b]? = some o ∧ g'.f b = none

/-- A round, as the iterator sees it. -/
def RoundC {α : Type} (P : Program) (l : Nat) (enc : α → Value) (J : List α → Fr → Prop) (N : Nat) : Prop :=
  ∀ (pre : List α) (x : α) (g : Fr) (W : World) (m : Nat), J pre g → pre.length < N → Cov W g →
    YieldAt Fence.wide m P l #[enc x] W fun e W' => e = .returned (.bool true) ∧ ∃ g', J (pre ++ [x]) g' ∧ Cov W' g' ∧ ExtF g W g' W'

/-- What an iterator gives: function g with what it has captured; H: its own blocks. -/
def Gives {α : Type} (P : Program) (f : FuncId) (caps : List SV) (H : List SO) (enc : α → Value) (S : List α → Prop) (N : Nat) : Prop :=
  ∀ (l : Nat) (J : List α → Fr → Prop) (ρ : Rho) (g : Fr) (W : World), St ρ H g W → belowL H.length caps = true → J [] g → RoundC P l enc J N →
    Calls P f (#[.func (.yield l) #[] #[]] ++ (valL ρ caps).toArray) W fun e W' => (∃ v, e = .returned v) ∧ ∃ xs g', S xs ∧ J xs g' ∧ St ρ H g' W'

section
variable {P : Program} {ρ : Rho} {H : List SO} {g : Fr} {w : World}

/-- Entries that are owned, or nothing. -/
def plainH : List SO → Bool
  | [] => true
  | .gone :: r => plainH r
  | o :: r => o.owned && plainH r
theorem plainH_spec : ∀ {H : List SO}, plainH H = true → ∀ (i : Nat) s, H[i]? = some s → s.owned = true ∨ s = .gone
  | [], _, i, s, h => by simp at h
  | o :: r, hp, i, s, h => by
    have hr : plainH r = true ∧ (o.owned = true ∨ o = .gone) := by
      cases o <;> simp_all [plainH, SO.owned]
    cases i with
    | zero => simp at h; subst h; exact hr.2
    | succ i => exact plainH_spec hr.1 i s (by simpa using h)

def Fr.at (g : Fr) (l : Nat) (o : Option Obj) : Fr := { g with f := fun b => if b = l then o else g.f b }
def Fr.all (W : World) (no : Nat → Prop) [DecidablePred no] : Fr := ⟨fun b => if no b then none else W.heap[b]?, W.os, W.tape, W.output, W.drawn⟩

/-- A block of the frame is turned. -/
theorem St.outside (h : St ρ H g w) (hp : plainH H = true) {l : Nat} {o o' : Obj} (hl : g.f l = some o) : St ρ H (g.at l (some o')) (w.putObj l o') := by
  have hlt : l < w.heap.size := (Array.getElem?_eq_some_iff.1 (h.frm l o hl)).1
  constructor
  · intro k s hk
    refine entryOK_congr (n := H.length) (List.getElem?_eq_some_iff.1 hk).1 (h.ent k s hk) (fun _ _ => rfl) ?_ ?_ ?_
    · rintro l e rfl; exact h.scp k l e hk
    · rintro m s' seen st rfl; exact h.sci k m s' seen st hk
    · intro b ob hng hb hor hgh
      rcases plainH_spec hp k s hk with ho | ho
      · have hne : b ≠ l := by
          rintro rfl
          have := h.frd k s b hk ho (hor (.inl ho))
          rw [this] at hl; cases hl
        rw [World.putObj_heap_other hne]; exact hb
      · exact absurd ho hng
  · exact h.dis
  · exact h.gho
  · exact h.env
  · intro b ob hb
    simp only [Fr.at] at hb
    split at hb
    · rename_i e; subst e; cases hb; exact World.putObj_heap_same hlt
    · rename_i e; rw [World.putObj_heap_other e]; exact h.frm b ob hb
  · intro i si b hi ho hb
    have hn := h.frd i si b hi ho hb
    simp only [Fr.at]
    split
    · rename_i e; subst e; rw [hn] at hl; cases hl
    · exact hn
  · exact h.scp
  · exact h.sci

/-- How elements are written. -/
structure Elem (P : Program) {α : Type} (tE : TypeId) (n : Option Nat) (sz by' : Nat) (zs : List Value) (sv : α → SV) (cells : α → List Value) : Prop where
  shape : shapeT P tE = some n
  size : sizeT P tE = some sz
  bytes : bytesT P tE = some by'
  zero : zeroCellsT P tE = some zs
  zlen : zs.length = sz
  pos : sz ≠ 0 ∧ by' ≠ 0
  sv_cells : ∀ x, (n = none ∧ ∃ v, sv x = .raw v ∧ cells x = [v]) ∨ (∃ m, n = some m ∧ sv x = .agg ((cells x).map .raw))
  len : ∀ x, (cells x).length = sz
  ok : ∀ x, cellsOK (cells x) = true

theorem paste_all {α : Type} : ∀ (l ys : List α), l.length = ys.length → paste l 0 ys = some ys
  | [], [], _ => by simp [paste]
  | x :: l, y :: ys, h => by
    simp only [List.length_cons, Nat.add_right_cancel_iff] at h
    simp only [paste, paste_all l ys h]
  | [], _ :: _, h => by simp at h
  | _ :: _, [], h => by simp at h
theorem plainL_raws : ∀ (l : List Value), plainL (l.map .raw) = some l
  | [] => rfl
  | x :: l => by simp [plainL, plain, plainL_raws l]
theorem cut_all {α : Type} : ∀ (l : List α), cut l 0 l.length = some l
  | [] => by simp [cut]
  | x :: l => by simp [cut, cut_all l]
theorem oneL_raws : ∀ {l : List Value}, cellsOK l = true → oneL (l.map .raw) = true
  | [], _ => rfl
  | x :: l, h => by
    have h2 : (one (.raw x) = true) ∧ cellsOK l = true := by
      cases x <;> simp_all [cellsOK, one]
    simp [oneL, h2.1, oneL_raws h2.2]
theorem Elem.stored {α : Type} {tE : TypeId} {n : Option Nat} {sz by' : Nat} {zs : List Value} {sv : α → SV} {cells : α → List Value} (h : Elem P tE n sz by' zs sv cells) (x : α) : stored n (sv x) = some ((cells x).map .raw) := by
  have hok := h.ok x
  rcases h.sv_cells x with ⟨rfl, v, e1, e2⟩ | ⟨m, rfl, e1⟩
  · rw [e1, e2]
    have : one (.raw v) = true := by
      rw [e2] at hok
      cases v <;> simp_all [cellsOK, one]
    simp [V.stored, this]
  · rw [e1]
    have hm : m = sz := by
      have := (shape_some h.shape).2
      rw [h.size] at this; exact (Option.some.inj this).symm
    simp [V.stored, oneL_raws hok, h.len x, hm]
theorem Elem.partCells {α : Type} {tE : TypeId} {n : Option Nat} {sz by' : Nat} {zs : List Value} {sv : α → SV} {cells : α → List Value} (h : Elem P tE n sz by' zs sv cells) (x : α) : partCells (sv x) = some ((cells x).map .raw) := by
  have hok := h.ok x
  rcases h.sv_cells x with ⟨rfl, v, e1, e2⟩ | ⟨m, rfl, e1⟩
  · rw [e1, e2]
    have : one (.raw v) = true := by
      rw [e2] at hok
      cases v <;> simp_all [cellsOK, one]
    simp [V.partCells, this]
  · rw [e1]; simp [V.partCells]
end
end Go.V
