/- Part of the proof that the statement named in the last file holds: lemmas of the prover's own. No conditions. -/
import Derived.Test.YtfnjbdnnnpbeaaaGreatDoorVC
import Derived.RangeFuncSeq
import Derived.RangeFuncLeaves
import Derived.Shelf.SlSortCmp.NoneTotal
import Derived.Below
import Derived.ProofKit
import Derived.Deep.SlicePairs
import Derived.Lib.SmallJoins
import Derived.Shelf.SlMaps.Clone
import Derived.Shelf.Unicode.PredsPay
import Derived.Shelf.Strings.Builder1
import Derived.Shelf.Sort.Plain
import Derived.Shelf.Slices.In.SortNone
import Derived.Shelf.Strings.OnBuilder
import Derived.Shelf.Slices.CompactS
import Derived.Shelf.Strconv.Itoa4
import Derived.Shelf.SlSortCmp.Whole1
import Derived.Shelf.Small.Strs
namespace Go.V
open Go
set_option linter.unusedSectionVars false
variable [Mode]

section
variable {P : Program} {ρ : Rho} {H : List SO} {g : Fr} {w : World} {t : List SV} {a : Act} {ops : Array Oper} {Q : Exit → Act → World → Prop}

/-- 'Nxt' with deferred calls kept. -/
def NxtD (dd : List Deferred) (P : Program) (ρ : Rho) (H : List SO) (g : Fr) (K : List SV → List SO → Prop) (a' : Act) (w' : World) : Prop :=
  ∃ ρ' t' H', At P ρ' H' g w' t' a' ∧ a'.defers = dd ∧ (∀ k, k < H.length → ρ' k = ρ k) ∧ H.length ≤ H'.length ∧ K t' H'
theorem Res.nextD {dd : List Deferred} {K : List SV → List SO → Prop} (h : At P ρ H g w t a) (hd : a.defers = dd) {d : Option Nat} {v : Value} {w' : World} (hr : Res ρ H g (fun sv H' => K (put t d sv) H') v w') : NxtD dd P ρ H g K (a.put d v) w' := by
  obtain ⟨ρ', sv, H', rfl, hS, hρ, hl, hb, hk⟩ := hr
  refine ⟨ρ', put t d sv, H', ⟨(h.f.ext hρ h.b).put d sv, belowL_put (belowL_mono hl t h.b) d hb, hS⟩, ?_, hρ, hl, hk⟩
  cases d <;> exact hd
theorem NxtD.here {dd : List Deferred} {K : List SV → List SO → Prop} (h : At P ρ H g w t a) (hd : a.defers = dd) (d : Option Nat) {sv : SV} (hb : below H.length sv = true) (hk : K (put t d sv) H) : NxtD dd P ρ H g K (a.put d (val ρ sv)) w :=
  (Res.here (K := fun sv H' => K (put t d sv) H') h.s hb hk).nextD h hd

end
end Go.V

namespace Go.V
open Go
set_option linter.unusedSectionVars false
variable [Mode]

/-! ### Ranges over a function -/
def Cov (W : World) (g : Fr) : Prop := (W.os = g.os ∧ W.tape = g.tape ∧ W.output = g.out ∧ DrOK g W.drawn) ∧ ∀ b o, g.f b = some o → W.heap[b]? = some o
/-- What lies outside both frames stays. -/
def ExtF (g : Fr) (W : World) (g' : Fr) (W' : World) : Prop := ∀ b o, W.heap[b]? = some o → g.f b = none → W'.heap[b]? = some o ∧ g'.f b = none

section
variable {P : Program} {ρ : Rho} {H : List SO} {g : Fr} {w : World}

/-- Entries that are owned, or nothing. -/
def plainH : List SO → Bool
  | [] => true
  | .gone :: r => plainH r
  | o :: r => o.owned && plainH r
theorem plainH_spec : ∀ {H : List SO}, plainH H = true → ∀ (i : Nat) s, H[i]? = some s → s.owned = true ∨ s = .gone
  | [], _, i, s, h => by simp at h
  | o :: r, hp, i, s, h => by
    have hr : plainH r = true ∧ (o.owned = true ∨ o = .gone) := by
      cases o <;> simp_all [plainH, SO.owned]
    cases i with
    | zero => simp at h; subst h; exact hr.2
    | succ i => exact plainH_spec hr.1 i s (by simpa using h)

theorem no_heap : ∀ {H : List SO}, plainH H = true → ∀ {j : Nat} {gh : Nat → Option Obj}, H[j]? = some (.heap gh) → False := by
  intro H hp j gh hj
  rcases plainH_spec hp j _ hj with h | h
  · cases h
  · cases h
def Fr.at (g : Fr) (l : Nat) (o : Option Obj) : Fr := { g with f := fun b => if b = l then o else g.f b }
def Fr.all (W : World) (no : Nat → Prop) [DecidablePred no] : Fr := ⟨fun b => if no b then none else W.heap[b]?, W.os, W.tape, W.output, Mode.dr W⟩

/-- A block of the frame is turned. -/
theorem St.outside (h : St ρ H g w) (hp : plainH H = true) {l : Nat} {o o' : Obj} (hl : g.f l = some o) : St ρ H (g.at l (some o')) (w.putObj l o') := by
  have hlt : l < w.heap.size := (Array.getElem?_eq_some_iff.1 (h.frm l o hl)).1
  constructor
  · intro k s hk
    refine entryOK_congr (n := H.length) (List.getElem?_eq_some_iff.1 hk).1 (h.ent k s hk) (fun _ _ => rfl) ?_ ?_ ?_
    · rintro l e rfl; exact h.scp k l e hk
    · rintro m s' seen st rfl; exact h.sci k m s' seen st hk
    · intro b ob hng hb hor hgh
      rcases plainH_spec hp k s hk with ho | ho
      · have hne : b ≠ l := by
          rintro rfl
          have := h.frd k s b hk ho (hor (.inl ho))
          rw [this] at hl; cases hl
        rw [World.putObj_heap_other hne]; exact hb
      · exact absurd ho hng
  · exact h.dis
  · exact h.gho
  · exact h.env
  · intro b ob hb
    simp only [Fr.at] at hb
    split at hb
    · rename_i e; subst e; cases hb; exact World.putObj_heap_same hlt
    · rename_i e; rw [World.putObj_heap_other e]; exact h.frm b ob hb
  · intro i si b hi ho hb
    have hn := h.frd i si b hi ho hb
    simp only [Fr.at]
    split
    · rename_i e; subst e; rw [hn] at hl; cases hl
    · exact hn
  · exact h.scp
  · exact h.sci
  · intro j gh b hj; exact (no_heap hp hj).elim
  · intro j i gh b si hj; exact (no_heap hp hj).elim
  · intro j i gh b si hj; exact (no_heap hp hj).elim

/-- How elements are written. -/
structure Elem (P : Program) {α : Type} (tE : TypeId) (n : Option Nat) (sz by' : Nat) (zs : List Value) (sv : α → SV) (cells : α → List Value) : Prop where
  shape : shapeT P tE = some n
  size : sizeT P tE = some sz
  bytes : bytesT P tE = some by'
  zero : zeroCellsT P tE = some zs
  zlen : zs.length = sz
  pos : sz ≠ 0 ∧ by' ≠ 0
  sv_cells : ∀ x, (n = none ∧ ∃ v, sv x = .raw v ∧ cells x = [v]) ∨ (∃ m, n = some m ∧ sv x = .agg ((cells x).map .raw))
  len : ∀ x, (cells x).length = sz
  ok : ∀ x, cellsOK (cells x) = true

theorem oneL_raws : ∀ {l : List Value}, cellsOK l = true → oneL (l.map .raw) = true
  | [], _ => rfl
  | x :: l, h => by
    have h2 : (one (.raw x) = true) ∧ cellsOK l = true := by
      cases x <;> simp_all [cellsOK, one]
    simp [oneL, h2.1, oneL_raws h2.2]
theorem Elem.stored {α : Type} {tE : TypeId} {n : Option Nat} {sz by' : Nat} {zs : List Value} {sv : α → SV} {cells : α → List Value} (h : Elem P tE n sz by' zs sv cells) (x : α) : stored n (sv x) = some ((cells x).map .raw) := by
  have hok := h.ok x
  rcases h.sv_cells x with ⟨rfl, v, e1, e2⟩ | ⟨m, rfl, e1⟩
  · rw [e1, e2]
    have : one (.raw v) = true := by
      rw [e2] at hok
      cases v <;> simp_all [cellsOK, one]
    simp [V.stored, this, nkb]
  · rw [e1]
    have hm : m = sz := by
      have := (shape_some h.shape).2
      rw [h.size] at this; exact (Option.some.inj this).symm
    simp [V.stored, oneL_raws hok, h.len x, hm]
theorem Elem.partCells {α : Type} {tE : TypeId} {n : Option Nat} {sz by' : Nat} {zs : List Value} {sv : α → SV} {cells : α → List Value} (h : Elem P tE n sz by' zs sv cells) (x : α) : partCells (sv x) = some ((cells x).map .raw) := by
  have hok := h.ok x
  rcases h.sv_cells x with ⟨rfl, v, e1, e2⟩ | ⟨m, rfl, e1⟩
  · rw [e1, e2]
    have : one (.raw v) = true := by
      rw [e2] at hok
      cases v <;> simp_all [cellsOK, one]
    simp [V.partCells, this]
  · rw [e1]; simp [V.partCells]
end
end Go.V

namespace Go.V
open Go
set_option linter.unusedSectionVars false
variable [Mode]

section
variable {P : Program} {α : Type} {tS tE : TypeId} {n : Option Nat} {sz by' : Nat} {zs zsl : List Value} {sv : α → SV} {cells : α → List Value}

end
end Go.V

namespace Go.V
open Go
set_option linter.unusedSectionVars false
variable [Mode]

/-- The state of a collecting loop between two rounds, as a frame. -/
structure ApJ {α : Type} (tS tE : TypeId) (sz : Nat) (cells : α → List Value) (g0 : Fr) (Bs D l : Nat) (rec : Loop) (pre : List α) (g : Fr) : Prop where
  env : g.os = g0.os ∧ g.tape = g0.tape ∧ g.out = g0.out ∧ g0.dr = g.dr
  keep : ∀ b o, g0.f b = some o → g.f b = some o
  lrec : g.f l = some (.loop rec)
  dd : g.f D = some (.deferred (some []))
  own : g0.f Bs = none ∧ g0.f l = none ∧ g0.f D = none
  row : ∃ (r : Option Nat) (o c : Nat) (xs : List Value), g.f Bs = some (.cells #[.slice (r.map fun b => ⟨b, o, none⟩) pre.length c] tS (0, 0)) ∧
    (pre.length ≤ c ∧ o + c * sz ≤ xs.length ∧ (xs.drop o).take (pre.length * sz) = pre.flatMap cells) ∧
    ((r = none ∧ xs = []) ∨ ∃ b fr, r = some b ∧ g.f b = some (.cells xs.toArray tE fr) ∧ (fr.1 = fr.2 ∨ xs.length ≤ fr.1) ∧ b ≠ Bs ∧ g0.f b = none)

section
variable {P : Program} {α : Type} {tS tE : TypeId} {n : Option Nat} {sz by' : Nat} {zs zsl : List Value} {sv : α → SV} {cells : α → List Value}

theorem Elem.val (h : Elem P tE n sz by' zs sv cells) (x : α) (ρ ρ' : Rho) : V.val ρ (sv x) = V.val ρ' (sv x) := by
  rcases h.sv_cells x with ⟨_, v, e1, _⟩ | ⟨m, _, e1⟩
  · rw [e1]; rfl
  · rw [e1]; simp [V.val, valL_eq, Function.comp_def]
theorem Elem.below (h : Elem P tE n sz by' zs sv cells) (x : α) (m : Nat) : V.below m (sv x) = true := by
  rcases h.sv_cells x with ⟨_, v, e1, _⟩ | ⟨m, _, e1⟩
  · rw [e1]; rfl
  · rw [e1]; simpa [V.below] using below_raws _ _

end
end Go.V

namespace Go.V
open Go
set_option linter.unusedSectionVars false
variable [Mode]

section
variable {P : Program} {ρ : Rho} {H : List SO} {g : Fr} {w : World}

variable {α : Type} {tS tE : TypeId} {n : Option Nat} {sz by' : Nat} {zs zsl : List Value} {sv : α → SV} {cells : α → List Value}

end
end Go.V

namespace Go.V
open Go
set_option linter.unusedSectionVars false
variable [Mode]

section
variable {P : Program} {ρ : Rho} {H : List SO} {g : Fr} {w : World}

variable {α : Type} {tS tE : TypeId} {n : Option Nat} {sz by' : Nat} {zs zsl : List Value} {sv : α → SV} {cells : α → List Value}

theorem ApJ.turn {g0 gf : Fr} {Bs D l : Nat} {rec : Loop} {xs : List α} (h : ApJ tS tE sz cells g0 Bs D l rec xs gf) (rec' : Loop) : ApJ tS tE sz cells g0 Bs D l rec' xs (gf.at l (some (.loop rec'))) := by
  obtain ⟨r, o, c, ys, hBs, hlen, hrow⟩ := h.row
  have hlB : Bs ≠ l := by
    rintro rfl
    have := h.lrec; rw [hBs] at this; cases this
  have hlD : D ≠ l := by
    rintro rfl
    have := h.lrec; rw [h.dd] at this; cases this
  refine ⟨h.env, ?_, by simp [Fr.at], ?_, h.own, r, o, c, ys, ?_, hlen, ?_⟩
  · intro b ob hb
    simp only [Fr.at]
    rw [if_neg (by rintro rfl; rw [h.own.2.1] at hb; cases hb)]; exact h.keep b ob hb
  · simp only [Fr.at]; rw [if_neg hlD]; exact h.dd
  · simp only [Fr.at]; rw [if_neg hlB]; exact hBs
  · rcases hrow with h1 | ⟨b, fr, e1, e2, e3⟩
    · exact .inl h1
    · refine .inr ⟨b, fr, e1, ?_, e3⟩
      simp only [Fr.at]
      rw [if_neg (by rintro rfl; rw [h.lrec] at e2; cases e2)]; exact e2

end
end Go.V

namespace Go.V
open Go
set_option linter.unusedSectionVars false
variable [Mode]

section
variable {P : Program} {α : Type} {tS tE : TypeId} {n : Option Nat} {sz by' : Nat} {zs zsl : List Value} {sv : α → SV} {cells : α → List Value}

end
end Go.V

namespace Go.V
open Go
set_option linter.unusedSectionVars false
variable [Mode]

section
variable {P : Program} {ρ : Rho} {H : List SO} {g : Fr} {w : World} {t : List SV} {a : Act} {ops : Array Oper} {Q : Exit → Act → World → Prop}

end
end Go.V

namespace Go.V
open Go
set_option linter.unusedSectionVars false
variable [Mode]

section
variable {P : Program} {α : Type} {tE : TypeId} {n : Option Nat} {sz by' : Nat} {zs : List Value} {sv : α → SV} {cells : α → List Value}

/-- A round keeps what the iterator owns. -/
theorem St.round {ρ : Rho} {H : List SO} {g g' : Fr} {W W' : World} (h : St ρ H g W) (hp : plainH H = true) (hc : Cov W' g') (he : ExtF g W g' W') : St ρ H g' W' := by
  have ow : ∀ (i : Nat) si b, H[i]? = some si → si.owned = true → ρ i = some b → ∀ o, W.heap[b]? = some o → W'.heap[b]? = some o ∧ g'.f b = none :=
    fun i si b hi ho hb o hw => he b o hw (h.frd i si b hi ho hb)
  constructor
  · intro k s hk
    rcases plainH_spec hp k s hk with h1 | h1
    · refine entryOK_congr (n := H.length) (List.getElem?_eq_some_iff.1 hk).1 (h.ent k s hk) (fun _ _ => rfl) ?_ ?_ ?_
      · rintro l e rfl; exact h.scp k l e hk
      · rintro m s' seen st rfl; exact h.sci k m s' seen st hk
      · intro b o _ hb hor _
        exact (ow k s b hk h1 (hor (.inl h1)) o hb).1
    · subst h1; trivial
  · exact h.dis
  · exact h.gho
  · exact hc.1
  · exact hc.2
  · intro i si b hi ho hb
    have hlt := entryOK_lt (h.ent i si hi) (.inl ho) hb
    exact (ow i si b hi ho hb _ (Array.getElem?_eq_getElem hlt)).2
  · exact h.scp
  · exact h.sci
  · intro j gh b hj; exact (no_heap hp hj).elim
  · intro j i gh b si hj; exact (no_heap hp hj).elim
  · intro j i gh b si hj; exact (no_heap hp hj).elim

end
end Go.V

namespace Go.V
open Go
set_option linter.unusedSectionVars false
variable [Mode]

omit [Mode] in
theorem born_inj {es : List MapEntry} (hnd : (es.map (·.born)).Nodup) : ∀ {x y : MapEntry}, x ∈ es → y ∈ es → x.born = y.born → x = y := by
  induction es with
  | nil => intro x y hx; simp at hx
  | cons z es ih =>
    simp only [List.map_cons, List.nodup_cons] at hnd
    intro x y hx hy hxy
    rcases List.mem_cons.1 hx with h1 | h1 <;> rcases List.mem_cons.1 hy with h2 | h2
    · rw [h1, h2]
    · exact absurd (List.mem_map.2 ⟨y, h2, by rw [← hxy, h1]⟩) hnd.1
    · exact absurd (List.mem_map.2 ⟨x, h1, by rw [hxy, h2]⟩) hnd.1
    · exact ih hnd.2 h1 h2 hxy
omit [Mode] in
theorem nodup_len {A : Type} [DecidableEq A] : ∀ {l m : List A}, l.Nodup → l ⊆ m → l.length ≤ m.length
  | [], _, _, _ => by simp
  | x :: l, m, hn, hs => by
    have hx : x ∈ m := hs (by simp)
    simp only [List.nodup_cons] at hn
    have h1 : l ⊆ m.erase x := by
      intro y hy
      have : y ≠ x := by rintro rfl; exact hn.1 hy
      exact (List.mem_erase_of_ne this).2 (hs (by simp [hy]))
    have h2 := nodup_len hn.2 h1
    have h3 := List.length_pos_of_mem hx
    rw [List.length_erase_of_mem hx] at h2
    simp only [List.length_cons]; omega
omit [Mode] in
theorem nodup_of_map {A B : Type} (f : A → B) : ∀ {l : List A}, (l.map f).Nodup → l.Nodup
  | [], _ => List.nodup_nil
  | x :: l, h => by
    simp only [List.map_cons, List.nodup_cons] at h
    exact List.nodup_cons.2 ⟨fun hx => h.1 (List.mem_map.2 ⟨x, hx, rfl⟩), nodup_of_map f h.2⟩
omit [Mode] in
theorem find_born {es : List MapEntry} (hnd : (es.map (·.born)).Nodup) {e : MapEntry} (he : e ∈ es) : es.find? (·.born == e.born) = some e := by
  cases hf : es.find? (·.born == e.born) with
  | none =>
    have := List.find?_eq_none.1 hf e he
    simp at this
  | some x =>
    have h1 := List.find?_some hf
    have h2 := List.mem_of_find?_eq_some hf
    rw [born_inj hnd h2 he (by simpa using h1)]
section
variable {P : Program} {α : Type} {tE : TypeId} {n : Option Nat} {sz by' : Nat} {zs : List Value} {sv : α → SV} {cells : α → List Value}

theorem St.names {ρ ρ' : Rho} {H : List SO} {g : Fr} {w : World} (h : St ρ H g w) (hr : ∀ k, k < H.length → ρ' k = ρ k) : St ρ' H g w := by
  have hlt : ∀ {i : Nat} {s : SO}, H[i]? = some s → i < H.length := fun hi => (List.getElem?_eq_some_iff.1 hi).1
  constructor
  · intro k s hk
    refine entryOK_congr (hlt hk) (h.ent k s hk) hr ?_ ?_ (fun b o _ hb _ _ => hb)
    · rintro l e rfl; exact h.scp k l e hk
    · rintro m s' seen st rfl; exact h.sci k m s' seen st hk
  · intro i j si sj b hij hi hj ho hoj hb
    rw [hr i (hlt hi)] at hb; rw [hr j (hlt hj)]
    exact h.dis i j si sj b hij hi hj ho hoj hb
  · intro i j si gh b hi ho hj hb
    rw [hr i (hlt hi)] at hb
    exact h.gho i j si gh b hi ho hj hb
  · exact h.env
  · exact h.frm
  · intro i si b hi ho hb
    rw [hr i (hlt hi)] at hb
    exact h.frd i si b hi ho hb
  · exact h.scp
  · exact h.sci
  · exact h.hpf
  · intro j i gh b si hj hb hi ho
    rw [hr i (hlt hi)]; exact h.hpo j i gh b si hj hb hi ho
  · exact h.hpc

end
end Go.V

namespace Go.V
open Go Go.Proofs
set_option linter.unusedSectionVars false
variable [Mode]

/-! ### slices.SortFunc, by the library's law -/
section
variable {P : Program} {α : Type} {ρ : Rho} {H : List SO} {g : Fr} {w w' : World}

theorem St.grow (h : St ρ H g w) {os : Array Obj} (hwe : HeapIs w w' (w.heap ++ os)) : St ρ H g w' := by
  have hw := hwe.1
  have hold : ∀ (b : Nat) (o' : Obj), w.heap[b]? = some o' → w'.heap[b]? = some o' := by
    intro b o' hb
    have hlt := (Array.getElem?_eq_some_iff.1 hb).1
    rw [hw, Array.getElem?_append_left hlt]; exact hb
  constructor
  · intro k s hk
    refine entryOK_congr (List.getElem?_eq_some_iff.1 hk).1 (h.ent k s hk) (fun _ _ => rfl) ?_ ?_ (fun b o' _ hb _ _ => hold b o' hb)
    · rintro l e rfl; exact h.scp k l e hk
    · rintro m s' seen st rfl; exact h.sci k m s' seen st hk
  · exact h.dis
  · exact h.gho
  · exact hwe.env h
  · intro b o hb; exact hold b o (h.frm b o hb)
  · exact h.frd
  · exact h.scp
  · exact h.sci
  · exact h.hpf
  · exact h.hpo
  · exact h.hpc

theorem St.empty (ρ : Rho) (W : World) : St ρ [] ⟨fun b => W.heap[b]?, W.os, W.tape, W.output, Mode.dr W⟩ W := by
  constructor
  · intro k so hk; simp at hk
  · intro i j si sj b _ hi; simp at hi
  · intro i j si h b hi; simp at hi
  · exact ⟨rfl, rfl, rfl, Mode.dr_le W, Mode.dr_lax W⟩
  · intro b o h; exact h
  · intro i si b hi; simp at hi
  · intro k l e hk; simp at hk
  · intro k m s seen st hk; simp at hk
  · intro j gh b hj; simp at hj
  · intro j i gh b si hj; simp at hj
  · intro j i gh b si hj; simp at hj

/-- What a contract without blocks leaves of the world. -/
theorem ctr_grows {f : FuncId} {args : List SV} {Post : SV → List SO → Prop} (h : @Ctr strictM P f args [] Post) (W : World) (ha : belowL 0 args = true) {vs : Array Value}
    (hv : (valL (fun _ => none) args).toArray = vs) {r : Value} (hp : ∀ v H ρ', Post v H → val ρ' v = r) :
    Calls P f vs W fun e w' => e = .returned r ∧ ∃ q os', w' = Sort.grow (W.drewN q) os' := by
  subst hv
  refine Calls.mono (h (fun _ => none) _ W (@St.empty strictM _ W) ha) ?_
  rintro e w' ⟨ρ', v, H', rfl, hS, -, -, -, hP⟩
  refine ⟨by rw [hp v H' ρ' hP], w'.drawn - W.drawn, w'.heap.extract W.heap.size, ?_⟩
  obtain ⟨h1, h2, h3, h4⟩ := @St.env strictM _ _ _ _ hS
  have hle : W.heap.size ≤ w'.heap.size := by
    rcases Nat.eq_zero_or_pos W.heap.size with h | h
    · omega
    · have := @St.frm strictM _ _ _ _ hS (W.heap.size - 1) _ (Array.getElem?_eq_getElem (xs := W.heap) (by omega))
      have := (Array.getElem?_eq_some_iff.1 this).1
      omega
  have hh : w'.heap = W.heap ++ w'.heap.extract W.heap.size := by
    apply Array.ext_getElem?
    intro i
    by_cases hi : i < W.heap.size
    · rw [Array.getElem?_append_left hi]
      rw [@St.frm strictM _ _ _ _ hS i _ (Array.getElem?_eq_getElem hi)]; simp [hi]
    · rw [Array.getElem?_append_right (by omega), Array.getElem?_extract]
      by_cases hj : i < w'.heap.size
      · rw [if_pos (by omega)]; congr 1; omega
      · rw [if_neg (by omega)]; simp; omega
  have hd : w'.drawn = W.drawn + (w'.drawn - W.drawn) := by have h5 : W.drawn ≤ w'.drawn := h4.1; omega
  cases w'
  simp only at h1 h2 h3 hh hd
  simp only [Sort.grow, World.drewN, World.mk.injEq]
  exact ⟨hh, h2, hd, h1, h3⟩

omit [Mode] in
theorem val_raws (ρ : Rho) : ∀ l : List Value, valL ρ (l.map .raw) = l
  | [] => rfl
  | v :: l => by simp [valL, V.val, val_raws ρ l]

omit [Mode] in
theorem flatMap_get [Inhabited α] {f : α → List Value} {k : Nat} (hk : ∀ x, (f x).length = k) : ∀ (l : List α) (t : Nat), t < l.length * k → (l.flatMap f)[t]? = (f l[t / k]!)[t % k]?
  | [], t, h => by simp at h
  | x :: l, t, h => by
    rw [List.flatMap_cons]
    have k0 : 0 < k := by rcases Nat.eq_zero_or_pos k with h0 | h0; · subst h0; simp at h
                          · exact h0
    by_cases h1 : t < k
    · rw [List.getElem?_append_left (by rw [hk]; exact h1), Nat.div_eq_of_lt h1, Nat.mod_eq_of_lt h1]; rfl
    · rw [List.getElem?_append_right (by rw [hk]; omega), hk]
      have h2 : t - k < l.length * k := by rw [List.length_cons, Nat.add_mul] at h; omega
      rw [flatMap_get hk l (t - k) h2]
      have e1 : t / k = (t - k) / k + 1 := by rw [← Nat.sub_add_cancel (Nat.le_of_not_lt h1), Nat.add_div_right _ k0]; simp
      have e2 : t % k = (t - k) % k := by rw [Nat.mod_eq_sub_mod (by omega)]
      rw [e1, e2]; simp
omit [Mode] in
theorem flatK_flatMap [Inhabited α] {f : α → List Value} {k : Nat} (hk : ∀ x, (f x).length = k) (l : List α) : Sort.flatK f k l.toArray = (l.flatMap f).toArray := by
  have hlen : ∀ l : List α, (l.flatMap f).length = l.length * k := by
    intro l; induction l with
    | nil => simp
    | cons x l ih => simp [ih, hk, Nat.add_mul]; omega
  apply Array.ext_getElem?
  intro t
  by_cases h : t < l.length * k
  · rw [show (l.flatMap f).toArray[t]? = (l.flatMap f)[t]? from by simp, flatMap_get hk l t h]
    have k0 : 0 < k := by rcases Nat.eq_zero_or_pos k with h0 | h0; · subst h0; simp at h
                          · exact h0
    have := Sort.get_flatK f k l.toArray t (by simpa using h)
    have hs : t < (Sort.flatK f k l.toArray).size := by simpa using h
    rw [getElem!_pos _ t hs] at this
    rw [Array.getElem?_eq_getElem hs, this]
    have hm : t % k < (f l[t / k]!).length := by rw [hk]; exact Nat.mod_lt _ k0
    rw [List.getElem?_eq_getElem hm, getElem!_pos (f l.toArray[t / k]!) _ (by simpa using hm)]
    simp
  · rw [Array.getElem?_eq_none (by simp; omega), Array.getElem?_eq_none (by simp [hlen]; omega)]

omit [Mode] in
theorem flatMap_len {f : α → List Value} {k : Nat} (hk : ∀ x, (f x).length = k) (l : List α) : (l.flatMap f).length = l.length * k := by
  induction l with
  | nil => simp
  | cons x l ih => simp [ih, hk, Nat.add_mul]; omega

/-- The row with ys at o. -/
def rowSet (xs : List Value) (o : Nat) (ys : List Value) : List Value := xs.take o ++ ys ++ xs.drop (o + ys.length)
omit [Mode] in
theorem rowSet_len {xs : List Value} {o : Nat} {ys : List Value} (h : o + ys.length ≤ xs.length) : (rowSet xs o ys).length = xs.length := by
  simp [rowSet]; omega
omit [Mode] in
theorem rowSet_cut {xs : List Value} {o : Nat} {ys : List Value} (h : o + ys.length ≤ xs.length) : ((rowSet xs o ys).drop o).take ys.length = ys := by
  have h1 : (xs.take o).length = o := by simp; omega
  rw [rowSet, List.append_assoc, List.drop_append_of_le_length (by omega), List.drop_eq_nil_of_le (by omega), List.nil_append, List.take_append_of_le_length (by omega), List.take_of_length_le (by omega)]
omit [Mode] in
theorem putCells_rowSet {xs : List Value} {o : Nat} {ys : List Value} (h : o + ys.length ≤ xs.length) : Sort.putCells id o ys.toArray xs.toArray = (rowSet xs o ys).toArray := by
  have h1 : (xs.take o).length = o := by simp; omega
  apply Array.ext_getElem?
  intro t
  simp only [Sort.putCells, Array.getElem?_mapIdx, List.size_toArray, id]
  rw [show (rowSet xs o ys).toArray[t]? = (rowSet xs o ys)[t]? from by simp, show xs.toArray[t]? = xs[t]? from by simp, rowSet, List.append_assoc]
  by_cases h2 : t < o
  · rw [List.getElem?_append_left (by omega), List.getElem?_take_of_lt h2, List.getElem?_eq_getElem (by omega)]
    simp [show ¬ (o ≤ t) by omega]
  · rw [List.getElem?_append_right (by omega), h1]
    by_cases h3 : t < o + ys.length
    · rw [List.getElem?_append_left (by omega), List.getElem?_eq_getElem (by omega), List.getElem?_eq_getElem (by omega)]
      have : t - o < ys.toArray.size := by simp; omega
      simp [show o ≤ t ∧ t < o + ys.length by omega, getElem!_pos ys.toArray (t - o) this]
    · rw [List.getElem?_append_right (by omega), List.getElem?_drop, show o + ys.length + (t - o - ys.length) = t by omega]
      by_cases h4 : t < xs.length
      · rw [List.getElem?_eq_getElem h4]; simp [show ¬ (t < o + ys.length) by omega]
      · rw [List.getElem?_eq_none (by omega)]; rfl

omit [Mode] in
theorem cellsOK_one : ∀ {l : List Value}, cellsOK l = true → ∀ v ∈ l, v.oneCell' = true
  | [], _, v, hv => by simp at hv
  | x :: l, h, v, hv => by
    have h2 : cellsOK l = true ∧ x.oneCell' = true := by
      cases x <;> simp_all [cellsOK, Value.oneCell']
    rcases List.mem_cons.1 hv with rfl | hv
    · exact h2.2
    · exact cellsOK_one h2.1 v hv

omit [Mode] in
theorem array_extract_all (d : Array α) : d.extract 0 d.size = d := by simp

/-- slices.SortFunc at elements of k cells: a permutation, sorted. -/
theorem sortK_ctr [Inhabited α] {r : Shelf.Ren} (L : SlLaysF0.n6 P r) {k : Nat} (aE : ∀ w, (isAgg (r.t 24)).run P w = .ok true w) (zE : ∀ w, (Go.sizeOf (r.t 24)).run P w = .ok k w) {cells : α → List Value} (hk : ∀ x, (cells x).length = k) (k0 : 0 < k)
    (h1 : ∀ x, cellsOK (cells x) = true) (cf : α → α → Int) (hO : Sort.SWO (ltOf cf)) {gq : FuncId} (he : enters P gq = true)
    (hcmp : ∀ x y, @Ctr strictM P gq [.agg ((cells x).map .raw), .agg ((cells y).map .raw)] [] (fun v _ => v = .raw (.int .i64 (cf x y))))
    {H : List SO} {j off cap : Nat} {xs : List Value} {e : TypeId} (hj : H[j]? = some (.arr xs e)) (d : List α) (hd : (xs.drop off).take (d.length * k) = d.flatMap cells) (hlen : off + d.length * k ≤ xs.length) (hsz : d.length < 4611686018427387904) :
    Ctr P (r.f 6) [.sl j off d.length cap, .fn gq []] H (fun v H' => v = .tup [] ∧ ∃ d' : List α, d'.Perm d ∧ d'.Pairwise (fun a b => ltOf cf b a = false) ∧ H' = H.set j (.arr (rowSet xs off (d'.flatMap cells)) e)) := by
  intro ρ g w hS hb
  have hjl := (List.getElem?_eq_some_iff.1 hj).1
  have hent := hS.ent j _ hj
  have hfl := flatMap_len hk d
  simp only [valL, V.val]
  rcases hent with ⟨hn, hx⟩ | ⟨b, fr, hρ, hwb, hfr⟩
  · subst hx
    have hd0 : d = [] := by
      cases d with
      | nil => rfl
      | cons x d =>
        have := Nat.mul_pos (show 0 < (x :: d).length by simp) k0
        simp only [List.length_nil] at hlen; omega
    subst hd0
    refine Calls.mono (AnyF.slices_SortFunc_none L _ _ _ w) ?_
    rintro e' w' ⟨rfl, rfl⟩
    refine ⟨ρ, .tup [], H, rfl, hS, fun _ _ => rfl, Nat.le_refl _, rfl, rfl, [], List.Perm.refl _, List.Pairwise.nil, ?_⟩
    have : rowSet [] off (List.flatMap cells []) = [] := by simp [rowSet]
    rw [this]
    apply List.ext_getElem?
    intro i
    by_cases hij : j = i
    · subst hij; rw [List.getElem?_set_self hjl, hj]
    · simp [hij]
  · have hHold : Sort.HoldsK cells k w b off d.toArray := by
      unfold Sort.HoldsK
      rw [flatK_flatMap hk]
      intro i hi
      have hi : i < d.length * k := by simpa [hfl] using hi
      have hg : xs[off + i]? = some ((d.flatMap cells).toArray[i]!) := by
        have hi2 : i < (d.flatMap cells).length := by omega
        have h3 : ((xs.drop off).take (d.length * k))[i]? = (d.flatMap cells)[i]? := by rw [hd]
        rw [List.getElem?_take_of_lt hi, List.getElem?_drop, List.getElem?_eq_getElem hi2] at h3
        rw [h3, getElem!_pos _ _ (by simpa using hi2)]; simp
      constructor
      · rw [cell_of hwb]; simpa using hg
      · have := (List.getElem?_eq_some_iff.1 hg).1
        simp only [World.frozen?, hwb]
        rcases hfr with h5 | h5
        · simp; omega
        · simp; omega
    have hblk : b < w.heap.size := (Array.getElem?_eq_some_iff.1 hwb).1
    rw [show (ρ j).map (fun b => (⟨b, off, none⟩ : Addr)) = some ⟨b, off, none⟩ by rw [hρ]; rfl]
    refine Calls.mono (AnyQ.slices_SortFunc L k aE zE cells hk (fun x => cellsOK_one (h1 x)) cf hO gq #[] b off cap d.toArray w (fun args w => run_enters he args) ?_ hHold hblk (by simpa using hsz)) ?_
    · intro m os dk _ x y
      exact ctr_grows (hcmp x y) _ (by simp [belowL, below, below_raws]) (by simp [valL, V.val, val_raws]) (r := .int .i64 (cf x y)) (by rintro v H ρ' rfl; rfl)
    · rintro e' w' ⟨rfl, d', n, os, hp, hso, rfl⟩
      obtain ⟨hp1, hp2, hp3⟩ := hp
      have hds : d'.size = d.length := by simpa using hp1
      have hperm : d'.toList.Perm d := by
        have e1 : d'.extract 0 d.toArray.size = d' := by rw [List.size_toArray, ← hds]; exact array_extract_all d'
        have e2 : d.toArray.extract 0 d.toArray.size = d.toArray := array_extract_all _
        rw [e1, e2] at hp3
        simpa using hp3
      have hfl' : (d'.toList.flatMap cells).length = d.length * k := by rw [flatMap_len hk, Array.length_toList, hds]
      refine ⟨ρ, .tup [], H.set j (.arr (rowSet xs off (d'.toList.flatMap cells)) e), rfl, ?_, fun _ _ => rfl, by simp, rfl, rfl, d'.toList, hperm, ?_, rfl⟩
      · have hw1 : HeapIs w (Sort.putRowK cells k (Sort.ahead w n) b off d') (w.heap.setIfInBounds b (.cells (rowSet xs off (d'.toList.flatMap cells)).toArray e fr)) := by
          refine ⟨?_, rfl, rfl, rfl, Nat.le_add_right _ _⟩
          show (Sort.putRow id (Sort.ahead w n) b off (Sort.flatK cells k d')).heap = _
          rw [show d' = d'.toList.toArray by simp, flatK_flatMap hk]
          simp only [Sort.putRow, Sort.mapBlock, Sort.ahead]
          apply Array.ext_getElem?
          intro i
          by_cases hi : b = i
          · subst hi
            rw [Array.getElem?_modify, if_pos rfl, hwb]
            simp only [Option.map_some, Sort.onCells, Array.getElem?_setIfInBounds, if_pos hblk]
            rw [putCells_rowSet (by omega)]; simp
          · rw [Array.getElem?_modify, if_neg hi, Array.getElem?_setIfInBounds_ne hi]
        have hS1 := hS.set (so' := .arr (rowSet xs off (d'.toList.flatMap cells)) e) hj rfl rfl hρ hw1
          (.inr ⟨b, fr, hρ, by rw [hw1.1]; simp [hblk], by rw [rowSet_len (by omega)]; exact hfr⟩) (by simp) (by simp)
        exact hS1.grow (os := os) ⟨rfl, rfl, rfl, rfl, Nat.le_refl _⟩
      · rw [List.pairwise_iff_getElem]
        intro i i' hi hi' hlt
        have := hso i i' (Nat.zero_le _) hlt (by simp at hi'; simpa [← hds] using hi')
        simp only [Array.length_toList] at hi hi'
        rw [getElem!_pos d' _ hi', getElem!_pos d' _ hi] at this
        simpa using this
omit [Mode] in
theorem cut_take {α : Type} : ∀ (l : List α) (o n : Nat), o + n ≤ l.length → cut l o n = some ((l.drop o).take n)
  | l, o, 0, _ => by cases l <;> cases o <;> simp [cut]
  | [], o, n + 1, h => by simp at h
  | x :: l, o + 1, n + 1, h => by
    rw [cut, cut_take l o (n + 1) (by simp at h; omega)]; simp
  | x :: l, 0, n + 1, h => by
    rw [cut, cut_take l 0 n (by simp at h; omega)]; simp
end
end Go.V

namespace Go.V
open Go Go.RowKit
set_option linter.unusedSectionVars false
variable [Mode]

/-! ### From a contract to the row's end -/
section
variable {P : Program}
end
end Go.V

namespace Go.V
open Go Go.RowKit Go.ChangeShapes Go.WideShapes

/-! ### Arguments that come in -/
section
variable {P : Program} {H : Type} {enc : TypeId × Value → H} {W : World}

end
end Go.V

namespace Go.V
open Go Go.Proofs
set_option linter.unusedSectionVars false
variable [Mode]
/-! ### maps.Clone, by the library's law -/
end Go.V

namespace Go.V
open Go
/-! ### Going through a map: which entries were met -/
section
variable {K V : Type} {enc : K → Value} {encv : V → Value}
theorem born_ents (ms : List (K × V × Nat)) : (ents enc encv ms).map (·.born) = ms.map (·.2.2) := by
  simp only [ents, List.map_map]; rfl
theorem trip_inj {ms : List (K × V × Nat)} (hnd : (ms.map (·.2.2)).Nodup) {x y : K × V × Nat} (hx : x ∈ ms) (hy : y ∈ ms) (h : x.2.2 = y.2.2) : x = y := by
  induction ms with
  | nil => simp at hx
  | cons z ms ih =>
    simp only [List.map_cons, List.nodup_cons] at hnd
    rcases List.mem_cons.1 hx with h1 | h1 <;> rcases List.mem_cons.1 hy with h2 | h2
    · rw [h1, h2]
    · exact absurd (List.mem_map.2 ⟨y, h2, by rw [← h, h1]⟩) hnd.1
    · exact absurd (List.mem_map.2 ⟨x, h1, by rw [h, h2]⟩) hnd.1
    · exact ih hnd.2 h1 h2
theorem find_ents {ms : List (K × V × Nat)} (hnd : (ms.map (·.2.2)).Nodup) {x : K × V × Nat} (hx : x ∈ ms) : (ents enc encv ms).find? (·.born == x.2.2) = some (ent enc encv x) :=
  find_born (e := ent enc encv x) (by rw [born_ents]; exact hnd) (List.mem_map.2 ⟨x, hx, rfl⟩)
/-- Those met: each once, all of the map. -/
structure Been (ms : List (K × V × Nat)) (pre : List (K × V × Nat)) (seen : List Nat) : Prop where
  eq : seen = pre.map (·.2.2)
  nd : seen.Nodup
  sub : ∀ x, x ∈ pre → x ∈ ms
theorem Been.nil (ms : List (K × V × Nat)) : Been ms [] [] := ⟨rfl, List.nodup_nil, by simp⟩
theorem Been.more {ms pre : List (K × V × Nat)} {seen : List Nat} (h : Been ms pre seen) {x : K × V × Nat} (hx : x ∈ ms) (hn : x.2.2 ∉ seen) : Been ms (pre ++ [x]) (seen ++ [x.2.2]) where
  eq := by rw [h.eq]; simp
  nd := by
    rw [List.nodup_append]
    refine ⟨h.nd, by simp, fun a ha b hb => ?_⟩
    simp at hb; subst hb
    rintro rfl; exact hn ha
  sub := fun y hy => by
    rcases List.mem_append.1 hy with h1 | h1
    · exact h.sub y h1
    · simp at h1; exact h1 ▸ hx
theorem Been.len [DecidableEq K] [DecidableEq V] {ms pre : List (K × V × Nat)} {seen : List Nat} (h : Been ms pre seen) {x : K × V × Nat} (hx : x ∈ ms) (hn : x.2.2 ∉ seen) : ms.length - (pre ++ [x]).length < ms.length - pre.length := by
  have hnp : (pre ++ [x]).Nodup := by
    have := (h.more hx hn).nd
    rw [(h.more hx hn).eq] at this
    exact nodup_of_map _ this
  have := nodup_len hnp (fun y hy => (h.more hx hn).sub y hy)
  simp only [List.length_append, List.length_cons, List.length_nil] at this ⊢; omega
theorem Been.all {ms pre : List (K × V × Nat)} {seen : List Nat} (h : Been ms pre seen) (hnd : (ms.map (·.2.2)).Nodup) {x : K × V × Nat} (hx : x ∈ ms) (hs : x.2.2 ∈ seen) : x ∈ pre := by
  rw [h.eq] at hs
  obtain ⟨y, hy, hyx⟩ := List.mem_map.1 hs
  rw [trip_inj hnd hx (h.sub y hy) hyx.symm]; exact hy
theorem last_snoc (l : List Nat) (n : Nat) : (l ++ [n]).getLast? = some n := by simp
end
end Go.V

namespace Go.V
open Go
/-! ### Bytes, and numbers in bytes -/
theorem w8 (u : Nat) : IntKind.u8.wrap (u : Int) = ((u % 256 : Nat) : Int) := by
  simp [IntKind.wrap, IntKind.bits, IntKind.signed]
theorem or8 (u : Nat) : intBits .or .u8 ((u % 256 : Nat) : Int) 128 = ((u % 128 + 128 : Nat) : Int) := by
  have h : ∀ k, k < 256 → intBits .or .u8 ((k : Nat) : Int) 128 = ((k % 128 + 128 : Nat) : Int) := by decide +kernel
  rw [h (u % 256) (by omega)]; congr 1; omega
theorem sh7 (u : Nat) : (u : Int).fdiv (2 ^ (min (7 : Int).toNat IntKind.u64.bits)) = ((u / 128 : Nat) : Int) := by
  have : (2 : Int) ^ (min (7 : Int).toNat IntKind.u64.bits) = ((128 : Nat) : Int) := by decide
  rw [this, Int.fdiv_eq_ediv_of_nonneg _ (by omega)]; rfl
theorem w64u {n : Int} (h : 0 ≤ n ∧ n < 18446744073709551616) : IntKind.u64.wrap n = n := by
  simp [IntKind.wrap, IntKind.bits, IntKind.signed]; omega
theorem shl1 {v : Int} (h : 0 ≤ v ∧ v < 4611686018427387904) : IntKind.u64.wrap (v * 2 ^ (min (1 : Int).toNat IntKind.u64.bits)) = ((2 * v.toNat : Nat) : Int) := by
  have : (2 : Int) ^ (min (1 : Int).toNat IntKind.u64.bits) = 2 := by decide
  rw [this, w64u (by omega)]; omega
theorem shr63 {v : Int} (h : 0 ≤ v ∧ v < 4611686018427387904) : v.fdiv (2 ^ (min (63 : Int).toNat IntKind.i64.bits)) = 0 := by
  have : (2 : Int) ^ (min (63 : Int).toNat IntKind.i64.bits) = 9223372036854775808 := by decide
  rw [this, Int.fdiv_eq_ediv_of_nonneg _ (by omega)]; omega
theorem xor0 {u : Nat} (h : u < 18446744073709551616) : intBits .xor .u64 (u : Int) 0 = (u : Int) := by
  show IntKind.u64.wrap (((BitVec.ofInt 64 (u : Int) ^^^ BitVec.ofInt 64 0).toNat : Nat) : Int) = u
  have e : (BitVec.ofInt 64 (u : Int) ^^^ BitVec.ofInt 64 0) = BitVec.ofNat 64 u := by simp
  rw [e, BitVec.toNat_ofNat, w64u (by omega)]; omega

/-- A number's bytes. -/
def numB (u : Nat) : List Int := if u < 128 then [(u : Int)] else ((u % 128 + 128 : Nat) : Int) :: numB (u / 128)
theorem numB_lt {u : Nat} (h : u < 128) : numB u = [(u : Int)] := by rw [numB, if_pos h]
theorem numB_ge {u : Nat} (h : ¬ u < 128) : numB u = ((u % 128 + 128 : Nat) : Int) :: numB (u / 128) := by rw [numB, if_neg h]
theorem numB_len : ∀ (k u : Nat), u < 128 ^ (k + 1) → (numB u).length ≤ k + 1
  | 0, u, h => by rw [numB_lt (by simpa using h)]; simp
  | k + 1, u, h => by
    by_cases h1 : u < 128
    · rw [numB_lt h1]; simp
    · rw [numB_ge h1, List.length_cons]
      have : u / 128 < 128 ^ (k + 1) := by rw [Nat.div_lt_iff_lt_mul (by omega)]; rw [Nat.pow_succ] at h; omega
      have := numB_len k (u / 128) this
      omega
theorem numB_len10 {u : Nat} (h : u < 18446744073709551616) : (numB u).length ≤ 10 := numB_len 9 u (by omega)

/-- A row of bytes in cells. -/
def Brow (xs : List Value) (o c : Nat) (l : List Int) : Prop := l.length ≤ c ∧ o + c ≤ xs.length ∧ (xs.drop o).take l.length = l.map (Value.int .u8)
theorem Brow.take1 {xs : List Value} {o c : Nat} {l : List Int} (h : Brow xs o c l) : (xs.drop o).take (l.length * 1) = l.map (Value.int .u8) := by rw [Nat.mul_one]; exact h.2.2
theorem cellsOK_ints {k : IntKind} : ∀ (l : List Int), cellsOK (l.map (Value.int k)) = true
  | [] => rfl
  | x :: l => by simp [cellsOK, cellsOK_ints l]
end Go.V
namespace Go.V
open Go
end Go.V

namespace Go.V
open Go
/-! ### Numbers out of bytes -/
end Go.V

namespace Go.V
open Go
/-! ### Rows of elements of k cells -/
section
variable {α : Type} {cl : α → List Value} {k : Nat}
def RowG (cl : α → List Value) (k : Nat) (xs : List Value) (o c : Nat) (d : List α) : Prop := d.length ≤ c ∧ o + c * k ≤ xs.length ∧ (xs.drop o).take (d.length * k) = d.flatMap cl
theorem RowG.at {xs : List Value} {o c : Nat} {d : List α} (h : RowG cl k xs o c d) (hk : ∀ x, (cl x).length = k) {i j : Nat} (hi : i < d.length) (hj : j < k) : xs[o + i * k + j]? = (cl d[i])[j]? := by
  haveI : Inhabited α := ⟨d[i]⟩
  obtain ⟨h1, h2, h3⟩ := h
  have hlt : i * k + j < d.length * k := by
    have : (i + 1) * k ≤ d.length * k := Nat.mul_le_mul_right _ hi
    rw [Nat.add_mul, Nat.one_mul] at this; omega
  have h4 : (d.flatMap cl)[i * k + j]? = (cl d[i])[j]? := by
    have := flatMap_get hk d (i * k + j) hlt
    rw [this]
    have e1 : (i * k + j) / k = i := by
      rw [Nat.mul_comm, Nat.mul_add_div (by omega), Nat.div_eq_of_lt hj]; omega
    have e2 : (i * k + j) % k = j := by
      rw [Nat.mul_comm, Nat.mul_add_mod, Nat.mod_eq_of_lt hj]
    rw [e1, e2, getElem!_pos d i hi]
  rw [← h4, ← h3, List.getElem?_take_of_lt hlt, List.getElem?_drop, Nat.add_assoc]
theorem RowG.cut {xs : List Value} {o c : Nat} {d : List α} (h : RowG cl k xs o c d) (hk : ∀ x, (cl x).length = k) {i : Nat} (hi : i < d.length) : V.cut xs (o + i * k) k = some (cl d[i]) := by
  have hle : o + i * k + k ≤ xs.length := by
    have : (i + 1) * k ≤ d.length * k := Nat.mul_le_mul_right _ hi
    have h5 : d.length * k ≤ c * k := Nat.mul_le_mul_right _ h.1
    rw [Nat.add_mul, Nat.one_mul] at this
    have := h.2.1; omega
  rw [cut_take xs _ k hle]
  congr 1
  apply List.ext_getElem?
  intro j
  by_cases hj : j < k
  · rw [List.getElem?_take_of_lt hj, List.getElem?_drop, h.at hk hi hj]
  · rw [List.getElem?_eq_none (by simp; omega), List.getElem?_eq_none (by rw [hk]; omega)]
theorem paste_some {β : Type} : ∀ (l : List β) (o : Nat) (ys : List β), o + ys.length ≤ l.length → ∃ l', paste l o ys = some l'
  | l, 0, [], _ => ⟨l, by simp [paste]⟩
  | [], 0, y :: ys, h => by simp at h
  | x :: l, 0, y :: ys, h => by
    obtain ⟨l', h1⟩ := paste_some l 0 ys (by simp at h ⊢; omega)
    exact ⟨_, by rw [paste, h1]⟩
  | [], o + 1, ys, h => by simp at h
  | x :: l, o + 1, ys, h => by
    obtain ⟨l', h1⟩ := paste_some l o ys (by simp at h ⊢; omega)
    exact ⟨_, by rw [paste, h1]⟩
/-- An element is written. -/
theorem RowG.set {xs : List Value} {o c : Nat} {d : List α} (h : RowG cl k xs o c d) (hk : ∀ x, (cl x).length = k) (hk0 : 0 < k) {i : Nat} (hi : i < d.length) (x : α) : ∃ xs', paste xs (o + i * k) (cl x) = some xs' ∧ RowG cl k xs' o c (d.set i x) ∧ xs'.length = xs.length := by
  haveI : Inhabited α := ⟨x⟩
  have hle : o + i * k + k ≤ xs.length := by
    have : (i + 1) * k ≤ d.length * k := Nat.mul_le_mul_right _ hi
    have h5 : d.length * k ≤ c * k := Nat.mul_le_mul_right _ h.1
    rw [Nat.add_mul, Nat.one_mul] at this
    have := h.2.1; omega
  obtain ⟨xs', hp⟩ := paste_some xs (o + i * k) (cl x) (by rw [hk]; exact hle)
  obtain ⟨p1, p2, p3⟩ := paste_spec hp
  refine ⟨xs', hp, ⟨by simpa using h.1, by rw [p2]; exact h.2.1, ?_⟩, p2⟩
  rw [List.length_set]
  have hdk : d.length * k ≤ c * k := Nat.mul_le_mul_right _ h.1
  apply List.ext_getElem?
  intro t
  by_cases ht : t < d.length * k
  · have hq : t / k < d.length := Nat.div_lt_of_lt_mul (by rw [Nat.mul_comm]; exact ht)
    have hm : t % k < k := Nat.mod_lt _ hk0
    have hdm : t = t / k * k + t % k := by rw [Nat.mul_comm]; exact (Nat.div_add_mod t k).symm
    rw [List.getElem?_take_of_lt ht, List.getElem?_drop, flatMap_get hk _ t (by simpa using ht), p3, hk]
    have hset : (d.set i x)[t / k]! = if t / k = i then x else d[t / k] := by
      rw [getElem!_pos _ _ (by simpa using hq), List.getElem_set]
      by_cases e : i = t / k
      · simp [e]
      · rw [if_neg e, if_neg (fun e2 => e e2.symm)]
    rw [hset]
    by_cases e : t / k = i
    · rw [if_pos e, if_pos ⟨by rw [e] at hdm; omega, by rw [e] at hdm; omega⟩]
      congr 1
      rw [e] at hdm; omega
    · rw [if_neg e, if_neg ?_]
      · have := h.at hk hq hm
        rw [Nat.add_assoc, ← hdm] at this
        exact this
      · rintro ⟨e1, e2⟩
        apply e
        have h1 : i * k ≤ t := by omega
        have h2 : t < (i + 1) * k := by rw [Nat.add_mul, Nat.one_mul]; omega
        have h3 : i ≤ t / k := (Nat.le_div_iff_mul_le hk0).2 h1
        have h4 : t / k < i + 1 := (Nat.div_lt_iff_lt_mul hk0).2 h2
        omega
  · have e1 : ((d.set i x).flatMap cl).length = d.length * k := by rw [flatMap_len hk]; simp
    rw [List.getElem?_eq_none (by simp; omega), List.getElem?_eq_none (by rw [e1]; omega)]
theorem RowG.same {xs xs' : List Value} {o c : Nat} {d : List α} (h : RowG cl k xs o c d) (hl : xs'.length = xs.length) (hs : ∀ j, j < o + d.length * k → xs'[j]? = xs[j]?) : RowG cl k xs' o c d := by
  refine ⟨h.1, by rw [hl]; exact h.2.1, ?_⟩
  rw [← h.2.2]
  apply List.ext_getElem?
  intro t
  by_cases ht : t < d.length * k
  · rw [List.getElem?_take_of_lt ht, List.getElem?_drop, List.getElem?_take_of_lt ht, List.getElem?_drop, hs _ (by omega)]
  · have h5 := Nat.mul_le_mul_right k h.1
    have h6 := h.2.1
    rw [List.getElem?_eq_none (by simp; omega), List.getElem?_eq_none (by simp; omega)]
/-- Some are dropped: between the rounds. -/
structure Sieve (d : List α) (q : α → Bool) (e : List α) (i j : Nat) : Prop where
  len : e.length = d.length
  le : i ≤ j ∧ j ≤ d.length
  kept : e.take i = (d.take j).filter q
  rest : e.drop j = d.drop j
theorem Sieve.num {d : List α} {q : α → Bool} {e : List α} {i j : Nat} (h : Sieve d q e i j) : i = ((d.take j).filter q).length := by
  rw [← h.kept, List.length_take, h.len]; have := h.le; omega
theorem Sieve.get {d : List α} {q : α → Bool} {e : List α} {i j : Nat} (h : Sieve d q e i j) (hj : j < d.length) : e[j]'(by rw [h.len]; exact hj) = d[j] := by
  have := congrArg (fun l : List α => l[0]?) h.rest
  simp only [List.getElem?_drop, Nat.add_zero] at this
  rw [List.getElem?_eq_getElem hj, List.getElem?_eq_getElem (by rw [h.len]; exact hj)] at this
  exact Option.some.inj this
theorem Sieve.drop {d : List α} {q : α → Bool} {e : List α} {i j : Nat} (h : Sieve d q e i j) (hj : j < d.length) (hq : q d[j] = false) : Sieve d q e i (j + 1) where
  len := h.len
  le := ⟨by have := h.le; omega, hj⟩
  kept := by rw [h.kept, ← List.take_append_getElem hj, List.filter_append]; simp [hq]
  rest := by rw [← List.drop_drop, h.rest, List.drop_drop]
theorem Sieve.keep {d : List α} {q : α → Bool} {e : List α} {i j : Nat} (h : Sieve d q e i j) (hj : j < d.length) (hq : q d[j] = true) : Sieve d q (e.set i d[j]) (i + 1) (j + 1) where
  len := by rw [List.length_set, h.len]
  le := ⟨by have := h.le; omega, hj⟩
  kept := by
    have hil : i < (e.set i d[j]).length := by rw [List.length_set, h.len]; have := h.le; omega
    rw [← List.take_append_getElem hil, List.take_set_of_le (Nat.le_refl _), h.kept, ← List.take_append_getElem hj, List.filter_append]
    simp [hq]
  rest := by
    have := h.le
    rw [List.drop_set_of_lt (by omega), ← List.drop_drop, h.rest, List.drop_drop]
theorem Sieve.start {d : List α} {q : α → Bool} {i : Nat} (hi : i < d.length) (hq : q d[i] = false) (hb : ∀ j (hj : j < d.length), j < i → q d[j] = true) : Sieve d q d i (i + 1) where
  len := rfl
  le := ⟨by omega, hi⟩
  kept := by
    rw [← List.take_append_getElem hi, List.filter_append]
    simp only [List.filter_cons, hq, List.filter_nil, Bool.false_eq_true, if_false, List.append_nil]
    symm
    rw [List.filter_eq_self]
    intro x hx
    obtain ⟨j, hj, rfl⟩ := List.mem_iff_getElem.1 hx
    simp only [List.length_take] at hj
    rw [List.getElem_take]
    exact hb j (by omega) (by omega)
  rest := rfl
theorem Sieve.done {d : List α} {q : α → Bool} {e : List α} {i : Nat} (h : Sieve d q e i d.length) : e.take i = d.filter q := by
  rw [h.kept, List.take_length]
end
end Go.V

namespace Go.V
open Go Go.RowKit Go.ChangeShapes Go.WideShapes
set_option linter.unusedSectionVars false
variable [Mode]

/-! ### Arguments that come in, cell by cell -/
inductive FKd where
  | int (k : IntKind) | str | bool | sl (t : TypeId)
  deriving DecidableEq
section
variable {P : Program}
def flatFs (P : Program) (f : TypeId → Option (List FKd)) : Nat → List Field → Option (List FKd)
  | _, [] => some []
  | off, fd :: r => match f fd.type with
    | some l => if fd.offset = off ∧ l.length = P.cellsOf fd.type then (match flatFs P f (off + l.length) r with | some m => some (l ++ m) | none => none) else none
    | none => none
def flatK (P : Program) : Nat → TypeId → Option (List FKd)
  | 0, _ => none
  | d + 1, t => match P.underlying t with
    | some (.int k) => some [.int k]
    | some .string => some [.str]
    | some .bool => some [.bool]
    | some (.slice _) => some [.sl t]
    | some (.array n e) => match flatK P d e with
      | some l => if l.length = P.cellsOf e ∧ n * l.length = P.cellsOf t then some (List.flatten (List.replicate n l)) else none
      | none => none
    | some (.struct fs) => match flatFs P (flatK P d) 0 fs.toList with
      | some l => if l.length = P.cellsOf t then some l else none
      | none => none
    | _ => none
variable {H : Type} {enc : TypeId × Value → H} {w : World} {base : Nat} {spare : Nat → Bool} {held : Bool}
def FitK (enc : TypeId × Value → H) (P : Program) (w : World) (base : Nat) (spare : Nat → Bool) (held : Bool) (k : FKd) (v : Value) : Prop := match k with
  | .int k => ∃ n, v = .int k n ∧ (Lit.int k n).wf = true
  | .str => ∃ s, v = .string s
  | .bool => ∃ b, v = .bool b
  | .sl t => ∃ fuel x, DataW.trod enc P w base spare held fuel t [v] = some x

omit [Mode] in
theorem flat_fit : ∀ (d : Nat) (t : TypeId) (ks : List FKd) (fuel : Nat) (cs : List Value) (x : DataW H × List MemPlace), flatK P d t = some ks → DataW.trod enc P w base spare held fuel t cs = some x →
    cs.length = ks.length ∧ ∀ (i : Nat) k v, ks[i]? = some k → cs[i]? = some v → FitK enc P w base spare held k v
  | 0, _, _, _, _, _, h, _ => by simp [flatK] at h
  | d + 1, t, ks, fuel, cs, x, h, hx => by
    have ih := flat_fit d
    unfold flatK at h
    cases hu : P.underlying t with
    | none => simp [hu] at h
    | some td =>
      rw [hu] at h
      cases td <;> simp only at h <;> try (cases h; done)
      case int k =>
        cases h
        obtain ⟨n, rfl, _, hw⟩ := DataW.trod_int hu hx
        refine ⟨rfl, fun i k' v h1 h2 => ?_⟩
        match i with
        | 0 => simp at h1 h2; subst h1 h2; exact ⟨n, rfl, hw⟩
        | i + 1 => simp at h1
      case string =>
        cases h
        obtain ⟨s, rfl, _⟩ := DataW.trod_string hu hx
        refine ⟨rfl, fun i k' v h1 h2 => ?_⟩
        match i with
        | 0 => simp at h1 h2; subst h1 h2; exact ⟨s, rfl⟩
        | i + 1 => simp at h1
      case bool =>
        cases h
        obtain ⟨s, rfl, _⟩ := DataW.trod_bool hu hx
        refine ⟨rfl, fun i k' v h1 h2 => ?_⟩
        match i with
        | 0 => simp at h1 h2; subst h1 h2; exact ⟨s, rfl⟩
        | i + 1 => simp at h1
      case slice e =>
        cases h
        have hcs : ∃ v, cs = [v] := by
          rcases Go.Deep.open_slice hu hx with ⟨h1, _⟩ | ⟨a, l, c, m, n, D, Pl, h1, _⟩
          · exact ⟨_, h1⟩
          · exact ⟨_, h1⟩
        obtain ⟨v0, rfl⟩ := hcs
        refine ⟨rfl, fun i k' v h1 h2 => ?_⟩
        match i with
        | 0 => simp at h1 h2; subst h1 h2; exact ⟨fuel, x, hx⟩
        | i + 1 => simp at h1
      case array n e =>
        split at h
        · rename_i l hl
          split at h
          · rename_i hsz
            cases h
            obtain ⟨xs, m, rfl, _, hlen, hxl, hall⟩ := DataW.trod_array hu hx
            refine ⟨by simp [hlen, hsz.2], fun i k v h1 h2 => ?_⟩
            have hlt : i < n * l.length := by
              have := (List.getElem?_eq_some_iff.1 h1).1
              simpa using this
            have hpos : 0 < l.length := by
              rcases Nat.eq_zero_or_pos l.length with h0 | h0
              · rw [h0] at hlt; simp at hlt
              · exact h0
            have hq : i / l.length < n := Nat.div_lt_of_lt_mul (by rw [Nat.mul_comm]; exact hlt)
            have hr : i % l.length < l.length := Nat.mod_lt _ hpos
            have hdm : i / l.length * l.length + i % l.length = i := by rw [Nat.mul_comm]; exact Nat.div_add_mod i _
            have hx1 := hall (i / l.length) hq
            rw [List.getElem?_eq_getElem (by omega)] at hx1
            obtain ⟨_, g2⟩ := ih e l m _ _ hl hx1
            refine g2 (i % l.length) k v ?_ ?_
            · have : (List.flatten (List.replicate n l))[i]? = l[i % l.length]? := by
                have hfm : List.flatten (List.replicate n l) = (List.replicate n l).flatMap id := by simp [List.flatMap]
                have gen : ∀ (n i : Nat), i < n * l.length → (List.flatten (List.replicate n l))[i]? = l[i % l.length]? := by
                  intro n
                  induction n with
                  | zero => intro i hi; simp at hi
                  | succ n ihn =>
                    intro i hi
                    rw [List.replicate_succ, List.flatten_cons]
                    by_cases hil : i < l.length
                    · rw [List.getElem?_append_left hil, Nat.mod_eq_of_lt hil]
                    · rw [List.getElem?_append_right (by omega), ihn (i - l.length) (by rw [Nat.add_mul] at hi; omega)]
                      congr 1
                      rw [← Nat.mod_eq_sub_mod (by omega)]
                exact gen n i hlt
              rw [← this]; exact h1
            · rw [← hsz.1, List.getElem?_take_of_lt hr, List.getElem?_drop, hdm]; exact h2
          · cases h
        · cases h
      case struct fs =>
        split at h
        · rename_i l hl
          split at h
          · rename_i hsz
            cases h
            obtain ⟨xs, m, rfl, _, hlen, hxl, hall⟩ := DataW.trod_struct hu hx
            refine ⟨by rw [hlen, hsz], ?_⟩
            have gen : ∀ (r : List Field) (off j : Nat) (l : List FKd), (∀ i f, r[i]? = some f → fs[j + i]? = some f) → flatFs P (flatK P d) off r = some l → ∀ (i : Nat) k v, l[i]? = some k → cs[off + i]? = some v → FitK enc P w base spare held k v := by
              intro r
              induction r with
              | nil => intro off j l _ hf i k v h1; simp [flatFs] at hf; subst hf; simp at h1
              | cons fd r ihr =>
                intro off j l hfs hf i k v h1 h2
                unfold flatFs at hf
                split at hf
                · rename_i l0 hl0
                  split at hf
                  · rename_i hq
                    split at hf
                    · rename_i m0 hm0
                      cases hf
                      by_cases hil : i < l0.length
                      · rw [List.getElem?_append_left hil] at h1
                        have hfd := hfs 0 fd rfl
                        rw [Nat.add_zero] at hfd
                        have hx1 := hall j fd hfd
                        have hjx : j < xs.length := by
                          have := (Array.getElem?_eq_some_iff.1 hfd).1
                          omega
                        rw [List.getElem?_eq_getElem hjx] at hx1
                        obtain ⟨_, g2⟩ := ih fd.type l0 m _ _ hl0 hx1
                        refine g2 i k v h1 ?_
                        rw [← hq.2, List.getElem?_take_of_lt hil, List.getElem?_drop, hq.1]; exact h2
                      · rw [List.getElem?_append_right (by omega)] at h1
                        refine ihr (off + l0.length) (j + 1) m0 (fun i f hi => ?_) hm0 (i - l0.length) k v h1 ?_
                        · rw [show j + 1 + i = j + (i + 1) by omega]; exact hfs (i + 1) f (by simpa using hi)
                        · rw [show off + l0.length + (i - l0.length) = off + i by omega]; exact h2
                    · cases hf
                  · cases hf
                · cases hf
            intro i k v h1 h2
            exact gen fs.toList 0 0 _ (fun i f hi => by rw [Nat.zero_add, ← Array.getElem?_toList]; exact hi) hl i k v h1 (by rw [Nat.zero_add]; exact h2)
          · cases h
        · cases h

omit [Mode] in
theorem row_at {a : Addr} {k m : Nat} (hk : 0 < k) (hm : 0 < m) {C : Nat → List Value} (h : ∀ i, i < m → w.cells? base (a.add (i * k)) k = some (C i)) :
    ∃ (b o : Nat) (xs : List Value) (e : TypeId) (fr : Nat × Nat), a = ⟨b, o, none⟩ ∧ w.heap[b]? = some (.cells xs.toArray e fr) ∧ ∀ i, i < m → V.cut xs (o + i * k) k = some (C i) ∧ (C i).length = k := by
  have h0 := h 0 hm
  obtain ⟨_, hl0, hc0⟩ := World.cells?_some h0
  have h00 := hc0 0 hk
  obtain ⟨b, o, spot⟩ := a
  have e0 : Addr.add (Addr.add ⟨b, o, spot⟩ (0 * k)) 0 = ⟨b, o, spot⟩ := by simp [Addr.add]
  rw [e0, List.getElem?_eq_getElem (by omega)] at h00
  unfold World.cell? at h00
  split at h00
  · rename_i c e fr hb
    split at h00
    · cases h00
    · rename_i hsp
      have hsp : spot = none := by simpa using hsp
      subst hsp
      refine ⟨b, o, c.toList, e, fr, rfl, by simpa using hb, fun i hi => ?_⟩
      obtain ⟨_, hl, hc⟩ := World.cells?_some (h i hi)
      have get : ∀ j, j < k → c.toList[o + i * k + j]? = (C i)[j]? := by
        intro j hj
        have := hc j hj
        rw [add_eq, add_eq, cell_of hb] at this
        simpa using this
      have hlen : o + i * k + k ≤ c.toList.length := by
        have := get (k - 1) (by omega)
        rw [List.getElem?_eq_getElem (show k - 1 < (C i).length by omega)] at this
        have := (List.getElem?_eq_some_iff.1 this).1
        omega
      refine ⟨?_, by omega⟩
      rw [cut_take _ _ k hlen]
      congr 1
      apply List.ext_getElem?
      intro j
      by_cases hj : j < k
      · rw [List.getElem?_take_of_lt hj, List.getElem?_drop, get j hj]
      · rw [List.getElem?_eq_none (by simp; omega), List.getElem?_eq_none (by omega)]
  · cases h00

omit [Mode] in
/-- A slice's elements, cell by cell. -/
theorem open_rows {d : Nat} {t e : TypeId} {ks : List FKd} {fuel : Nat} {v : Value} {x : DataW H × List MemPlace} (ht : P.underlying t = some (.slice e)) (hk : flatK P d e = some ks) (hc : P.cellsOf e = ks.length) (hpos : 0 < ks.length)
    (h : DataW.trod enc P w base (fun _ => true) held fuel t [v] = some x) :
    v = .slice none 0 0 ∨ ∃ (a : Addr) (len cap : Nat), v = .slice (some a) len cap ∧ len ≤ cap ∧
      (len = 0 ∨ ∃ (b o : Nat) (xs : List Value) (te : TypeId) (fr : Nat × Nat), a = ⟨b, o, none⟩ ∧ w.heap[b]? = some (.cells xs.toArray te fr) ∧
      ∀ i, i < len → ∃ cs, V.cut xs (o + i * ks.length) ks.length = some cs ∧ cs.length = ks.length ∧ ∀ (j : Nat) k y, ks[j]? = some k → cs[j]? = some y → FitK enc P w base (fun _ => true) held k y) := by
  rcases Go.Deep.open_slice ht h with ⟨h1, _⟩ | ⟨a, l, c, m, n, D, Pl, h1, _, hlc, _, hm, _, hx⟩
  · simp only [List.cons.injEq, and_true] at h1; exact .inl h1
  · simp only [List.cons.injEq, and_true] at h1
    right
    refine ⟨a, l, c, h1, hlc, ?_⟩
    simp only [if_true] at hm
    subst hm
    rcases Nat.eq_zero_or_pos l with h0 | h0
    · exact .inl h0
    right
    have each : ∀ i, i < m → ∃ cs, w.cells? base (a.add (i * P.cellsOf e)) (P.cellsOf e) = some cs ∧ ∀ (j : Nat) k y, ks[j]? = some k → cs[j]? = some y → FitK enc P w base (fun _ => true) held k y := by
      intro i hi
      obtain ⟨cs, g1, g2⟩ := hx i hi
      exact ⟨cs, g1, (flat_fit d e ks n cs _ hk g2).2⟩
    obtain ⟨C, hC⟩ := Go.Deep.choose_lt each
    rw [hc] at hC
    obtain ⟨b, o, xs, te, fr, e1, e2, e3⟩ := row_at hpos (show 0 < m by omega) (fun i hi => (hC i hi).1)
    exact ⟨b, o, xs, te, fr, e1, e2, fun i hi => ⟨C i, (e3 i (by omega)).1, (e3 i (by omega)).2, (hC i (by omega)).2⟩⟩

/-- The whole heap, as one owned heap. -/
def allH (W : World) : Nat → Option Obj := fun b => W.heap[b]?
theorem ctr_all {f : FuncId} {args : List SV} {Post : SV → List SO → Prop} {W : World} (h : Ctr P f args [.heap (allH W)] Post) (ha : belowL 1 args = true) {vs : Array Value} (hv : (valL (fun _ => none) args).toArray = vs) {r : Value}
    (hp : ∀ v H' ρ', Post v H' → V.val ρ' v = r ∧ ∃ h', H' = [.heap h'] ∧ ∀ b o, allH W b = some o → h' b = some o) :
    Calls P f vs W fun e w' => e = .returned r ∧ Below W.heap.size W w' := by
  subst hv
  have one : ∀ (i : Nat) s, ([SO.heap (allH W)] : List SO)[i]? = some s → i = 0 ∧ s = .heap (allH W) := by
    intro i s hi
    match i with
    | 0 => simp at hi; exact ⟨rfl, hi.symm⟩
    | i + 1 => simp at hi
  have hS : St (fun _ => none) [.heap (allH W)] ⟨fun _ => none, W.os, W.tape, W.output, Mode.dr W⟩ W := by
    constructor
    · intro k so hk
      obtain ⟨rfl, rfl⟩ := one k so hk
      intro b o h; exact h
    · intro i j si sj b _ hi _ ho; obtain ⟨rfl, rfl⟩ := one i si hi; simp [SO.owned] at ho
    · intro i j si gh b hi ho; obtain ⟨rfl, rfl⟩ := one i si hi; simp [SO.owned] at ho
    · exact ⟨rfl, rfl, rfl, Mode.dr_le W, Mode.dr_lax W⟩
    · intro b o h; cases h
    · intro i si b hi ho; obtain ⟨rfl, rfl⟩ := one i si hi; simp [SO.owned] at ho
    · intro k l e hk; obtain ⟨rfl, h⟩ := one k _ hk; cases h
    · intro k m s seen st hk; obtain ⟨rfl, h⟩ := one k _ hk; cases h
    · intro j gh b _ _; rfl
    · intro j i gh b si _ _ hi ho; obtain ⟨rfl, rfl⟩ := one i si hi; simp [SO.owned, SO.isRo] at ho
    · intro j i gh b si hj _ hij hi; have := (one j _ hj).1; have := (one i _ hi).1; omega
  refine Calls.mono (h _ _ W hS ha) ?_
  rintro e w' ⟨ρ', v, H', rfl, hS', -, -, -, hP⟩
  obtain ⟨hr, h', rfl, hsub⟩ := hp v H' ρ' hP
  obtain ⟨h1, h2, h3, h4⟩ := hS'.env
  have hent := hS'.ent 0 _ rfl
  have keep : ∀ b o, W.heap[b]? = some o → w'.heap[b]? = some o := fun b o hb => hent b o (hsub b o hb)
  have hle : W.heap.size ≤ w'.heap.size := by
    rcases Nat.eq_zero_or_pos W.heap.size with h | h
    · omega
    · have := keep (W.heap.size - 1) _ (Array.getElem?_eq_getElem (xs := W.heap) (by omega))
      have := (Array.getElem?_eq_some_iff.1 this).1
      omega
  refine ⟨by rw [hr], h1, h2, h3, hle, fun k hk => ?_⟩
  rw [keep k _ (Array.getElem?_eq_getElem hk)]; simp [hk]
end
end Go.V

namespace Go.V
open Go Go.RowKit
set_option linter.unusedSectionVars false
variable [Mode]

/-! ### Laws that end in 'Below' -/
/-- Blocks laid behind what was there. -/
theorem St.below {ρ : Rho} {H : List SO} {g : Fr} {w w' : World} (hl : Mode.strict = false) (h : St ρ H g w) (hb : Below w.heap.size w w') : St ρ H g w' := by
  have hold : ∀ (b : Nat) (o : Obj), w.heap[b]? = some o → w'.heap[b]? = some o := fun b o e => by
    rw [hb.block b (Array.getElem?_eq_some_iff.1 e).1]; exact e
  constructor
  · intro k so hk
    refine entryOK_congr (n := H.length) (List.getElem?_eq_some_iff.1 hk).1 (h.ent k so hk) (fun _ _ => rfl) ?_ ?_ (fun b o' _ hb _ _ => hold b o' hb)
    · rintro l e rfl; exact h.scp k l e hk
    · rintro m s' seen st rfl; exact h.sci k m s' seen st hk
  · exact h.dis
  · exact h.gho
  · have h9 := h.env.2.2.2.2
    exact ⟨hb.os.trans h.env.1, hb.tape.trans h.env.2.1, hb.output.trans h.env.2.2.1, by rw [h9 hl]; exact Nat.zero_le _, h9⟩
  · exact fun b o e => hold b o (h.frm b o e)
  · exact h.frd
  · exact h.scp
  · exact h.sci
  · exact h.hpf
  · exact h.hpo
  · exact h.hpc
/-- A law over worlds that hold a heap, as a contract. -/
theorem ctr_of_below (hl : Mode.strict = false) {P : Program} {f : FuncId} (vs : List Value) (h : Nat → Option Obj) (v : Value)
    (hc : ∀ w : World, (∀ b o, h b = some o → w.heap[b]? = some o) → Calls P f vs.toArray w fun e w' => e = .returned v ∧ Below w.heap.size w w') :
    Ctr P f (vs.map SV.raw) [.heap h] (fun x H => x = .raw v ∧ H = [.heap h]) := by
  intro ρ g w hS hb
  rw [val_raws]
  refine Calls.mono (hc w (hS.ent 0 _ rfl)) ?_
  rintro e w' ⟨rfl, hB⟩
  exact ⟨ρ, .raw v, [.heap h], rfl, hS.below hl hB, fun _ _ => rfl, Nat.le_refl _, rfl, rfl, rfl⟩
omit [Mode] in
theorem cell_hold {w w' : World} (hold : ∀ (b : Nat) (o : Obj), w.heap[b]? = some o → w'.heap[b]? = some o) {a : Addr} {v : Value} (h : w.cell? a = some v) : w'.cell? a = some v := by
  unfold World.cell? at h ⊢
  cases hb : w.heap[a.block]? with
  | none => rw [hb] at h; cases h
  | some o => rw [hold _ _ hb]; rw [hb] at h; exact h

/-- One heap holds all that another holds. -/
def Sub (h h' : Nat → Option Obj) : Prop := ∀ b o, h b = some o → h' b = some o
omit [Mode] in
theorem Sub.refl (h : Nat → Option Obj) : Sub h h := fun _ _ e => e
omit [Mode] in
theorem Sub.trans {a b c : Nat → Option Obj} (h : Sub a b) (h' : Sub b c) : Sub a c := fun x o e => h' x o (h x o e)
omit [Mode] in
theorem Sub.upd {h : Nat → Option Obj} {b : Nat} {o : Obj} (hn : h b = none) : Sub h (updh h b o) := fun x o' e => by
  unfold updh
  split
  · rename_i hx; subst hx; rw [hn] at e; cases e
  · exact e
end Go.V

namespace Go.V
open Go Go.RowKit Go.Lib Go.Proofs
set_option linter.unusedSectionVars false

/-! ### unicode's tables in a heap -/
theorem RgTab_hold {k : IntKind} {R oR : Nat} {T : Array Rg} {w w' : World} (hold : ∀ (b : Nat) (o : Obj), w.heap[b]? = some o → w'.heap[b]? = some o) (h : RgTab k R oR T w) : RgTab k R oR T w' :=
  fun i hi => ⟨cell_hold hold (h i hi).1, cell_hold hold (h i hi).2.1, cell_hold hold (h i hi).2.2⟩
theorem RVar_hold {g : Nat} {T : RTab} {w w' : World} (hold : ∀ (b : Nat) (o : Obj), w.heap[b]? = some o → w'.heap[b]? = some o) (h : RVar g T w) : RVar g T w' := by
  obtain ⟨Tb, oT, hp, a16, a32, R16, o16, c16, R32, o32, c32, k0, k1, k2, h1, h2, t1, t2, hc⟩ := h
  exact ⟨Tb, oT, cell_hold hold hp, a16, a32, R16, o16, c16, R32, o32, c32, cell_hold hold k0, cell_hold hold k1, cell_hold hold k2, h1, h2, RgTab_hold hold t1, RgTab_hold hold t2, hc⟩
theorem TabIs_hold {P : Program} {n : String} {k : IntKind} {zs : List Int} {w w' : World} (hold : ∀ (b : Nat) (o : Obj), w.heap[b]? = some o → w'.heap[b]? = some o) (h : TabIs P w n k zs) : TabIs P w' n k zs := by
  unfold TabIs World.var? at h ⊢
  cases hg : P.globalNamed n with
  | none => rw [hg] at h; cases h
  | some g =>
    rw [hg] at h
    simp only [Option.bind_some] at h ⊢
    cases hb : w.heap[g]? with
    | none => rw [hb] at h; cases h
    | some o => rw [hold _ _ hb]; rw [hb] at h; exact h
/-- A heap that holds unicode's properties, letters and digits (variables gl, gd). -/
def UniH (P : Program) (gl gd : Nat) (h : Nat → Option Obj) : Prop := ∀ w : World, (∀ b o, h b = some o → w.heap[b]? = some o) →
  TabIs P w "unicode.properties" .u8 propertiesTab ∧ RVar gl letterT w ∧ RVar gd digitT w
theorem UniH.mono {P : Program} {gl gd : Nat} {h h' : Nat → Option Obj} (hu : UniH P gl gd h) (hs : Sub h h') : UniH P gl gd h' :=
  fun w hw => hu w fun b o e => hw b o (hs b o e)
theorem UniH.all {P : Program} {gl gd : Nat} {W : World} (h1 : TabIs P W "unicode.properties" .u8 propertiesTab) (h2 : RVar gl letterT W) (h3 : RVar gd digitT W) {h : Nat → Option Obj} (hh : ∀ b o, W.heap[b]? = some o → h b = some o) : UniH P gl gd h := by
  intro w hw
  have hold : ∀ (b : Nat) (o : Obj), W.heap[b]? = some o → w.heap[b]? = some o := fun b o e => hw b o (hh b o e)
  exact ⟨TabIs_hold hold h1, RVar_hold hold h2, RVar_hold hold h3⟩
variable [Mode] {P : Program}
theorem letter_ctr (hl : Mode.strict = false) {ρ : Shelf.Ren} (L : Lays.n200 P ρ) (hg : P.globalNamed "unicode.properties" = some (ρ.g 7)) {gd : Nat} {h : Nat → Option Obj} (hu : UniH P (ρ.g 8) gd h) (r : Int) (hr : -2147483648 ≤ r ∧ r ≤ 2147483647) :
    Ctr P (ρ.f 200) [.raw (.int .i32 r)] [.heap h] (fun x H => x = bv (isLetterU r) ∧ H = [.heap h]) :=
  ctr_of_below hl [.int .i32 r] h (.bool (isLetterU r)) fun w hw => Any.unicode_IsLetter_all L hg r w hr.1 hr.2 (hu w hw).1 (hu w hw).2.1
theorem digit_ctr (hl : Mode.strict = false) {ρ : Shelf.Ren} (L : Lays.n198 P ρ) {gl : Nat} {h : Nat → Option Obj} (hu : UniH P gl (ρ.g 5) h) (r : Int) (hr : -2147483648 ≤ r ∧ r ≤ 2147483647) :
    Ctr P (ρ.f 198) [.raw (.int .i32 r)] [.heap h] (fun x H => x = bv (isDigitU r) ∧ H = [.heap h]) :=
  ctr_of_below hl [.int .i32 r] h (.bool (isDigitU r)) fun w hw => Any.unicode_IsDigit_all L r w hr.1 hr.2 (hu w hw).2.2
end Go.V

namespace Go.V
open Go Go.RowKit
set_option linter.unusedSectionVars false
variable [Mode]

/-! ### Laws that leave the world as it is -/
theorem ctr_same {P : Program} {f : FuncId} (args : List SV) (H : List SO) (v : Value)
    (hc : ∀ (ρ : Rho) (w : World), Calls P f (valL ρ args).toArray w fun e w' => e = .returned v ∧ w' = w) :
    Ctr P f args H (fun x H' => x = .raw v ∧ H' = H) := by
  intro ρ g w hS hb
  refine Calls.mono (hc ρ w) ?_
  rintro e w' ⟨rfl, rfl⟩
  exact ⟨ρ, .raw v, H, rfl, hS, fun _ _ => rfl, Nat.le_refl _, rfl, rfl, rfl⟩
end Go.V

namespace Go.V
open Go Go.RowKit Go.Proofs
set_option linter.unusedSectionVars false
variable [Mode]

/-! ### strings.Builder's copyCheck -/
end Go.V

namespace Go.V
open Go Go.RowKit Go.Proofs
set_option linter.unusedSectionVars false
variable [Mode]

/-! ### A block that is written and given up -/
/-- All but one block stays. -/
structure KeepBut (b : Option Nat) (w w' : World) : Prop where
  os : w'.os = w.os
  tape : w'.tape = w.tape
  output : w'.output = w.output
  drawn : w.drawn ≤ w'.drawn
  block : ∀ k, some k ≠ b → w'.heap[k]? = w.heap[k]?
theorem St.only {ρ : Rho} {H : List SO} {g : Fr} {w w' : World} (h : St ρ H g w) {k : Nat} {so : SO} (hk : H[k]? = some so) (hown : so.owned = true) (hw : KeepBut (ρ k) w w') : St ρ (H.set k .gone) g w' := by
  have h1 := h.giveUp k
  have hkl := (List.getElem?_eq_some_iff.1 hk).1
  -- what an entry that is left names is another block
  have hne : ∀ (j : Nat) s b, (H.set k .gone)[j]? = some s → (s.owned = true ∨ s.isRo = true) → ρ j = some b → some b ≠ ρ k := by
    intro j s b hj hs hb he
    by_cases e : j = k
    · subst e
      rw [List.getElem?_set_self hkl] at hj
      cases hj; simp [SO.owned, SO.isRo] at hs
    · rw [List.getElem?_set_ne (Ne.symm e)] at hj
      exact h.dis k j so s b (Ne.symm e) hk hj hown hs he.symm hb
  have hgh : ∀ (j : Nat) s hp b o, (H.set k .gone)[j]? = some s → (s = .ghost hp ∨ s = .heap hp) → hp b = some o → some b ≠ ρ k := by
    intro j s hp b o hj hs ho he
    by_cases e : j = k
    · subst e
      rw [List.getElem?_set_self hkl] at hj
      cases hj; rcases hs with h9 | h9 <;> cases h9
    · rw [List.getElem?_set_ne (Ne.symm e)] at hj
      rcases hs with rfl | rfl
      · have := h.gho k j so hp b hk hown hj he.symm
        rw [ho] at this; cases this
      · exact h.hpo j k hp b so hj (by rw [ho]; simp) hk (.inl hown) he.symm
  constructor
  · intro j s hj
    refine entryOK_congr (n := (H.set k .gone).length) (List.getElem?_eq_some_iff.1 hj).1 (h1.ent j s hj) (fun _ _ => rfl) ?_ ?_ ?_
    · rintro l e rfl; exact h1.scp j l e hj
    · rintro m s' seen st rfl; exact h1.sci j m s' seen st hj
    · intro b o hgone ho hb hg
      rw [hw.block b ?_]; exact ho
      cases s with
      | gone => exact absurd rfl hgone
      | ghost hp => exact hgh j _ hp b o hj (.inl rfl) (hg hp (.inl rfl))
      | heap hp => exact hgh j _ hp b o hj (.inr rfl) (hg hp (.inr rfl))
      | cells l e => exact hne j _ b hj (.inl rfl) (hb (.inl rfl))
      | arr xs e => exact hne j _ b hj (.inl rfl) (hb (.inl rfl))
      | ro xs e => exact hne j _ b hj (.inr rfl) (hb (.inr rfl))
      | map es c => exact hne j _ b hj (.inl rfl) (hb (.inl rfl))
      | iter m s seen st => exact hne j _ b hj (.inl rfl) (hb (.inl rfl))
      | siter s p => exact hne j _ b hj (.inl rfl) (hb (.inl rfl))
  · exact h1.dis
  · exact h1.gho
  · exact ⟨hw.os.trans h1.env.1, hw.tape.trans h1.env.2.1, hw.output.trans h1.env.2.2.1, h1.env.2.2.2.mono hw.drawn⟩
  · intro b o ho
    rw [hw.block b ?_]; exact h1.frm b o ho
    intro he
    have := h.frd k so b hk hown he.symm
    rw [ho] at this; cases this
  · exact h1.frd
  · exact h1.scp
  · exact h1.sci
  · exact h1.hpf
  · exact h1.hpo
  · exact h1.hpc
end Go.V

namespace Go.V
open Go Go.RowKit Go.Proofs Go.Lib
set_option linter.unusedSectionVars false

/-! ### strings.Builder's String: a row of bytes from a place on -/
section
variable {P : Program} (w : World)
end
end Go.V

namespace Go.V
open Go Go.Proofs
set_option linter.unusedSectionVars false
variable [Mode]

/-! ### slices.Sort at strings, by the library's law -/
abbrev stcl (l : List UInt8) : List Value := [encStr l]
omit [Mode] in
theorem putCells_str (off : Nat) (m : List (List UInt8)) (c : Array Value) : Sort.putCells encStr off m.toArray c = Sort.putCells id off (m.flatMap stcl).toArray c := by
  have hfm : m.flatMap stcl = m.map encStr := by induction m with
    | nil => rfl
    | cons x m ih => rw [List.flatMap_cons, ih]; rfl
  rw [hfm]
  unfold Sort.putCells
  apply Array.ext_getElem?
  intro i
  simp only [Array.getElem?_mapIdx, List.size_toArray, List.length_map, id]
  cases hc : c[i]? with
  | none => rfl
  | some x =>
    simp only [Option.map_some]
    by_cases h : off ≤ i ∧ i < off + m.length
    · rw [if_pos h, if_pos h]
      have h1 : i - off < m.length := by omega
      rw [getElem!_pos m.toArray (i - off) (by simpa using h1), getElem!_pos (m.map encStr).toArray (i - off) (by simpa using h1)]
      simp
    · rw [if_neg h, if_neg h]
/-- slices.Sort: the row is sorted. -/
theorem sortS_ctr {P : Program} {r : Shelf.Ren} (L : Lays.n190 P r) {H : List SO} {j off cap : Nat} {xs : List Value} {e : TypeId} (hj : H[j]? = some (.arr xs e)) (d : List (List UInt8)) (hd : (xs.drop off).take d.length = d.flatMap stcl) (hlen : off + d.length ≤ xs.length) (hsz : d.length < 4611686018427387904) :
    Ctr P (r.f 190) [.sl j off d.length cap] H (fun v H' => v = .tup [] ∧ H' = H.set j (.arr (rowSet xs off ((d.mergeSort fun x y => decide (x ≤ y)).flatMap stcl)) e)) := by
  intro ρ g w hS hb
  have hjl := (List.getElem?_eq_some_iff.1 hj).1
  have hent := hS.ent j _ hj
  have hk : ∀ x, (stcl x).length = 1 := fun _ => rfl
  have hfl := flatMap_len hk d
  have hfl' := flatMap_len hk (d.mergeSort fun x y => decide (x ≤ y))
  have hml : (d.mergeSort fun x y => decide (x ≤ y)).length = d.length := List.length_mergeSort _
  simp only [valL, V.val]
  rcases hent with ⟨hn, hx⟩ | ⟨b, fr, hρ, hwb, hfr⟩
  · subst hx
    have hd0 : d = [] := by
      cases d with
      | nil => rfl
      | cons x d => simp at hlen
    subst hd0
    refine Calls.mono (Any.slices_Sort_string_none L _ _ w) ?_
    rintro e' w' ⟨rfl, rfl⟩
    refine ⟨ρ, .tup [], H, rfl, hS, fun _ _ => rfl, Nat.le_refl _, rfl, rfl, ?_⟩
    have : rowSet [] off (List.flatMap stcl (([] : List (List UInt8)).mergeSort fun x y => decide (x ≤ y))) = [] := by simp [rowSet]
    rw [this]
    apply List.ext_getElem?
    intro i
    by_cases hij : j = i
    · subst hij; rw [List.getElem?_set_self hjl, hj]
    · simp [hij]
  · have hHold : Sort.Holds encStr w b off d.toArray := by
      intro i hi
      have hi : i < d.length := by simpa using hi
      have hg : xs[off + i]? = some (encStr d.toArray[i]!) := by
        have h3 : ((xs.drop off).take d.length)[i]? = (d.flatMap stcl)[i]? := by rw [hd]
        rw [List.getElem?_take_of_lt hi, List.getElem?_drop] at h3
        rw [h3, flatMap_get hk d i (by simpa using hi)]
        simp [Nat.div_one, Nat.mod_one]
      constructor
      · rw [cell_of hwb]; simpa using hg
      · have := (List.getElem?_eq_some_iff.1 hg).1
        simp only [World.frozen?, hwb]
        rcases hfr with h5 | h5
        · simp; omega
        · simp; omega
    have hblk : b < w.heap.size := (Array.getElem?_eq_some_iff.1 hwb).1
    rw [show (ρ j).map (fun b => (⟨b, off, none⟩ : Addr)) = some ⟨b, off, none⟩ by rw [hρ]; rfl]
    refine Calls.mono (Any.slices_Sort_string L b off cap d w hHold hblk hsz) ?_
    rintro e' w' ⟨rfl, n, os, rfl⟩
    generalize hm : (d.mergeSort fun x y => decide (x ≤ y)) = m at *
    refine ⟨ρ, .tup [], H.set j (.arr (rowSet xs off (m.flatMap stcl)) e), rfl, ?_, fun _ _ => rfl, by simp, rfl, rfl, rfl⟩
    have hw1 : HeapIs w (Sort.putRow encStr (Sort.ahead w n) b off m.toArray) (w.heap.setIfInBounds b (.cells (rowSet xs off (m.flatMap stcl)).toArray e fr)) := by
      refine ⟨?_, rfl, rfl, rfl, Nat.le_add_right _ _⟩
      simp only [Sort.putRow, Sort.mapBlock, Sort.ahead]
      apply Array.ext_getElem?
      intro i
      by_cases hi : b = i
      · subst hi
        rw [Array.getElem?_modify, if_pos rfl, hwb]
        simp only [Option.map_some, Sort.onCells, Array.getElem?_setIfInBounds, if_pos hblk]
        rw [putCells_str, putCells_rowSet (by omega)]
        simp
      · rw [Array.getElem?_modify, if_neg hi, Array.getElem?_setIfInBounds_ne hi]
    have hS1 := hS.set (so' := .arr (rowSet xs off (m.flatMap stcl)) e) hj rfl rfl hρ hw1
      (.inr ⟨b, fr, hρ, by rw [hw1.1]; simp [hblk], by rw [rowSet_len (by omega)]; exact hfr⟩) (by simp) (by simp)
    exact hS1.grow (os := os) ⟨rfl, rfl, rfl, rfl, Nat.le_refl _⟩
end Go.V

namespace Go.V
open Go Go.Proofs
set_option linter.unusedSectionVars false
variable [Mode]

/-! ### strings.Join, by the library's law -/
theorem join_ctr (hlx : Mode.strict = false) {P : Program} {r : Shelf.Ren} (L : Lays.n156 P r) (X : Builder.Extra P r) {H : List SO} {j off cap : Nat} {xs : List Value} {e : TypeId} (hj : H[j]? = some (.arr xs e)) (d : List (List UInt8)) (hd : (xs.drop off).take d.length = d.flatMap stcl) (hlen : off + d.length ≤ xs.length) (hcap : d.length ≤ cap) (hsz : d.length ≤ 140737488355328)
    (sep : ByteArray) (hjl : (Lib.join d sep.data.toList).length ≤ 140737488355328) :
    Ctr P (r.f 156) [.sl j off d.length cap, .raw (.string sep)] H (fun v H' => v = .raw (.string ⟨(Lib.join d sep.data.toList).toArray⟩) ∧ H' = H) := by
  intro ρ g w hS hb
  have hent := hS.ent j _ hj
  have hk : ∀ x, (stcl x).length = 1 := fun _ => rfl
  simp only [valL, V.val]
  rcases hent with ⟨hn, hx⟩ | ⟨b, fr, hρ, hwb, hfr⟩
  · subst hx
    have hd0 : d = [] := by
      cases d with
      | nil => rfl
      | cons x d => simp at hlen
    subst hd0
    refine Calls.mono (Any.strings_Join_none L X _ _ sep w) ?_
    rintro e' w' ⟨rfl, rfl⟩
    exact ⟨ρ, .raw (.string ⟨#[]⟩), H, rfl, hS, fun _ _ => rfl, Nat.le_refl _, rfl, rfl, rfl⟩
  · have hblk : b < w.heap.size := (Array.getElem?_eq_some_iff.1 hwb).1
    have hmm : (d.map fun l => (⟨l.toArray⟩ : ByteArray)).map (fun s => s.data.toList) = d := by
      rw [List.map_map]
      have : ((fun s : ByteArray => s.data.toList) ∘ fun l : List UInt8 => (⟨l.toArray⟩ : ByteArray)) = id := by funext l; rfl
      rw [this, List.map_id]
    rw [show (ρ j).map (fun b => (⟨b, off, none⟩ : Addr)) = some ⟨b, off, none⟩ by rw [hρ]; rfl]
    have hcells : ∀ (i : Nat) x, (d.map fun l => (⟨l.toArray⟩ : ByteArray))[i]? = some x → w.cell? ⟨b, off + i, none⟩ = some (.string x) := by
      intro i x hx
      rw [List.getElem?_map, Option.map_eq_some_iff] at hx
      obtain ⟨y, hy, rfl⟩ := hx
      have hi := (List.getElem?_eq_some_iff.1 hy).1
      have h3 : ((xs.drop off).take d.length)[i]? = (d.flatMap stcl)[i]? := by rw [hd]
      rw [List.getElem?_take_of_lt hi, List.getElem?_drop] at h3
      rw [cell_of hwb]
      have h4 : (d.flatMap stcl)[i]? = some (.string ⟨y.toArray⟩) := by
        rw [flatMap_get hk d i (by simpa using hi)]
        rw [Nat.div_one, Nat.mod_one, getElem!_pos d i hi, (List.getElem?_eq_some_iff.1 hy).2]; rfl
      rw [h4] at h3
      simpa using h3
    have hlaw := Any.strings_Join L X b off cap (d.map fun l => (⟨l.toArray⟩ : ByteArray)) sep w hcells hblk (by simpa using hsz) (by simpa using hcap) (by rw [hmm]; exact hjl)
    rw [hmm, List.length_map] at hlaw
    refine Calls.mono hlaw ?_
    rintro e' w' ⟨rfl, hB⟩
    exact ⟨ρ, .raw (.string ⟨(Lib.join d sep.data.toList).toArray⟩), H, rfl, hS.below hlx hB, fun _ _ => rfl, Nat.le_refl _, rfl, rfl, rfl⟩
end Go.V

namespace Go.V
open Go Go.Proofs
set_option linter.unusedSectionVars false
variable [Mode]

/-! ### slices.Compact at strings, by the library's law -/
omit [Mode] in
theorem compact_len (d : List (List UInt8)) : (Lib.compact d).length ≤ d.length := by
  unfold Lib.compact Lib.compactUpTo
  rw [List.length_map]
  refine Nat.le_trans (List.length_filter_le _ _) ?_
  simp
/-- slices.Compact: the row's beginning is what stays. -/
theorem compactS_ctr {P : Program} {r : Shelf.Ren} (L : Lays.n194 P r) {H : List SO} {j off cap : Nat} {xs : List Value} {e : TypeId} (hj : H[j]? = some (.arr xs e)) (d : List (List UInt8)) (hd : (xs.drop off).take d.length = d.flatMap stcl) (hlen : off + d.length ≤ xs.length) (hcap : d.length ≤ cap) (hsz : d.length < 4611686018427387904) :
    Ctr P (r.f 194) [.sl j off d.length cap] H (fun v H' => v = .sl j off (Lib.compact d).length cap ∧ H' = H.set j (.arr (rowSet xs off ((Lib.compact d ++ List.replicate (d.length - (Lib.compact d).length) []).flatMap stcl)) e)) := by
  intro ρ g w hS hb
  have hjl := (List.getElem?_eq_some_iff.1 hj).1
  have hent := hS.ent j _ hj
  have hk : ∀ x, (stcl x).length = 1 := fun _ => rfl
  have hfl := flatMap_len hk d
  have hcl := compact_len d
  generalize hm : Lib.compact d ++ List.replicate (d.length - (Lib.compact d).length) [] = m
  have hml : m.length = d.length := by rw [← hm]; simp; omega
  have hfl' := flatMap_len hk m
  simp only [valL, V.val]
  rcases hent with ⟨hn, hx⟩ | ⟨b, fr, hρ, hwb, hfr⟩
  · subst hx
    have hd0 : d = [] := by
      cases d with
      | nil => rfl
      | cons x d => simp at hlen
    subst hd0
    have hm0 : m = [] := List.length_eq_zero_iff.1 hml
    refine Calls.mono (Any.slices_Compact_string_empty L _ _ w) ?_
    rintro e' w' ⟨rfl, rfl⟩
    refine ⟨ρ, .sl j off 0 cap, H, rfl, hS, fun _ _ => rfl, Nat.le_refl _, ?_, ?_, ?_⟩
    · have h9 : below H.length (.sl j off 0 cap) = true := by simpa [belowL] using hb
      exact h9
    · rfl
    · have : rowSet [] off (List.flatMap stcl m) = [] := by rw [hm0]; simp [rowSet]
      rw [this]
      apply List.ext_getElem?
      intro i
      by_cases hij : j = i
      · subst hij; rw [List.getElem?_set_self hjl, hj]
      · simp [hij]
  · have hHold : Sort.Holds encStr w b off d.toArray := by
      intro i hi
      have hi : i < d.length := by simpa using hi
      have hg : xs[off + i]? = some (encStr d.toArray[i]!) := by
        have h3 : ((xs.drop off).take d.length)[i]? = (d.flatMap stcl)[i]? := by rw [hd]
        rw [List.getElem?_take_of_lt hi, List.getElem?_drop] at h3
        rw [h3, flatMap_get hk d i (by simpa using hi)]
        simp [Nat.div_one, Nat.mod_one]
      constructor
      · rw [cell_of hwb]; simpa using hg
      · have := (List.getElem?_eq_some_iff.1 hg).1
        simp only [World.frozen?, hwb]
        rcases hfr with h5 | h5
        · simp; omega
        · simp; omega
    have hblk : b < w.heap.size := (Array.getElem?_eq_some_iff.1 hwb).1
    rw [show (ρ j).map (fun b => (⟨b, off, none⟩ : Addr)) = some ⟨b, off, none⟩ by rw [hρ]; rfl]
    refine Calls.mono (Any.slices_Compact_string L b off cap d w hHold (by omega) hcap) ?_
    rintro e' w' ⟨rfl, n, rfl⟩
    rw [hm]
    refine ⟨ρ, .sl j off (Lib.compact d).length cap, H.set j (.arr (rowSet xs off (m.flatMap stcl)) e), ?_, ?_, fun _ _ => rfl, by simp, ?_, rfl, rfl⟩
    · simp [V.val, hρ]
    · have hw1 : HeapIs w (Sort.putRow encStr (Sort.ahead w n) b off m.toArray) (w.heap.setIfInBounds b (.cells (rowSet xs off (m.flatMap stcl)).toArray e fr)) := by
        refine ⟨?_, rfl, rfl, rfl, Nat.le_add_right _ _⟩
        simp only [Sort.putRow, Sort.mapBlock, Sort.ahead]
        apply Array.ext_getElem?
        intro i
        by_cases hi : b = i
        · subst hi
          rw [Array.getElem?_modify, if_pos rfl, hwb]
          simp only [Option.map_some, Sort.onCells, Array.getElem?_setIfInBounds, if_pos hblk]
          rw [putCells_str, putCells_rowSet (by omega)]
          simp
        · rw [Array.getElem?_modify, if_neg hi, Array.getElem?_setIfInBounds_ne hi]
      exact hS.set (so' := .arr (rowSet xs off (m.flatMap stcl)) e) hj rfl rfl hρ hw1
        (.inr ⟨b, fr, hρ, by rw [hw1.1]; simp [hblk], by rw [rowSet_len (by omega)]; exact hfr⟩) (by simp) (by simp)
    · have h9 : below H.length (.sl j off d.length cap) = true := by simpa [belowL] using hb
      show below (H.set j _).length (.sl j off (Lib.compact d).length cap) = true
      rw [List.length_set]; exact h9
end Go.V

namespace Go.V
open Go Go.RowKit Go.Lib Go.Proofs
set_option linter.unusedSectionVars false
/-! ### strconv.FormatInt, strconv.Itoa in base ten -/
/-- A heap that holds strconv's powers of ten. -/
def TenH (P : Program) (h : Nat → Option Obj) : Prop := ∀ w : World, (∀ b o, h b = some o → w.heap[b]? = some o) → TabIs P w "internal/strconv.uint64pow10" .u64 pow10Tab
theorem TenH.all {P : Program} {W : World} (h1 : TabIs P W "internal/strconv.uint64pow10" .u64 pow10Tab) {h : Nat → Option Obj} (hh : ∀ b o, W.heap[b]? = some o → h b = some o) : TenH P h := by
  intro w hw
  exact TabIs_hold (fun b o e => hw b o (hh b o e)) h1
theorem grow_below (w : World) (k : Nat) (os : Array Obj) : Below w.heap.size w (Sort.grow (w.drewN k) os) where
  os := rfl
  tape := rfl
  output := rfl
  size := by simp [Sort.grow, World.drewN]
  block := fun b hb => by simp [Sort.grow, World.drewN, Array.getElem?_append_left hb]
variable [Mode] {P : Program}
theorem fmt_ctr (hl : Mode.strict = false) {ρ : Shelf.Ren} (L : LaysM.n173 P ρ) {h : Nat → Option Obj} (hu : TenH P h) (n : Int) (hn : -9223372036854775808 ≤ n ∧ n ≤ 9223372036854775807) :
    Ctr P (ρ.f 173) [.raw (.int .i64 n), .raw (.int .i64 10)] [.heap h] (fun x H => x = .raw (.string ⟨(itoa n).toArray⟩) ∧ H = [.heap h]) :=
  ctr_of_below hl [.int .i64 n, .int .i64 10] h (.string ⟨(itoa n).toArray⟩) fun w hw => Calls.mono (Any.strconv_FormatInt_10 L n hn.1 hn.2 w (hu w hw)) (by
    rintro e w' ⟨rfl, k, os, rfl⟩
    exact ⟨rfl, grow_below w k os⟩)
end Go.V

namespace Go.V
open Go
set_option linter.unusedSectionVars false

/-! ### A contract over blocks by name, as one over a heap that holds them -/
/-- A block's object. -/
def objOf (ρ : Rho) : SO → Option Obj
  | .cells l e => some (.cells (valL ρ l).toArray e (0, 0))
  | .map es c => some (.map es.toArray c)
  | _ => none
def isCM : SO → Bool
  | .cells .. | .map .. => true
  | _ => false
/-- Names no other block. -/
def plainO : SO → Bool
  | .arr .. | .map .. | .heap .. | .siter .. | .gone => true
  | _ => false
/-- The heap with these blocks at these addresses. -/
def updA (ρ : Rho) : List Nat → List SO → (Nat → Option Obj) → (Nat → Option Obj)
  | b :: A, o :: H, hs => fun b' => if b' = b then objOf ρ o else updA ρ A H hs b'
  | _, _, hs => hs
theorem updA_in (ρ : Rho) : ∀ (A : List Nat) (H : List SO) (hs : Nat → Option Obj), A.Nodup → ∀ (k : Nat) b o, A[k]? = some b → H[k]? = some o → updA ρ A H hs b = objOf ρ o
  | [], _, _, _, k, b, o, h, _ => by simp at h
  | _ :: _, [], _, _, k, b, o, _, h => by simp at h
  | a :: A, x :: H, hs, hn, 0, b, o, h1, h2 => by
    simp at h1 h2; subst h1 h2
    simp [updA]
  | a :: A, x :: H, hs, hn, k + 1, b, o, h1, h2 => by
    simp only [List.getElem?_cons_succ] at h1 h2
    have hn := List.nodup_cons.1 hn
    have : b ≠ a := fun e => hn.1 (e ▸ List.mem_of_getElem? h1)
    show (if b = a then objOf ρ x else updA ρ A H hs b) = objOf ρ o
    rw [if_neg this]
    exact updA_in ρ A H hs hn.2 k b o h1 h2
theorem updA_out (ρ : Rho) : ∀ (A : List Nat) (H : List SO) (hs : Nat → Option Obj) (b : Nat), b ∉ A → updA ρ A H hs b = hs b
  | [], _, _, _, _ => by simp [updA]
  | _ :: _, [], _, _, _ => by simp [updA]
  | a :: A, x :: H, hs, b, h => by
    simp only [List.mem_cons, not_or] at h
    show (if b = a then objOf ρ x else updA ρ A H hs b) = hs b
    rw [if_neg h.1]; exact updA_out ρ A H hs b h.2
theorem plain_entry {ρ ρ' : Rho} {w : World} {k k' : Nat} {so : SO} (hp : plainO so = true) (hr : ρ k = ρ' k') (h : entryOK ρ w k so) : entryOK ρ' w k' so := by
  cases so with
  | arr xs e => simp only [entryOK, hr] at h ⊢; exact h
  | map es c => simp only [entryOK, hr] at h ⊢; exact h
  | heap h' => exact h
  | siter s p => simp only [entryOK, hr] at h ⊢; exact h
  | gone => trivial
  | cells => cases hp
  | ro => cases hp
  | iter => cases hp
  | ghost => cases hp
theorem plain_ro {o : SO} (h : plainO o = true) (h2 : o.isRo = true) : False := by cases o <;> first | (cases h; done) | (cases h2; done)
theorem isCM_obj {ρ : Rho} {o : SO} (h : isCM o = true) : objOf ρ o ≠ none := by cases o <;> simp_all [isCM, objOf]
theorem isCM_claims {o : SO} {b : Nat} (h : isCM o = true) : ¬ o.claims b := by cases o <;> simp_all [isCM, SO.claims]
theorem isCM_owned {o : SO} (h : isCM o = true) : o.owned = true := by cases o <;> simp_all [isCM, SO.owned]
theorem isCM_entry {ρ : Rho} {w : World} {k : Nat} {o : SO} (h : isCM o = true) (he : entryOK ρ w k o) : ∃ b, ρ k = some b ∧ w.heap[b]? = objOf ρ o := by
  cases o <;> simp only [isCM] at h <;> first | (cases h; done) | (simp only [entryOK] at he; exact he)
theorem isCM_entry' {ρ : Rho} {w : World} {k b : Nat} {o : SO} (h : isCM o = true) (h1 : ρ k = some b) (h2 : w.heap[b]? = objOf ρ o) : entryOK ρ w k o := by
  cases o <;> simp only [isCM] at h <;> first | (cases h; done) | exact ⟨b, h1, h2⟩
theorem objOf_congr {ρ ρ' : Rho} {n : Nat} {o : SO} (hr : ∀ k, k < n → ρ' k = ρ k) (hs : ∀ l e, o = .cells l e → belowL n l = true) : objOf ρ' o = objOf ρ o := by
  cases o <;> simp only [objOf]
  rename_i l e
  rw [valL_congr hr l (hs l e rfl)]
theorem okH_cells {n : Nat} : ∀ {H : List SO}, okH n H = true → ∀ (k : Nat) l e, H[k]? = some (.cells l e) → belowL n l = true
  | [], _, k, l, e, hk => by simp at hk
  | o :: H, h, 0, l, e, hk => by
    simp at hk; subst hk
    simp only [okH, Bool.and_eq_true] at h; exact h.1
  | o :: H, h, k + 1, l, e, hk => by
    simp only [List.getElem?_cons_succ] at hk
    refine okH_cells (H := H) ?_ k l e hk
    cases o with
    | cells l e => simp only [okH, Bool.and_eq_true] at h; exact h.2
    | iter m s seen st => cases m <;> simp only [okH, Bool.and_eq_true] at h <;> first | exact h.2 | exact h
    | _ => simpa only [okH] using h
variable [Mode]

theorem ctr_open {P : Program} {f : FuncId} {as' args : List SV} {Ho G : List SO} {Post Post' : SV → List SO → Prop} (hc : Ctr P f as' (Ho ++ G) Post) (A : List Nat) (hs : Nat → Option Obj)
    (hA : A.length = Ho.length) (hnd : A.Nodup) (hcm : ∀ o ∈ Ho, isCM o = true) (hok : okH Ho.length Ho = true) (hG : ∀ o ∈ G, plainO o = true)
    (hobj : ∀ (k : Nat) b o, A[k]? = some b → Ho[k]? = some o → hs b = objOf (fun i => A[i]?) o)
    (hargs : ∀ ρ ρ' : Rho, (∀ k, k < Ho.length → ρ k = A[k]?) → (∀ k, ρ (Ho.length + k) = ρ' (k + 1)) → valL ρ as' = valL ρ' args)
    (hbel : belowL (1 + G.length) args = true → belowL (Ho.length + G.length) as' = true)
    (hpost : ∀ v0 H0, Post v0 H0 → ∃ Ho' R v, H0 = Ho' ++ R ∧ Ho'.length = Ho.length ∧ (∀ o ∈ Ho', isCM o = true) ∧ okH Ho.length Ho' = true ∧ (∀ o ∈ R, plainO o = true) ∧
      (∀ ρ ρ' : Rho, (∀ k, k < Ho.length → ρ k = A[k]?) → (∀ k, ρ (Ho.length + k) = ρ' (k + 1)) → val ρ v0 = val ρ' v) ∧
      (below (Ho.length + R.length) v0 = true → below (1 + R.length) v = true) ∧ Post' v (.heap (updA (fun i => A[i]?) A Ho' hs) :: R)) :
    Ctr P f args (.heap hs :: G) Post' := by
  intro ρ g w hS hb
  obtain ⟨n, hn⟩ : ∃ n, n = Ho.length := ⟨_, rfl⟩
  obtain ⟨ρ0, r0, r1⟩ : ∃ ρ0 : Rho, (∀ k, k < n → ρ0 k = A[k]?) ∧ (∀ k, ρ0 (n + k) = ρ (k + 1)) :=
    ⟨fun k => if k < n then A[k]? else ρ (k - n + 1), fun k hk => if_pos hk, fun k => by
      show (if n + k < n then A[n + k]? else ρ (n + k - n + 1)) = _
      rw [if_neg (by omega)]; congr 1; omega⟩
  have hheap := hS.ent 0 _ rfl
  have hgs : ∀ b, hs b ≠ none → g.f b = none := fun b hb => hS.hpf 0 hs b rfl hb
  have gC : ∀ (j : Nat) o, G[j]? = some o → (SO.heap hs :: G)[j + 1]? = some o := fun j o hj => by simpa using hj
  have split : ∀ (k : Nat) o, (Ho ++ G)[k]? = some o → (k < n ∧ Ho[k]? = some o) ∨ ∃ j, k = n + j ∧ G[j]? = some o := by
    intro k o hk
    by_cases h : k < n
    · rw [List.getElem?_append_left (by omega)] at hk; exact .inl ⟨h, hk⟩
    · rw [List.getElem?_append_right (by omega)] at hk
      exact .inr ⟨k - n, by omega, by rw [hn]; exact hk⟩
  have addr : ∀ (k : Nat) o, Ho[k]? = some o → ∃ b, A[k]? = some b ∧ hs b = objOf (fun i => A[i]?) o ∧ hs b ≠ none := by
    intro k o hk
    have hk1 : k < A.length := by rw [hA]; exact (List.getElem?_eq_some_iff.1 hk).1
    have hb := List.getElem?_eq_getElem hk1
    refine ⟨_, hb, hobj k _ o hb hk, ?_⟩
    rw [hobj k _ o hb hk]
    exact isCM_obj (hcm o (List.mem_of_getElem? hk))
  obtain ⟨g', ga, gb, gfs, gfn, gfo, genv⟩ : ∃ g' : Fr, (∀ b o, g.f b = some o → g'.f b = some o) ∧ (∀ b o, hs b = some o → b ∉ A → g'.f b = some o) ∧
      (∀ b o, g'.f b = some o → g.f b = some o ∨ (b ∉ A ∧ hs b = some o)) ∧ (∀ b, hs b ≠ none → b ∈ A → g'.f b = none) ∧ (∀ b, g.f b = none → hs b = none → g'.f b = none) ∧
      (∀ w : World, (w.os = g.os ∧ w.tape = g.tape ∧ w.output = g.out ∧ DrOK g w.drawn) ↔ (w.os = g'.os ∧ w.tape = g'.tape ∧ w.output = g'.out ∧ DrOK g' w.drawn)) := by
    refine ⟨⟨fun b => match g.f b with | some o => some o | none => if b ∈ A then none else hs b, g.os, g.tape, g.out, g.dr⟩, ?_, ?_, ?_, ?_, ?_, fun w => Iff.rfl⟩
    · intro b o h; simp only; rw [h]
    · intro b o h hb; simp only; rw [hgs b (by rw [h]; simp)]; simp [hb, h]
    · intro b o h
      simp only at h
      cases hg : g.f b with
      | some o' => rw [hg] at h; exact .inl h
      | none =>
        rw [hg] at h
        simp only at h
        split at h
        · cases h
        · rename_i hn; exact .inr ⟨hn, h⟩
    · intro b h1 h2; simp only; rw [hgs b h1]; simp [h2]
    · intro b h1 h2; simp only; rw [h1]; simp [h2]
  have hSo : St ρ0 (Ho ++ G) g' w := by
    constructor
    · intro k so hk
      (have q9 := split k so hk; clear hk; rcases q9 with ⟨hkn, hk⟩ | ⟨j, rfl, hj⟩)
      · obtain ⟨b, hb1, hb2, hb3⟩ := addr k so hk
        refine isCM_entry' (hcm so (List.mem_of_getElem? hk)) (by rw [r0 k hkn]; exact hb1) ?_
        obtain ⟨o, ho⟩ := Option.ne_none_iff_exists'.1 hb3
        rw [hheap b o ho, ← ho, hb2]
        exact (objOf_congr (n := n) (fun i hi => r0 i hi) (fun l e h => by rw [hn]; exact okH_cells hok k l e (h ▸ hk))).symm
      · exact plain_entry (hG so (List.mem_of_getElem? hj)) (r1 j).symm (hS.ent (j + 1) so (gC j so hj))
    · intro i j si sj b hij hi hj hoi hoj hr
      (have q9 := split i si hi; clear hi; rcases q9 with ⟨hin, hi⟩ | ⟨i', rfl, hi⟩) <;> (have q9 := split j sj hj; clear hj; rcases q9 with ⟨hjn, hj⟩ | ⟨j', rfl, hj⟩)
      · rw [r0 i hin] at hr; rw [r0 j hjn]
        intro e
        have h1 := List.getElem?_eq_some_iff.1 hr
        have h2 := List.getElem?_eq_some_iff.1 e
        exact hij ((List.getElem_inj hnd).1 (h1.2.trans h2.2.symm))
      · obtain ⟨b', hb1, hb2, hb3⟩ := addr i si hi
        rw [r0 i hin, hb1] at hr; cases hr
        rw [r1]
        exact hS.hpo 0 (j' + 1) hs b sj rfl hb3 (gC j' sj hj) hoj
      · obtain ⟨b', hb1, hb2, hb3⟩ := addr j sj hj
        rw [r0 j hjn, hb1]
        intro e; cases e
        rw [r1] at hr
        exact hS.hpo 0 (i' + 1) hs b si rfl hb3 (gC i' si hi) (.inl hoi) hr
      · rw [r1] at hr ⊢
        exact hS.dis (i' + 1) (j' + 1) si sj b (by omega) (gC _ _ hi) (gC _ _ hj) hoi hoj hr
    · intro i j si h b hi ho hj hr
      (have q9 := split j _ hj; clear hj; rcases q9 with ⟨hjn, hj⟩ | ⟨j', rfl, hj⟩)
      · have := hcm _ (List.mem_of_getElem? hj); cases this
      · have := hG _ (List.mem_of_getElem? hj); cases this
    · exact (genv w).1 hS.env
    · intro b o h
      rcases gfs b o h with h | ⟨_, h⟩
      · exact hS.frm b o h
      · exact hheap b o h
    · intro i si b hi ho hr
      (have q9 := split i si hi; clear hi; rcases q9 with ⟨hin, hi⟩ | ⟨i', rfl, hi⟩)
      · obtain ⟨b', hb1, hb2, hb3⟩ := addr i si hi
        rw [r0 i hin, hb1] at hr; cases hr
        exact gfn b hb3 (List.mem_of_getElem? hb1)
      · rw [r1] at hr
        refine gfo b (hS.frd (i' + 1) si b (gC _ _ hi) ho hr) ?_
        cases hh : hs b with
        | none => rfl
        | some o => exact absurd hr (hS.hpo 0 (i' + 1) hs b si rfl (by rw [hh]; simp) (gC _ _ hi) (.inl ho))
    · intro k l e hk
      (have q9 := split k _ hk; clear hk; rcases q9 with ⟨hkn, hk⟩ | ⟨j, rfl, hj⟩)
      · have := okH_cells hok k l e hk
        exact belowL_mono (by rw [List.length_append]; omega) l this
      · have := hG _ (List.mem_of_getElem? hj); cases this
    · intro k m s seen st hk
      (have q9 := split k _ hk; clear hk; rcases q9 with ⟨hkn, hk⟩ | ⟨j, rfl, hj⟩)
      · have := hcm _ (List.mem_of_getElem? hk); cases this
      · have := hG _ (List.mem_of_getElem? hj); cases this
    · intro j h b hj hne
      (have q9 := split j _ hj; clear hj; rcases q9 with ⟨hjn, hj⟩ | ⟨j', rfl, hj⟩)
      · have := hcm _ (List.mem_of_getElem? hj); cases this
      · refine gfo b (hS.hpf (j' + 1) h b (gC _ _ hj) hne) ?_
        cases hh : hs b with
        | none => rfl
        | some o => exact absurd (show SO.claims (.heap h) b from hne) (hS.hpc 0 (j' + 1) hs b _ rfl (by rw [hh]; simp) (by omega) (gC _ _ hj))
    · intro j i h b si hj hne hi ho
      (have q9 := split j _ hj; clear hj; rcases q9 with ⟨hjn, hj⟩ | ⟨j', rfl, hj⟩)
      · have := hcm _ (List.mem_of_getElem? hj); cases this
      · (have q9 := split i si hi; clear hi; rcases q9 with ⟨hin, hi⟩ | ⟨i', rfl, hi⟩)
        · obtain ⟨b', hb1, hb2, hb3⟩ := addr i si hi
          rw [r0 i hin, hb1]
          intro e; cases e
          exact absurd (show SO.claims (.heap h) b from hne) (hS.hpc 0 (j' + 1) hs b _ rfl hb3 (by omega) (gC _ _ hj))
        · rw [r1]
          exact hS.hpo (j' + 1) (i' + 1) h b si (gC _ _ hj) hne (gC _ _ hi) ho
    · intro j i h b si hj hne hij hi
      (have q9 := split j _ hj; clear hj; rcases q9 with ⟨hjn, hj⟩ | ⟨j', rfl, hj⟩)
      · have := hcm _ (List.mem_of_getElem? hj); cases this
      · (have q9 := split i si hi; clear hi; rcases q9 with ⟨hin, hi⟩ | ⟨i', rfl, hi⟩)
        · exact isCM_claims (hcm _ (List.mem_of_getElem? hi))
        · exact hS.hpc (j' + 1) (i' + 1) h b si (gC _ _ hj) hne (by omega) (gC _ _ hi)
  have hbA : belowL (Ho ++ G).length as' = true := by
    rw [List.length_append]
    refine hbel ?_
    rw [List.length_cons, Nat.add_comm] at hb; exact hb
  have hval : valL ρ0 as' = valL ρ args := hargs ρ0 ρ (fun k hk => r0 k (by omega)) (fun k => by rw [← hn]; exact r1 k)
  have hcall := hc ρ0 g' w hSo hbA
  rw [hval] at hcall
  refine Calls.mono hcall ?_
  rintro e w' ⟨ρ1, v0, H0, rfl, hS1, hr1, hl1, hb1, hP⟩
  obtain ⟨Ho', R, v, rfl, hlen, hcm', hok', hR, hval', hbel', hP'⟩ := hpost v0 H0 hP
  have hlA : (Ho ++ G).length = n + G.length := by rw [List.length_append, hn]
  obtain ⟨ρ2, q2, q1⟩ : ∃ ρ2 : Rho, ρ2 0 = ρ 0 ∧ ∀ k, ρ2 (k + 1) = ρ1 (n + k) := ⟨fun k => if k = 0 then ρ 0 else ρ1 (n + (k - 1)), rfl, fun k => rfl⟩
  have q0 : ∀ k, k < n → ρ1 k = A[k]? := fun k hk => by rw [hr1 k (by omega), r0 k hk]
  have rN : ∀ (j : Nat) o, R[j]? = some o → (Ho' ++ R)[n + j]? = some o := fun j o hj => by
    rw [List.getElem?_append_right (by omega), hlen, ← hn, Nat.add_sub_cancel_left]; exact hj
  have hN : ∀ (j : Nat) o, Ho'[j]? = some o → (Ho' ++ R)[j]? = some o := fun j o hj => by
    rw [List.getElem?_append_left (List.getElem?_eq_some_iff.1 hj).1]; exact hj
  have hsA : ∀ b, b ∈ A → ∃ (k : Nat) (o : SO), k < n ∧ A[k]? = some b ∧ Ho'[k]? = some o ∧ ρ1 k = some b ∧ w'.heap[b]? = updA (fun i => A[i]?) A Ho' hs b ∧ hs b ≠ none := by
    intro b hbm
    obtain ⟨k, hk, rfl⟩ := List.mem_iff_getElem.1 hbm
    have hkn : k < n := by omega
    have hko : k < Ho'.length := by omega
    have e1 := List.getElem?_eq_getElem hk
    have e2 := List.getElem?_eq_getElem hko
    refine ⟨k, _, hkn, e1, e2, by rw [q0 k hkn]; exact e1, ?_, ?_⟩
    · obtain ⟨b', h1, h2⟩ := isCM_entry (hcm' _ (List.mem_of_getElem? e2)) (hS1.ent k _ (hN k _ e2))
      rw [q0 k hkn, e1] at h1
      cases h1
      rw [h2, updA_in (fun i => A[i]?) A Ho' hs hnd k _ _ e1 e2]
      exact objOf_congr (n := n) (fun i hi => q0 i hi) (fun l e h => by rw [hn]; exact okH_cells hok' k l e (h ▸ e2))
    · obtain ⟨b', h1, _, h3⟩ := addr k _ (List.getElem?_eq_getElem (show k < Ho.length by omega))
      rw [e1] at h1; cases h1; exact h3
  have hsN : ∀ b, updA (fun i => A[i]?) A Ho' hs b ≠ none → hs b ≠ none := by
    intro b h
    by_cases hbm : b ∈ A
    · obtain ⟨_, _, _, _, _, _, _, h7⟩ := hsA b hbm; exact h7
    · rw [updA_out _ _ _ _ _ hbm] at h; exact h
  have splitC : ∀ (k : Nat) o, (SO.heap (updA (fun i => A[i]?) A Ho' hs) :: R)[k]? = some o → (k = 0 ∧ o = SO.heap (updA (fun i => A[i]?) A Ho' hs)) ∨ ∃ j, k = j + 1 ∧ R[j]? = some o := by
    intro k o hk
    cases k with
    | zero => simp at hk; exact .inl ⟨rfl, hk.symm⟩
    | succ k => exact .inr ⟨k, rfl, by simpa using hk⟩
  -- an address of the heap is no row's of the others
  have apart : ∀ b, hs b ≠ none → ∀ (i : Nat) si, R[i]? = some si → (si.owned = true ∨ si.isRo = true) → ρ1 (n + i) ≠ some b := by
    intro b hne i si hi ho hr
    have hoo : si.owned = true := by
      rcases ho with h | h
      · exact h
      · exact (plain_ro (hR si (List.mem_of_getElem? hi)) h).elim
    by_cases hbm : b ∈ A
    · obtain ⟨k, o, h1, h2, h3, h4, h5, h6⟩ := hsA b hbm
      exact hS1.dis k (n + i) o si b (by omega) (hN k o h3) (rN i si hi) (isCM_owned (hcm' o (List.mem_of_getElem? h3))) (.inl hoo) h4 hr
    · have := hS1.frd (n + i) si b (rN i si hi) hoo hr
      obtain ⟨o, ho⟩ := Option.ne_none_iff_exists'.1 hne
      have h9 : g'.f b = some o := gb b o ho hbm
      rw [h9] at this; cases this
  refine ⟨ρ2, v, _, by rw [hval' ρ1 ρ2 (fun k hk => q0 k (by omega)) (fun k => by rw [← hn]; exact (q1 k).symm)], ?_, ?_, ?_, ?_, hP'⟩
  · constructor
    · intro k so hk
      (have q9 := splitC k so hk; clear hk; rcases q9 with ⟨rfl, rfl⟩ | ⟨j, rfl, hj⟩)
      · intro b o hbo
        by_cases hbm : b ∈ A
        · obtain ⟨_, _, _, _, _, _, h6, _⟩ := hsA b hbm
          rw [h6]; exact hbo
        · rw [updA_out _ _ _ _ _ hbm] at hbo
          exact hS1.frm b o (gb b o hbo hbm)
      · exact plain_entry (hR so (List.mem_of_getElem? hj)) (q1 j).symm (hS1.ent (n + j) so (rN j so hj))
    · intro i j si sj b hij hi hj hoi hoj hr
      (have q9 := splitC i si hi; clear hi; rcases q9 with ⟨rfl, rfl⟩ | ⟨i', rfl, hi⟩)
      · cases hoi
      (have q9 := splitC j sj hj; clear hj; rcases q9 with ⟨rfl, rfl⟩ | ⟨j', rfl, hj⟩)
      · rcases hoj with h | h <;> cases h
      rw [q1] at hr ⊢
      exact hS1.dis (n + i') (n + j') si sj b (by omega) (rN _ _ hi) (rN _ _ hj) hoi hoj hr
    · intro i j si h b hi ho hj hr
      (have q9 := splitC j _ hj; clear hj; rcases q9 with ⟨_, h⟩ | ⟨j', rfl, hj⟩)
      · cases h
      · have := hR _ (List.mem_of_getElem? hj); cases this
    · exact (genv w').2 hS1.env
    · intro b o h
      exact hS1.frm b o (ga b o h)
    · intro i si b hi ho hr
      (have q9 := splitC i si hi; clear hi; rcases q9 with ⟨rfl, rfl⟩ | ⟨i', rfl, hi⟩)
      · cases ho
      rw [q1] at hr
      have := hS1.frd (n + i') si b (rN _ _ hi) ho hr
      cases hg : g.f b with
      | none => rfl
      | some o => rw [ga b o hg] at this; cases this
    · intro k l e hk
      (have q9 := splitC k _ hk; clear hk; rcases q9 with ⟨_, h⟩ | ⟨j', rfl, hj⟩)
      · cases h
      · have := hR _ (List.mem_of_getElem? hj); cases this
    · intro k m s seen st hk
      (have q9 := splitC k _ hk; clear hk; rcases q9 with ⟨_, h⟩ | ⟨j', rfl, hj⟩)
      · cases h
      · have := hR _ (List.mem_of_getElem? hj); cases this
    · intro j h b hj hne
      (have q9 := splitC j _ hj; clear hj; rcases q9 with ⟨rfl, h9⟩ | ⟨j', rfl, hj⟩)
      · cases h9; exact hgs b (hsN b hne)
      · have := hS1.hpf (n + j') h b (rN _ _ hj) hne
        cases hg : g.f b with
        | none => rfl
        | some o => rw [ga b o hg] at this; cases this
    · intro j i h b si hj hne hi ho
      (have q9 := splitC i si hi; clear hi; rcases q9 with ⟨rfl, rfl⟩ | ⟨i', rfl, hi⟩)
      · rcases ho with h | h <;> cases h
      rw [q1]
      (have q9 := splitC j _ hj; clear hj; rcases q9 with ⟨rfl, h9⟩ | ⟨j', rfl, hj⟩)
      · cases h9; exact apart b (hsN b hne) i' si hi ho
      · exact hS1.hpo (n + j') (n + i') h b si (rN _ _ hj) hne (rN _ _ hi) ho
    · intro j i h b si hj hne hij hi
      -- two heaps
      have two : ∀ (h2 : Nat → Option Obj) (j' : Nat), R[j']? = some (SO.heap h2) → h2 b ≠ none → hs b ≠ none → False := by
        intro h2 j' hj hne2 hne3
        by_cases hbm : b ∈ A
        · obtain ⟨k, o, h1, h2', h3, h4, h5, h6⟩ := hsA b hbm
          exact hS1.hpo (n + j') k h2 b o (rN _ _ hj) hne2 (hN k o h3) (.inl (isCM_owned (hcm' o (List.mem_of_getElem? h3)))) h4
        · have := hS1.hpf (n + j') h2 b (rN _ _ hj) hne2
          obtain ⟨o, ho⟩ := Option.ne_none_iff_exists'.1 hne3
          have h9 : g'.f b = some o := gb b o ho hbm
          rw [h9] at this; cases this
      (have q9 := splitC j _ hj; clear hj; rcases q9 with ⟨rfl, h9⟩ | ⟨j', rfl, hj⟩)
      · cases h9
        (have q9 := splitC i si hi; clear hi; rcases q9 with ⟨rfl, rfl⟩ | ⟨i', rfl, hi⟩)
        · exact absurd rfl hij
        · intro hcl
          have hpl := hR si (List.mem_of_getElem? hi)
          cases si <;> simp only [SO.claims, plainO] at hcl hpl <;> first | exact hcl | (cases hpl; done) | exact two _ i' hi hcl (hsN b hne)
      · (have q9 := splitC i si hi; clear hi; rcases q9 with ⟨rfl, rfl⟩ | ⟨i', rfl, hi⟩)
        · intro hcl
          exact two h j' hj hne (hsN b hcl)
        · exact hS1.hpc (n + j') (n + i') h b si (rN _ _ hj) hne (by omega) (rN _ _ hi)
  · intro k hk
    cases k with
    | zero => exact q2
    | succ k =>
      have hk : k < G.length := by simpa using hk
      rw [q1, hr1 (n + k) (by omega), r1]
  · rw [List.length_append, List.length_append] at hl1
    simp only [List.length_cons]; omega
  · rw [List.length_append, hlen] at hb1
    have := hbel' hb1
    rw [List.length_cons, Nat.add_comm]; exact this
/-- An empty heap may be had for nothing. -/
theorem ctr_heap0 {P : Program} {f : FuncId} {args : List SV} {H : List SO} {Post : SV → List SO → Prop} (hc : Ctr P f args (H ++ [.heap fun _ => none]) Post) : Ctr P f args H Post := by
  intro ρ g w hS hbl
  have hn : ∀ (k : Nat) o, (H ++ [SO.heap fun _ => none])[k]? = some o → H[k]? = some o ∨ (k = H.length ∧ o = SO.heap fun _ => none) := by
    intro k o hk
    by_cases h : k < H.length
    · rw [List.getElem?_append_left h] at hk; exact .inl hk
    · rw [List.getElem?_append_right (by omega)] at hk
      right
      have hk0 : k - H.length = 0 := by
        cases hq : k - H.length with
        | zero => rfl
        | succ m => rw [hq] at hk; simp at hk
      rw [hk0] at hk
      exact ⟨by omega, by simpa using hk.symm⟩
  have hS' : St ρ (H ++ [SO.heap fun _ => none]) g w := by
    constructor
    · intro k so hk
      rcases hn k so hk with h | ⟨_, rfl⟩
      · exact hS.ent k so h
      · intro b o h; cases h
    · intro i j si sj b hij hi hj hoi hoj hr
      rcases hn i si hi with hi | ⟨_, rfl⟩
      · rcases hn j sj hj with hj | ⟨_, rfl⟩
        · exact hS.dis i j si sj b hij hi hj hoi hoj hr
        · rcases hoj with h | h <;> cases h
      · cases hoi
    · intro i j si h b hi ho hj hr
      rcases hn i si hi with hi | ⟨_, rfl⟩
      · rcases hn j _ hj with hj | ⟨_, h⟩
        · exact hS.gho i j si h b hi ho hj hr
        · cases h
      · cases ho
    · exact hS.env
    · exact hS.frm
    · intro i si b hi ho hr
      rcases hn i si hi with hi | ⟨_, rfl⟩
      · exact hS.frd i si b hi ho hr
      · cases ho
    · intro k l e hk
      rcases hn k _ hk with hk | ⟨_, h⟩
      · exact belowL_mono (by simp) l (hS.scp k l e hk)
      · cases h
    · intro k m s seen st hk
      rcases hn k _ hk with hk | ⟨_, h⟩
      · have := hS.sci k m s seen st hk; simp; omega
      · cases h
    · intro j h b hj hne
      rcases hn j _ hj with hj | ⟨_, h⟩
      · exact hS.hpf j h b hj hne
      · cases h; exact absurd rfl hne
    · intro j i h b si hj hne hi ho
      rcases hn i si hi with hi | ⟨_, rfl⟩
      · rcases hn j _ hj with hj | ⟨_, h⟩
        · exact hS.hpo j i h b si hj hne hi ho
        · cases h; exact absurd rfl hne
      · rcases ho with h | h <;> cases h
    · intro j i h b si hj hne hij hi
      rcases hn j _ hj with hj | ⟨_, h⟩
      · rcases hn i si hi with hi | ⟨_, rfl⟩
        · exact hS.hpc j i h b si hj hne hij hi
        · intro hcl; exact hcl rfl
      · cases h; exact absurd rfl hne
  refine Calls.mono (hc ρ g w hS' (belowL_mono (by simp) args hbl)) ?_
  rintro e w' ⟨ρ', v, H', h1, h2, h3, h4, h5, h6⟩
  exact ⟨ρ', v, H', h1, h2, fun k hk => h3 k (by simp; omega), by simp at h4; omega, h5, h6⟩
end Go.V

namespace Go.V
open Go Go.Proofs
set_option linter.unusedSectionVars false
variable [Mode]

/-! ### slices.SortFunc at texts, by the library's law -/
section
variable {P : Program} {α : Type}
abbrev bcl (b : ByteArray) : List Value := [.string b]
omit [Mode] in
theorem putCells_map {α : Type} [Inhabited α] (enc : α → Value) (off : Nat) (m : List α) (c : Array Value) : Sort.putCells enc off m.toArray c = Sort.putCells id off (m.map enc).toArray c := by
  unfold Sort.putCells
  apply Array.ext_getElem?
  intro i
  simp only [Array.getElem?_mapIdx, List.size_toArray, List.length_map, id]
  cases hc : c[i]? with
  | none => rfl
  | some x =>
    simp only [Option.map_some]
    by_cases h : off ≤ i ∧ i < off + m.length
    · rw [if_pos h, if_pos h]
      have h1 : i - off < m.length := by omega
      rw [getElem!_pos m.toArray (i - off) (by simpa using h1), getElem!_pos (m.map enc).toArray (i - off) (by simpa using h1)]
      simp
    · rw [if_neg h, if_neg h]
theorem sort1_ctr [Inhabited α] {r : Shelf.Ren} (L : SlLaysF.n6 P r) (L0 : ∀ (p : Option Addr) (cap : Nat) (fv : Value) (w : World), Calls P (r.f 6) #[.slice p 0 cap, fv] w fun e w' => e = .returned (.tuple #[]) ∧ w' = w) (enc : α → Value) (h1 : OneCell enc) (hpl : ∀ x, plain (.raw (enc x)) = some (enc x)) (cf : α → α → Int) (hO : Sort.SWO (ltOf cf)) {gq : FuncId} (he : enters P gq = true)
    (hcmp : ∀ x y, @Ctr strictM P gq [.raw (enc x), .raw (enc y)] [] (fun v _ => v = .raw (.int .i64 (cf x y))))
    {H : List SO} {j off cap : Nat} {xs : List Value} {e : TypeId} (hj : H[j]? = some (.arr xs e)) (d : List α) (hd : (xs.drop off).take d.length = d.map enc) (hlen : off + d.length ≤ xs.length) (hsz : d.length < 4611686018427387904) :
    Ctr P (r.f 6) [.sl j off d.length cap, .fn gq []] H (fun v H' => v = .tup [] ∧ ∃ d' : List α, d'.Perm d ∧ d'.Pairwise (fun a b => ltOf cf b a = false) ∧ H' = H.set j (.arr (rowSet xs off (d'.map enc)) e)) := by
  intro ρ g w hS hb
  have hjl := (List.getElem?_eq_some_iff.1 hj).1
  have hent := hS.ent j _ hj
  simp only [valL, V.val]
  rcases hent with ⟨hn, hx⟩ | ⟨b, fr, hρ, hwb, hfr⟩
  · subst hx
    have hd0 : d = [] := by
      cases d with
      | nil => rfl
      | cons x d => simp at hlen
    subst hd0
    refine Calls.mono (L0 _ _ _ w) ?_
    rintro e' w' ⟨rfl, rfl⟩
    refine ⟨ρ, .tup [], H, rfl, hS, fun _ _ => rfl, Nat.le_refl _, rfl, rfl, [], List.Perm.refl _, List.Pairwise.nil, ?_⟩
    have : rowSet [] off (([] : List α).map enc) = [] := by simp [rowSet]
    rw [this]
    apply List.ext_getElem?
    intro i
    by_cases hij : j = i
    · subst hij; rw [List.getElem?_set_self hjl, hj]
    · simp [hij]
  · have hHold : Sort.Holds enc w b off d.toArray := by
      intro i hi
      have hi : i < d.length := by simpa using hi
      have hg : xs[off + i]? = some (enc d.toArray[i]!) := by
        have h3 : ((xs.drop off).take d.length)[i]? = (d.map enc)[i]? := by rw [hd]
        rw [List.getElem?_take_of_lt hi, List.getElem?_drop] at h3
        rw [h3, List.getElem?_map, List.getElem?_eq_getElem hi, getElem!_pos d.toArray i (by simpa using hi)]
        simp
      constructor
      · rw [cell_of hwb]; simpa using hg
      · have := (List.getElem?_eq_some_iff.1 hg).1
        simp only [World.frozen?, hwb]
        rcases hfr with h5 | h5
        · simp; omega
        · simp; omega
    have hblk : b < w.heap.size := (Array.getElem?_eq_some_iff.1 hwb).1
    rw [show (ρ j).map (fun b => (⟨b, off, none⟩ : Addr)) = some ⟨b, off, none⟩ by rw [hρ]; rfl]
    refine Calls.mono (Any.slices_SortFunc L enc h1 cf hO gq #[] b off cap d.toArray w (fun args w => run_enters he args) ?_ hHold hblk (by simpa using hsz)) ?_
    · intro m os dk _ x y
      exact ctr_grows (hcmp x y) _ (by simp [belowL, below]) (by simp [valL, V.val]) (r := .int .i64 (cf x y)) (by rintro v H ρ' rfl; rfl)
    · rintro e' w' ⟨rfl, d', n, os, hp, hso, rfl⟩
      obtain ⟨hp1, hp2, hp3⟩ := hp
      have hds : d'.size = d.length := by simpa using hp1
      have hperm : d'.toList.Perm d := by
        have e1 : d'.extract 0 d.toArray.size = d' := by rw [List.size_toArray, ← hds]; exact array_extract_all d'
        have e2 : d.toArray.extract 0 d.toArray.size = d.toArray := array_extract_all _
        rw [e1, e2] at hp3
        simpa using hp3
      refine ⟨ρ, .tup [], H.set j (.arr (rowSet xs off (d'.toList.map enc)) e), rfl, ?_, fun _ _ => rfl, by simp, rfl, rfl, d'.toList, hperm, ?_, rfl⟩
      · have hw1 : HeapIs w (Sort.putRow enc (Sort.ahead w n) b off d') (w.heap.setIfInBounds b (.cells (rowSet xs off (d'.toList.map enc)).toArray e fr)) := by
          refine ⟨?_, rfl, rfl, rfl, Nat.le_add_right _ _⟩
          simp only [Sort.putRow, Sort.mapBlock, Sort.ahead]
          apply Array.ext_getElem?
          intro i
          by_cases hi : b = i
          · subst hi
            rw [Array.getElem?_modify, if_pos rfl, hwb]
            simp only [Option.map_some, Sort.onCells, Array.getElem?_setIfInBounds, if_pos hblk]
            rw [show d' = d'.toList.toArray by simp, putCells_map, putCells_rowSet (by simp; omega)]; simp
          · rw [Array.getElem?_modify, if_neg hi, Array.getElem?_setIfInBounds_ne hi]
        have hS1 := hS.set (so' := .arr (rowSet xs off (d'.toList.map enc)) e) hj rfl rfl hρ hw1
          (.inr ⟨b, fr, hρ, by rw [hw1.1]; simp [hblk], by rw [rowSet_len (by simp; omega)]; exact hfr⟩) (by simp) (by simp)
        exact hS1.grow (os := os) ⟨rfl, rfl, rfl, rfl, Nat.le_refl _⟩
      · rw [List.pairwise_iff_getElem]
        intro i i' hi hi' hlt
        have := hso i i' (Nat.zero_le _) hlt (by simp at hi'; simpa [← hds] using hi')
        simp only [Array.length_toList] at hi hi'
        rw [getElem!_pos d' _ hi', getElem!_pos d' _ hi] at this
        simpa using this
end
/-! ### strings.Compare -/
theorem compare_ctr {P : Program} {ρ : Shelf.Ren} (L : Lays.n106 P ρ) (a b : ByteArray) : Ctr P (ρ.f 106) [.raw (.string a), .raw (.string b)] [] (fun x H => x = .raw (.int .i64 (Lib.compareBytes a.data.toList b.data.toList)) ∧ H = []) :=
  ctr_same [.raw (.string a), .raw (.string b)] [] (.int .i64 (Lib.compareBytes a.data.toList b.data.toList)) fun ρ' w => Any.strings_Compare L a b w
end Go.V

