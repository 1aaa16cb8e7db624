/- Part of the proof that the statement named in the last file holds: lemmas of the prover's own. No conditions. -/
import Derived.Test.YtbeogbniojlddaaGreatDoorVC
import Derived.RangeFuncSeq
import Derived.RangeFuncLeaves
import Derived.Shelf.SlSortCmp.NoneTotal
import Derived.Below
import Derived.ProofKit
import Derived.Deep.SlicePairs
import Derived.Lib.SmallJoins
import Derived.Shelf.Unicode.PredsPay
import Derived.Shelf.Strings.Builder1
import Derived.Shelf.Sort.Plain
import Derived.Shelf.Slices.In.SortNone
namespace Go.V
open Go
set_option linter.unusedSectionVars false
variable [Mode]

section
variable {P : Program} {ρ : Rho} {H : List SO} {g : Fr} {w : World} {t : List SV} {a : Act} {ops : Array Oper} {Q : Exit → Act → World → Prop}

/-- A fence that asks nothing. -/
def Asks0 (F : Fence) : Prop := (∀ f, F.fn f) ∧ F.depth = none
theorem asks0_wide : Asks0 Fence.wide := ⟨fun _ => trivial, rfl⟩
theorem asks0_round (l : Nat) : Asks0 (Fence.wide.inRound l) := ⟨fun _ => trivial, rfl⟩

theorem callsIn0 {F : Fence} (hF : F = Fence.wide ∨ ∃ l, F = Fence.wide.inRound l) {n : Nat} {f : FuncId} {args : Array Value} {R : Ending → World → Prop} (h : Calls P f args w R) : CallsIn F n P f args w R := by
  rcases hF with rfl | ⟨l, rfl⟩
  · exact callsIn_wide.2 h
  · exact (callsIn_wide (n := n)).2 h
theorem asks0_of {F : Fence} (hF : F = Fence.wide ∨ ∃ l, F = Fence.wide.inRound l) : Asks0 F := by
  rcases hF with rfl | ⟨l, rfl⟩
  · exact asks0_wide
  · exact asks0_round l

/-- 'Nxt' with deferred calls kept. -/
def NxtD (dd : List Deferred) (P : Program) (ρ : Rho) (H : List SO) (g : Fr) (K : List SV → List SO → Prop) (a' : Act) (w' : World) : Prop :=
  ∃ ρ' t' H', At P ρ' H' g w' t' a' ∧ a'.defers = dd ∧ (∀ k, k < H.length → ρ' k = ρ k) ∧ H.length ≤ H'.length ∧ K t' H'
theorem Res.nextD {dd : List Deferred} {K : List SV → List SO → Prop} (h : At P ρ H g w t a) (hd : a.defers = dd) {d : Option Nat} {v : Value} {w' : World} (hr : Res ρ H g (fun sv H' => K (put t d sv) H') v w') : NxtD dd P ρ H g K (a.put d v) w' := by
  obtain ⟨ρ', sv, H', rfl, hS, hρ, hl, hb, hk⟩ := hr
  refine ⟨ρ', put t d sv, H', ⟨(h.f.ext hρ h.b).put d sv, belowL_put (belowL_mono hl t h.b) d hb, hS⟩, ?_, hρ, hl, hk⟩
  cases d <;> exact hd
theorem NxtD.here {dd : List Deferred} {K : List SV → List SO → Prop} (h : At P ρ H g w t a) (hd : a.defers = dd) (d : Option Nat) {sv : SV} (hb : below H.length sv = true) (hk : K (put t d sv) H) : NxtD dd P ρ H g K (a.put d (val ρ sv)) w :=
  (Res.here (K := fun sv H' => K (put t d sv) H') h.s hb hk).nextD h hd

theorem wpIn_of_good {F : Fence} (hF : F = Fence.wide ∨ ∃ l, F = Fence.wide.inRound l) {n : Nat} {dd : List Deferred} {K : List SV → List SO → Prop} (h : At P ρ H g w t a) (hd : a.defers = dd) {o : Oper} (hnd : ∀ c, o.op ≠ .defer c)
    (hg : GoodRes P ρ H g (fun sv H' => K (put t o.dst sv) H') ((execOp a.eval o).run P w)) : o.wpIn F n P a w (NxtD dd P ρ H g K) Q := by
  obtain ⟨hf, hdep⟩ := asks0_of hF
  refine ⟨fun f _ => hf f, ?_⟩
  rw [Oper.semAt_eq _ _ _ hnd]
  generalize (execOp a.eval o).run P w = r at *
  cases r with
  | halt x w' => simp [GoodRes] at hg
  | ok n w' =>
    cases n <;> simp only [GoodRes] at hg <;> simp only [Oper.uponIn]
    case value v => exact hg.nextD h hd
    case skip => exact hg.nextD h hd
    case enter f args =>
      refine ⟨fun hs => (by rw [hdep] at hs; cases hs), callsIn0 hF (Calls.mono hg ?_)⟩
      rintro e w'' ⟨v, rfl, hr⟩
      exact hr.nextD h hd

theorem not_defer {o : Oper} {op : VOp} (hc : cOp P o = some op) : ∀ c, o.op ≠ .defer c := by
  intro c e
  simp [cOp, e] at hc

theorem vcReg_soundIn {F : Fence} (hF : F = Fence.wide ∨ ∃ l, F = Fence.wide.inRound l) {n : Nat} {dd : List Deferred} {Q' : List SV → List SO → Prop} (hQ : ∀ a w, NxtD dd P ρ H g Q' a w → Q .normal a w) : ∀ (l : List VIns) (k : Nat), (∀ j : Nat, (ops.toList.drop k)[j]?.bind (cIns P ops) = l[j]?) → k + l.length = ops.size →
    ∀ {ρ1 : Rho} {H1 : List SO} {w1 : World} {t1 : List SV} {a1 : Act}, At P ρ1 H1 g w1 t1 a1 → a1.defers = dd → (∀ k, k < H.length → ρ1 k = ρ k) → H.length ≤ H1.length →
    vcReg P l t1 H1 Q' → wpOpsIn F n P ops Q (List.range' k l.length) a1 w1
  | [], k, _, _, ρ1, H1, w1, t1, a1, h, hd, hρ, hl, hv => by
    simp only [List.length_nil, List.range', wpOpsIn]
    exact hQ _ _ ⟨ρ1, t1, H1, h, hd, hρ, hl, hv⟩
  | x :: l, k, hc, hn, ρ1, H1, w1, t1, a1, h, hd, hρ, hl, hv => by
    have h0 := hc 0
    simp only [List.getElem?_cons_zero, List.getElem?_drop, Nat.add_zero] at h0
    cases ho : ops[k]? with
    | none => simp [ho] at h0
    | some o =>
      simp [ho] at h0
      simp only [List.length_cons, List.range']
      rw [vcReg_cons] at hv
      have step : ∀ {ρ' : Rho} {H' : List SO} {w' : World} {t' : List SV} {a' : Act}, At P ρ' H' g w' t' a' → a'.defers = dd → (∀ k, k < H1.length → ρ' k = ρ1 k) → H1.length ≤ H'.length → vcReg P l t' H' Q' →
          wpOpsIn F n P ops Q (List.range' (k + 1) l.length) a' w' := by
        intro ρ' H' w' t' a' h1 h2 h3 h4 h5
        refine vcReg_soundIn hF hQ l (k + 1) (fun j => ?_) (by simp at hn; omega) h1 h2 (fun k hk => (h3 k (by omega)).trans (hρ k hk)) (by omega) h5
        have := hc (j + 1)
        simp only [List.getElem?_drop, List.getElem?_cons_succ] at this ⊢
        rw [← this]; congr 2; omega
      have mono : ∀ a' w', NxtD dd P ρ1 H1 g (fun t' H' => vcReg P l t' H' Q') a' w' → wpOpsIn F n P ops Q (List.range' (k + 1) l.length) a' w' := by
        rintro a' w' ⟨ρ', t', H', h1, h2, h3, h4, h5⟩
        exact step h1 h2 h3 h4 h5
      obtain ⟨t', h', hcase⟩ := vcIns_cases h0 h hv
      simp only [wpOpsIn, ho]
      rcases hcase with ⟨hw, hop, _⟩ | ⟨hw, hk⟩
      · rw [if_pos hw]
        have hco := (cIns_spec h0).1
        have := wpIn_of_good (Q := Q) hF (n := n) (K := fun t' H' => vcReg P l t' H' Q') h' hd (not_defer hco) (vcOp_sound h' hco hop).1
        obtain ⟨u1, u2⟩ := this
        refine ⟨u1, ?_⟩
        generalize (o.semAt F.round a1.eval).run P w1 = r at *
        cases r with
        | halt x w' => cases x <;> exact u2
        | ok m w' =>
          cases m <;> simp only [Oper.uponIn] at u2 ⊢
          case value v => exact mono _ _ u2
          case skip => exact mono _ _ u2
          case defer d => exact mono _ _ u2
          case enter f args => exact ⟨u2.1, CallsIn.mono u2.2 fun e w'' he => by cases e <;> first | exact mono _ _ he | exact he⟩
          case row row args => exact ⟨u2.1, RowsIn.mono u2.2 fun _ _ he => mono _ _ he⟩
          case round l f tmps assign body => exact ⟨u2.1, RoundIn.mono u2.2 fun e w'' he => by cases e <;> first | exact mono _ _ he | exact he⟩
      · rw [if_neg (by rw [hw]; simp)]
        exact ⟨fun f _ => (asks0_of hF).1 f, mono _ _ (NxtD.here h' hd o.dst (sv := un) rfl hk)⟩

theorem vcReg_regionIn {F : Fence} (hF : F = Fence.wide ∨ ∃ l, F = Fence.wide.inRound l) {n : Nat} {dd : List Deferred} {id : Nat} {l : List VIns} (hc : ops.toList.mapM (cIns P ops) = some l) {Q' : List SV → List SO → Prop} (hQ : ∀ a w, NxtD dd P ρ H g Q' a w → Q .normal a w)
    (h : At P ρ H g w t a) (hd : a.defers = dd) (hv : vcReg P l t H Q') : (Code.region id ops false).wpIn F n P Q a w := by
  obtain ⟨h1, h2⟩ := mapM_get hc
  refine wpIn_region ?_
  have := vcReg_soundIn (ops := ops) (Q := Q) (n := n) hF hQ l 0 (by simpa using h2) (by simpa using h1) h hd (fun _ _ => rfl) (Nat.le_refl _) hv
  rw [List.range_eq_range', ← Array.length_toList, ← h1]
  exact this
end
end Go.V

namespace Go.V
open Go
set_option linter.unusedSectionVars false
variable [Mode]

/-! ### Ranges over a function -/
def Cov (W : World) (g : Fr) : Prop := (W.os = g.os ∧ W.tape = g.tape ∧ W.output = g.out ∧ DrOK g W.drawn) ∧ ∀ b o, g.f b = some o → W.heap[b]? = some o
/-- What lies outside both frames stays. -/
def ExtF (g : Fr) (W : World) (g' : Fr) (W' : World) : Prop := ∀ b o, W.heap[b]? = some o → g.f b = none → W'.heap[b]? = some o ∧ g'.f b = none

/-- A round, as the iterator sees it. -/
def RoundC {α : Type} (P : Program) (l : Nat) (enc : α → Value) (J : List α → Fr → Prop) (N : Nat) : Prop :=
  ∀ (pre : List α) (x : α) (g : Fr) (W : World) (m : Nat), J pre g → pre.length < N → Cov W g →
    YieldAt Fence.wide m P l #[enc x] W fun e W' => e = .returned (.bool true) ∧ ∃ g', J (pre ++ [x]) g' ∧ Cov W' g' ∧ ExtF g W g' W'

/-- What an iterator gives: function g with what it has captured; H: its own blocks. -/
def Gives {α : Type} (P : Program) (f : FuncId) (caps : List SV) (H : List SO) (enc : α → Value) (S : List α → Prop) (N : Nat) : Prop :=
  ∀ (l : Nat) (J : List α → Fr → Prop) (ρ : Rho) (g : Fr) (W : World), St ρ H g W → belowL H.length caps = true → J [] g → RoundC P l enc J N →
    Calls P f (#[.func (.yield l) #[] #[]] ++ (valL ρ caps).toArray) W fun e W' => (∃ v, e = .returned v) ∧ ∃ xs g', S xs ∧ J xs g' ∧ St ρ H g' W'

section
variable {P : Program} {ρ : Rho} {H : List SO} {g : Fr} {w : World}

/-- Entries that are owned, or nothing. -/
def plainH : List SO → Bool
  | [] => true
  | .gone :: r => plainH r
  | o :: r => o.owned && plainH r
theorem plainH_spec : ∀ {H : List SO}, plainH H = true → ∀ (i : Nat) s, H[i]? = some s → s.owned = true ∨ s = .gone
  | [], _, i, s, h => by simp at h
  | o :: r, hp, i, s, h => by
    have hr : plainH r = true ∧ (o.owned = true ∨ o = .gone) := by
      cases o <;> simp_all [plainH, SO.owned]
    cases i with
    | zero => simp at h; subst h; exact hr.2
    | succ i => exact plainH_spec hr.1 i s (by simpa using h)

theorem no_heap : ∀ {H : List SO}, plainH H = true → ∀ {j : Nat} {gh : Nat → Option Obj}, H[j]? = some (.heap gh) → False := by
  intro H hp j gh hj
  rcases plainH_spec hp j _ hj with h | h
  · cases h
  · cases h
theorem plainH_app : ∀ {H : List SO}, plainH H = true → ∀ {l : List SO}, plainH l = true → plainH (H ++ l) = true := by
  intro H
  induction H with
  | nil => intro _ l hl; exact hl
  | cons s H ih =>
    intro hs l hl
    cases s <;> simp [plainH, SO.owned] at hs ⊢ <;> exact ih hs hl
def Fr.at (g : Fr) (l : Nat) (o : Option Obj) : Fr := { g with f := fun b => if b = l then o else g.f b }
def Fr.all (W : World) (no : Nat → Prop) [DecidablePred no] : Fr := ⟨fun b => if no b then none else W.heap[b]?, W.os, W.tape, W.output, Mode.dr W⟩

/-- A block of the frame is turned. -/
theorem St.outside (h : St ρ H g w) (hp : plainH H = true) {l : Nat} {o o' : Obj} (hl : g.f l = some o) : St ρ H (g.at l (some o')) (w.putObj l o') := by
  have hlt : l < w.heap.size := (Array.getElem?_eq_some_iff.1 (h.frm l o hl)).1
  constructor
  · intro k s hk
    refine entryOK_congr (n := H.length) (List.getElem?_eq_some_iff.1 hk).1 (h.ent k s hk) (fun _ _ => rfl) ?_ ?_ ?_
    · rintro l e rfl; exact h.scp k l e hk
    · rintro m s' seen st rfl; exact h.sci k m s' seen st hk
    · intro b ob hng hb hor hgh
      rcases plainH_spec hp k s hk with ho | ho
      · have hne : b ≠ l := by
          rintro rfl
          have := h.frd k s b hk ho (hor (.inl ho))
          rw [this] at hl; cases hl
        rw [World.putObj_heap_other hne]; exact hb
      · exact absurd ho hng
  · exact h.dis
  · exact h.gho
  · exact h.env
  · intro b ob hb
    simp only [Fr.at] at hb
    split at hb
    · rename_i e; subst e; cases hb; exact World.putObj_heap_same hlt
    · rename_i e; rw [World.putObj_heap_other e]; exact h.frm b ob hb
  · intro i si b hi ho hb
    have hn := h.frd i si b hi ho hb
    simp only [Fr.at]
    split
    · rename_i e; subst e; rw [hn] at hl; cases hl
    · exact hn
  · exact h.scp
  · exact h.sci
  · intro j gh b hj; exact (no_heap hp hj).elim
  · intro j i gh b si hj; exact (no_heap hp hj).elim
  · intro j i gh b si hj; exact (no_heap hp hj).elim

/-- How elements are written. -/
structure Elem (P : Program) {α : Type} (tE : TypeId) (n : Option Nat) (sz by' : Nat) (zs : List Value) (sv : α → SV) (cells : α → List Value) : Prop where
  shape : shapeT P tE = some n
  size : sizeT P tE = some sz
  bytes : bytesT P tE = some by'
  zero : zeroCellsT P tE = some zs
  zlen : zs.length = sz
  pos : sz ≠ 0 ∧ by' ≠ 0
  sv_cells : ∀ x, (n = none ∧ ∃ v, sv x = .raw v ∧ cells x = [v]) ∨ (∃ m, n = some m ∧ sv x = .agg ((cells x).map .raw))
  len : ∀ x, (cells x).length = sz
  ok : ∀ x, cellsOK (cells x) = true

theorem paste_all {α : Type} : ∀ (l ys : List α), l.length = ys.length → paste l 0 ys = some ys
  | [], [], _ => by simp [paste]
  | x :: l, y :: ys, h => by
    simp only [List.length_cons, Nat.add_right_cancel_iff] at h
    simp only [paste, paste_all l ys h]
  | [], _ :: _, h => by simp at h
  | _ :: _, [], h => by simp at h
theorem plainL_raws : ∀ (l : List Value), plainL (l.map .raw) = some l
  | [] => rfl
  | x :: l => by simp [plainL, plain, plainL_raws l]
theorem cut_all {α : Type} : ∀ (l : List α), cut l 0 l.length = some l
  | [] => by simp [cut]
  | x :: l => by simp [cut, cut_all l]
theorem oneL_raws : ∀ {l : List Value}, cellsOK l = true → oneL (l.map .raw) = true
  | [], _ => rfl
  | x :: l, h => by
    have h2 : (one (.raw x) = true) ∧ cellsOK l = true := by
      cases x <;> simp_all [cellsOK, one]
    simp [oneL, h2.1, oneL_raws h2.2]
theorem Elem.stored {α : Type} {tE : TypeId} {n : Option Nat} {sz by' : Nat} {zs : List Value} {sv : α → SV} {cells : α → List Value} (h : Elem P tE n sz by' zs sv cells) (x : α) : stored n (sv x) = some ((cells x).map .raw) := by
  have hok := h.ok x
  rcases h.sv_cells x with ⟨rfl, v, e1, e2⟩ | ⟨m, rfl, e1⟩
  · rw [e1, e2]
    have : one (.raw v) = true := by
      rw [e2] at hok
      cases v <;> simp_all [cellsOK, one]
    simp [V.stored, this, nkb]
  · rw [e1]
    have hm : m = sz := by
      have := (shape_some h.shape).2
      rw [h.size] at this; exact (Option.some.inj this).symm
    simp [V.stored, oneL_raws hok, h.len x, hm]
theorem Elem.partCells {α : Type} {tE : TypeId} {n : Option Nat} {sz by' : Nat} {zs : List Value} {sv : α → SV} {cells : α → List Value} (h : Elem P tE n sz by' zs sv cells) (x : α) : partCells (sv x) = some ((cells x).map .raw) := by
  have hok := h.ok x
  rcases h.sv_cells x with ⟨rfl, v, e1, e2⟩ | ⟨m, rfl, e1⟩
  · rw [e1, e2]
    have : one (.raw v) = true := by
      rw [e2] at hok
      cases v <;> simp_all [cellsOK, one]
    simp [V.partCells, this]
  · rw [e1]; simp [V.partCells]
end
end Go.V

namespace Go.V
open Go
set_option linter.unusedSectionVars false
variable [Mode]

section
variable {P : Program} {α : Type} {tS tE : TypeId} {n : Option Nat} {sz by' : Nat} {zs zsl : List Value} {sv : α → SV} {cells : α → List Value}

theorem ap_assign (h : Elem P tE n sz by' zs sv cells) (x : α) (u0 u1 u2 u3 u4 u5 u6 u8 u9 u10 u11 u12 : SV) (H : List SO) :
    vcReg P [⟨some 5, none, .new tE zs⟩, ⟨none, none, .store n (.t 5) (.t 7)⟩] [u0, u1, u2, u3, u4, u5, u6, sv x, u8, u9, u10, u11, u12] H
      (fun t' H' => t' = [u0, u1, u2, u3, u4, .ptr H.length 0, u6, sv x, u8, u9, u10, u11, u12] ∧ H' = H ++ [.cells ((cells x).map .raw) tE]) := by
  simp only [vcReg, vcIns, vcOp, rawsK_eq, newHK_eq, putK_eq, put, List.set_cons_succ, List.set_cons_zero, evK, getK, vcStore, h.stored x, objK_eq]
  have e : obj (H ++ [SO.cells (zs.map .raw) tE]) H.length = .cells (zs.map .raw) tE := by simp [obj]
  rw [e]
  simp only [paste_all (zs.map SV.raw) ((cells x).map SV.raw) (by simp [h.len x, h.zlen]), setHK_eq]
  exact ⟨trivial, by simp⟩

theorem ap_body (h : Elem P tE n sz by' zs sv cells) (hzl : zsl.length = sz) (x : α) (u0 u1 u3 u4 u6 u7 u8 u9 u10 u11 u12 : SV) (o c len : Nat) (xs : List Value)
    (hx : len ≤ c ∧ o + c * sz ≤ xs.length) (hb : (len + 1) * by' ≤ 1099511627776) :
    vcReg P [⟨some 8, none, .load none (.t 2)⟩, ⟨some 9, none, .load n (.t 5)⟩, ⟨some 10, none, .bslice tE 1 zsl [(0, sz, .t 9)]⟩, ⟨some 11, none, .append tE sz by' zs (.t 8) (.t 10)⟩, ⟨none, none, .store none (.t 2) (.t 11)⟩]
      [u0, u1, .ptr 0 0, u3, u4, .ptr 2 0, u6, u7, u8, u9, u10, u11, u12] [.cells [.sl 1 o len c] tS, .arr xs tE, .cells ((cells x).map .raw) tE]
      (fun _ H' => ∃ o' c' xs', H' = [.cells [.sl 4 o' (len + 1) c'] tS, .gone, .cells ((cells x).map .raw) tE, .arr (cells x) tE, .arr xs' tE] ∧
        len + 1 ≤ c' ∧ o' + c' * sz ≤ xs'.length ∧ (xs'.drop o').take ((len + 1) * sz) = (xs.drop o).take (len * sz) ++ cells x) := by
  have hload : ∀ K : SV → Prop, K (sv x) → vcLoad n (.ptr 2 0) [.cells [.sl 1 o len c] tS, .arr xs tE, .cells ((cells x).map .raw) tE] K := by
    intro K hK
    rcases h.sv_cells x with ⟨rfl, v, e1, e2⟩ | ⟨m, rfl, e1⟩
    · rw [e1] at hK
      simp only [vcLoad, objK, e2, List.map_cons, List.map_nil, List.getElem?_cons_zero]
      exact hK
    · have hm : m = ((cells x).map SV.raw).length := by
        have := (shape_some h.shape).2
        rw [h.size] at this
        simp [h.len x, (Option.some.inj this).symm]
      rw [e1] at hK
      simp only [vcLoad, objK, hm, cut_all]
      exact hK
  simp only [vcReg, vcIns, vcOp, putK_eq, put, evK, getK]
  have hl0 : ∀ K : SV → Prop, K (.sl 1 o len c) → vcLoad none (.ptr 0 0) [.cells [.sl 1 o len c] tS, .arr xs tE, .cells ((cells x).map .raw) tE] K := fun K hK => hK
  refine hl0 _ ?_
  simp only [List.set_cons_succ, List.set_cons_zero, getK]
  refine hload _ ?_
  simp only [getK, rawsK_eq, pasteK, evK, h.partCells x, List.length_map, h.len x, beq_self_eq_true, cond_true,
    paste_all (zsl.map SV.raw) ((cells x).map SV.raw) (by simp [h.len x, hzl]), plainL_raws, newHK_eq, List.length_cons, List.length_nil, List.cons_append, List.nil_append, Nat.reduceAdd]
  have hsl : slElems [.cells [.sl 1 o len c] tS, .arr xs tE, .cells ((cells x).map .raw) tE, .arr (cells x) tE] sz (.sl 3 0 1 1) = some (cells x, 1) := by
    simp only [slElems, obj, List.getD_cons_succ, List.getD_cons_zero, List.drop_zero, Nat.one_mul]
    rw [List.take_of_length_le (by rw [h.len x]; exact Nat.le_refl _)]
  unfold vcAppend
  rw [hsl]
  simp only [vcAppendB, objK, setHK_eq, newHK_eq, List.set_cons_succ, List.set_cons_zero, List.length_cons, List.length_nil, Nat.reduceAdd, List.cons_append, List.nil_append]
  refine ⟨⟨⟨hx.1, hx.2, trivial⟩, ⟨by rw [h.len x, Nat.one_mul], h.ok x⟩, hb⟩, ?_⟩
  intro zs' o' c' ⟨q1, q2, q3⟩
  simp only [vcStore, stored, nkb, one, cond_true, objK, paste, setHK_eq, List.set_cons_zero]
  exact ⟨o', c', zs', rfl, q1, q2, q3⟩
end
end Go.V

namespace Go.V
open Go
set_option linter.unusedSectionVars false
variable [Mode]

/-- The state of a collecting loop between two rounds, as a frame. -/
structure ApJ {α : Type} (tS tE : TypeId) (sz : Nat) (cells : α → List Value) (g0 : Fr) (Bs D l : Nat) (rec : Loop) (pre : List α) (g : Fr) : Prop where
  env : g.os = g0.os ∧ g.tape = g0.tape ∧ g.out = g0.out ∧ g0.dr = g.dr
  keep : ∀ b o, g0.f b = some o → g.f b = some o
  lrec : g.f l = some (.loop rec)
  dd : g.f D = some (.deferred (some []))
  own : g0.f Bs = none ∧ g0.f l = none ∧ g0.f D = none
  row : ∃ (r : Option Nat) (o c : Nat) (xs : List Value), g.f Bs = some (.cells #[.slice (r.map fun b => ⟨b, o, none⟩) pre.length c] tS (0, 0)) ∧
    (pre.length ≤ c ∧ o + c * sz ≤ xs.length ∧ (xs.drop o).take (pre.length * sz) = pre.flatMap cells) ∧
    ((r = none ∧ xs = []) ∨ ∃ b fr, r = some b ∧ g.f b = some (.cells xs.toArray tE fr) ∧ (fr.1 = fr.2 ∨ xs.length ≤ fr.1) ∧ b ≠ Bs ∧ g0.f b = none)

section
variable {P : Program} {α : Type} {tS tE : TypeId} {n : Option Nat} {sz by' : Nat} {zs zsl : List Value} {sv : α → SV} {cells : α → List Value}

theorem Elem.val (h : Elem P tE n sz by' zs sv cells) (x : α) (ρ ρ' : Rho) : V.val ρ (sv x) = V.val ρ' (sv x) := by
  rcases h.sv_cells x with ⟨_, v, e1, _⟩ | ⟨m, _, e1⟩
  · rw [e1]; rfl
  · rw [e1]; simp [V.val, valL_eq, Function.comp_def]
theorem Elem.below (h : Elem P tE n sz by' zs sv cells) (x : α) (m : Nat) : V.below m (sv x) = true := by
  rcases h.sv_cells x with ⟨_, v, e1, _⟩ | ⟨m, _, e1⟩
  · rw [e1]; rfl
  · rw [e1]; simpa [V.below] using below_raws _ _

/-- The blocks of the loop's own state, as a state. -/
theorem ap_st {W : World} {Bs : Nat} {r : Option Nat} {o len c : Nat} {xs : List Value} (hB : W.heap[Bs]? = some (.cells #[.slice (r.map fun b => ⟨b, o, none⟩) len c] tS (0, 0)))
    (hr : (r = none ∧ xs = []) ∨ ∃ b fr, r = some b ∧ W.heap[b]? = some (.cells xs.toArray tE fr) ∧ (fr.1 = fr.2 ∨ xs.length ≤ fr.1) ∧ b ≠ Bs) :
    St (fun k => if k = 0 then some Bs else if k = 1 then r else none) [.cells [.sl 1 o len c] tS, .arr xs tE] (Fr.all W fun b => b = Bs ∨ r = some b) W := by
  have two : ∀ (i : Nat) s, ([SO.cells [.sl 1 o len c] tS, .arr xs tE] : List SO)[i]? = some s → (i = 0 ∧ s = .cells [.sl 1 o len c] tS) ∨ (i = 1 ∧ s = .arr xs tE) := by
    intro i s h
    match i with
    | 0 => simp at h; exact .inl ⟨rfl, h.symm⟩
    | 1 => simp at h; exact .inr ⟨rfl, h.symm⟩
    | i + 2 => simp at h
  constructor
  · intro i s h
    rcases two i s h with ⟨rfl, rfl⟩ | ⟨rfl, rfl⟩
    · exact ⟨Bs, rfl, by simpa [valL, val] using hB⟩
    · rcases hr with ⟨h1, h2⟩ | ⟨b, fr, h1, h2, h3, _⟩
      · exact .inl ⟨h1, h2⟩
      · exact .inr ⟨b, fr, h1, h2, h3⟩
  · intro i j si sj b hij hi hj _ _ hb
    have hne : ∀ b, r = some b → b ≠ Bs := by
      intro b hb
      rcases hr with ⟨h1, _⟩ | ⟨b', fr, h1, _, _, h4⟩
      · rw [h1] at hb; cases hb
      · rw [h1] at hb; cases hb; exact h4
    rcases two i si hi with ⟨rfl, rfl⟩ | ⟨rfl, rfl⟩ <;> rcases two j sj hj with ⟨rfl, rfl⟩ | ⟨rfl, rfl⟩
    · exact absurd rfl hij
    · simp at hb ⊢; subst hb; exact fun e => hne _ e rfl
    · simp at hb ⊢; exact fun e => hne _ hb e.symm
    · exact absurd rfl hij
  · intro i j si gh b _ _ hj
    rcases two j _ hj with ⟨_, h⟩ | ⟨_, h⟩ <;> cases h
  · exact ⟨rfl, rfl, rfl, Mode.dr_le W, Mode.dr_lax W⟩
  · intro b ob hb
    simp only [Fr.all] at hb
    split at hb
    · cases hb
    · exact hb
  · intro i si b hi _ hb
    simp only [Fr.all]
    rcases two i si hi with ⟨rfl, _⟩ | ⟨rfl, _⟩
    · simp at hb; simp [hb]
    · simp at hb; simp [hb]
  · intro i l e hi
    rcases two i _ hi with ⟨_, h⟩ | ⟨_, h⟩
    · cases h; simp [belowL, below]
    · cases h
  · intro i m s seen st hi
    rcases two i _ hi with ⟨_, h⟩ | ⟨_, h⟩ <;> cases h
  · intro j gh b hj
    rcases two j _ hj with ⟨_, h⟩ | ⟨_, h⟩ <;> cases h
  · intro j i gh b si hj
    rcases two j _ hj with ⟨_, h⟩ | ⟨_, h⟩ <;> cases h
  · intro j i gh b si hj
    rcases two j _ hj with ⟨_, h⟩ | ⟨_, h⟩ <;> cases h

def apL2 (tE : TypeId) (n : Option Nat) (zs : List Value) : List VIns := [⟨some 5, none, .new tE zs⟩, ⟨none, none, .store n (.t 5) (.t 7)⟩]
def apL3 (tE : TypeId) (n : Option Nat) (sz by' : Nat) (zs zsl : List Value) : List VIns :=
  [⟨some 8, none, .load none (.t 2)⟩, ⟨some 9, none, .load n (.t 5)⟩, ⟨some 10, none, .bslice tE 1 zsl [(0, sz, .t 9)]⟩, ⟨some 11, none, .append tE sz by' zs (.t 8) (.t 10)⟩, ⟨none, none, .store none (.t 2) (.t 11)⟩]

theorem ap_round (h : Elem P tE n sz by' zs sv cells) (hzl : zsl.length = sz) {ops2 ops3 : Array Oper} {i2 i3 b1 : Nat} (h2 : ops2.toList.mapM (cIns P ops2) = some (apL2 tE n zs)) (h3 : ops3.toList.mapM (cIns P ops3) = some (apL3 tE n sz by' zs zsl))
    {g0 : Fr} {Bs D l : Nat} {rec : Loop} (hst : rec.state = .ready) (hpe : rec.pending = none) (hpa : rec.params = #[7]) (has : rec.assign = .region i2 ops2 false) (hbo : rec.body = .block b1 (.region i3 ops3 false))
    {v0 v1 v6 : Value} (htm : rec.tmps = #[v0, v1, .pointer (some ⟨Bs, 0, none⟩), undef, .slice none 0 0, undef, v6, undef, undef, undef, undef, undef, undef]) {N : Nat} (hN : N * by' ≤ 1099511627776) :
    RoundC P l (fun x => V.val (fun _ => none) (sv x)) (ApJ tS tE sz cells g0 Bs D l rec) N := by
  intro pre x gf W m hJ hlt hC
  obtain ⟨r, o, c, xs, hBs, hlen, hrow⟩ := hJ.row
  have hWl : W.heap[l]? = some (.loop rec) := hC.2 _ _ hJ.lrec
  have hWB := hC.2 _ _ hBs
  have hlB : l ≠ Bs := by
    rintro rfl
    have := hJ.lrec; rw [hBs] at this; cases this
  have hlr : r ≠ some l := by
    rintro rfl
    rcases hrow with ⟨e, _⟩ | ⟨b, fr, e, e2, _⟩
    · cases e
    · cases e
      have := hJ.lrec; rw [e2] at this; cases this
  have hS := ap_st (tS := tS) (tE := tE) (xs := xs) hWB (hrow.imp id fun ⟨b, fr, e1, e2, e3, e4, _⟩ => ⟨b, fr, e1, hC.2 _ _ e2, e3, e4⟩)
  refine ⟨rec.fn, _, rec.assign, rec.body, run_yield hWl (by rw [hpa]; rfl), roundIn_of_wpIn trivial ?_⟩
  rw [has, hbo, hpa, htm]
  refine vcReg_regionIn (.inr ⟨l, rfl⟩) h2 (t := [.raw v0, .raw v1, .ptr 0 0, un, .raw (.slice none 0 0), un, .raw v6, sv x, un, un, un, un, un]) ?_ ⟨?_, ?_, hS⟩ rfl (ap_assign h x _ _ _ _ _ _ _ _ _ _ _ _ _)
  rotate_left 1
  · simp only [Frm]
    apply Array.toList_inj.1
    simp [valL, V.val, undef, h.val x (fun k => if k = 0 then some Bs else if k = 1 then r else none) (fun _ => none)]
  · simp [belowL, V.below, h.below x]
  rintro a1 w1 ⟨ρ1, t1, H1, hA1, hd1, hρ1, _, rfl, rfl⟩
  have hgl : (Fr.all W fun b => b = Bs ∨ r = some b).f l = some (.loop rec) := by
    simp only [Fr.all]
    rw [if_neg (by simp [hlB, hlr])]; exact hWl
  have hw1 : w1.heap[l]? = some (.loop rec) := hA1.s.frm l _ hgl
  refine ⟨_, run_beginRound hw1 hst, wpIn_block ?_⟩
  have hS2 := hA1.s.outside (by simp [plainH, SO.owned]) (o' := .loop { rec with state := .busy }) hgl
  have hbnd : (pre.length + 1) * by' ≤ 1099511627776 := Nat.le_trans (Nat.mul_le_mul_right _ hlt) hN
  refine vcReg_regionIn (.inr ⟨l, rfl⟩) h3 ?_ ⟨hA1.f, hA1.b, hS2⟩ hd1 (ap_body h hzl x _ _ _ _ _ _ _ _ _ _ _ o c pre.length xs ⟨hlen.1, hlen.2.1⟩ hbnd)
  rintro a3 w3 ⟨ρ3, t3, H3, hA3, hd3, hρ3, _, o', c', xs', rfl, q1, q2, q3⟩
  have hS3 := hA3.s
  have hw3 : w3.heap[l]? = some (.loop { rec with state := .busy }) := hS3.frm l _ (by simp [Fr.at])
  have hfin : ({ ({ rec with state := .busy } : Loop) with state := if (none : Option Code).isNone then LoopState.ready else .done, pending := none } : Loop) = rec := by
    cases rec
    simp only at hst hpe
    subst hst hpe
    rfl
  have hend := run_endRound (P := P) none hw3
  rw [hfin] at hend
  refine ⟨_, _, hend, by simp, ?_⟩
  -- the blocks behind the round
  have e0 : ρ3 0 = some Bs := by rw [hρ3 0 (by simp), hρ1 0 (by simp)]; rfl
  have hB3 : w3.heap[Bs]? = some (.cells #[.slice ((ρ3 4).map fun b => ⟨b, o', none⟩) (pre.length + 1) c'] tS (0, 0)) := by
    obtain ⟨b, b1, b2⟩ := hS3.ent 0 _ rfl
    rw [e0] at b1; cases b1
    simpa [valL, V.val] using b2
  have hne0 : xs' ≠ [] := by
    intro e
    rw [e] at q2
    have h1 : c' * sz = 0 := by simp at q2; omega
    rcases Nat.mul_eq_zero.1 h1 with h1 | h1
    · omega
    · exact h.pos.1 h1
  obtain ⟨rb, fr, er, hr3, hfr⟩ : ∃ rb fr, ρ3 4 = some rb ∧ w3.heap[rb]? = some (.cells xs'.toArray tE fr) ∧ (fr.1 = fr.2 ∨ xs'.length ≤ fr.1) := by
    rcases hS3.ent 4 _ rfl with ⟨_, h2⟩ | ⟨b, fr, h1, h2, h3⟩
    · exact absurd h2 hne0
    · exact ⟨b, fr, h1, h2, h3⟩
  have hrB : rb ≠ Bs := fun e => hS3.dis 4 0 _ _ rb (by decide) rfl rfl rfl (.inl rfl) er (by rw [e0, e])
  have hgr : ((Fr.all W fun b => b = Bs ∨ r = some b).at l (some (.loop { rec with state := .busy }))).f rb = none := hS3.frd 4 _ rb rfl rfl er
  have hrl : rb ≠ l := by
    rintro rfl
    simp [Fr.at] at hgr
  -- what is neither the box, nor the row, nor the record lies as it lay
  have kept : ∀ b ob, W.heap[b]? = some ob → b ≠ Bs → r ≠ some b → b ≠ l → w3.heap[b]? = some ob ∧ b ≠ rb := by
    intro b ob hb k1 k2 k3
    have hf : ((Fr.all W fun b => b = Bs ∨ r = some b).at l (some (.loop { rec with state := .busy }))).f b = some ob := by
      simp only [Fr.at, Fr.all]
      rw [if_neg k3, if_neg (by simp [k1, k2])]; exact hb
    exact ⟨hS3.frm b ob hf, by rintro rfl; rw [hgr] at hf; cases hf⟩
  have hlt3 : l < w3.heap.size := (Array.getElem?_eq_some_iff.1 hw3).1
  let g' : Fr := ⟨fun b => if b = l then some (.loop rec) else if b = Bs then w3.heap[Bs]? else if b = rb then w3.heap[rb]? else if r = some b then none else gf.f b, gf.os, gf.tape, gf.out, gf.dr⟩
  have hfar : ∀ b ob, gf.f b = some ob → r ≠ some b → b ≠ Bs → b ≠ l → g'.f b = some ob := by
    intro b ob hb k1 k2 k3
    have := (kept b ob (hC.2 b ob hb) k2 k1 k3).2
    simp only [g']
    rw [if_neg k3, if_neg k2, if_neg this, if_neg k1]; exact hb
  have hrg0 : ∀ b, r = some b → g0.f b = none := by
    intro b hb
    rcases hrow with ⟨e, _⟩ | ⟨b', fr', e, _, _, _, e5⟩
    · rw [e] at hb; cases hb
    · rw [e] at hb; cases hb; exact e5
  have hDne : r ≠ some D ∧ D ≠ Bs ∧ D ≠ l := by
    refine ⟨?_, ?_, ?_⟩
    · intro e
      rcases hrow with ⟨e', _⟩ | ⟨b', fr', e', e2, _⟩
      · rw [e'] at e; cases e
      · rw [e'] at e; cases e
        have := hJ.dd; rw [e2] at this; cases this
    · rintro rfl
      have := hJ.dd; rw [hBs] at this; cases this
    · rintro rfl
      have := hJ.dd; rw [hJ.lrec] at this; cases this
  refine ⟨g', ⟨hJ.env, ?_, by simp [g'], hfar D _ hJ.dd hDne.1 hDne.2.1 hDne.2.2, hJ.own, some rb, o', c', xs', ?_, ?_, .inr ⟨rb, fr, rfl, ?_, hfr, hrB, ?_⟩⟩, ⟨?_, ?_⟩, ?_⟩
  · intro b ob hb
    have hgb := hJ.keep b ob hb
    refine hfar b ob hgb ?_ ?_ ?_
    · intro e; have := hrg0 b e; rw [hb] at this; cases this
    · rintro rfl; have := hJ.own.1; rw [hb] at this; cases this
    · rintro rfl; have := hJ.own.2.1; rw [hb] at this; cases this
  · simp only [g']
    rw [if_neg (Ne.symm hlB)]
    simp only [if_true, hB3, er, List.length_append, List.length_cons, List.length_nil]
  · refine ⟨by simpa using q1, q2, ?_⟩
    simp only [List.length_append, List.length_cons, List.length_nil, List.flatMap_append, List.flatMap_cons, List.flatMap_nil, List.append_nil]
    rw [q3, hlen.2.2]
  · simp only [g']
    rw [if_neg hrl, if_neg hrB]
    simp [hr3]
  · cases hg : g0.f rb with
    | none => rfl
    | some ob =>
      exfalso
      have hgb := hJ.keep rb ob hg
      have hnr : r ≠ some rb := fun e => by have := hrg0 rb e; rw [hg] at this; cases this
      exact (kept rb ob (hC.2 rb ob hgb) hrB hnr hrl).2 rfl
  · have he := hS3.env
    refine ⟨?_, ?_, ?_, ?_⟩
    · exact he.1.trans hC.1.1
    · exact he.2.1.trans hC.1.2.1
    · exact he.2.2.1.trans hC.1.2.2.1
    · exact hC.1.2.2.2.behind he.2.2.2.1
  · intro b ob hb
    simp only [g'] at hb
    by_cases k3 : b = l
    · subst k3
      simp at hb; subst hb
      exact World.putObj_heap_same hlt3
    · rw [World.putObj_heap_other k3]
      rw [if_neg k3] at hb
      by_cases k1 : b = Bs
      · subst k1; simpa using hb
      · rw [if_neg k1] at hb
        by_cases k4 : b = rb
        · subst k4; simpa using hb
        · rw [if_neg k4] at hb
          by_cases k2 : r = some b
          · rw [if_pos k2] at hb; cases hb
          · rw [if_neg k2] at hb
            exact (kept b ob (hC.2 b ob hb) k1 k2 k3).1
  · intro b ob hb hgb
    have k1 : b ≠ Bs := by rintro rfl; rw [hgb] at hBs; cases hBs
    have k3 : b ≠ l := by
      rintro rfl
      have := hJ.lrec; rw [hgb] at this; cases this
    have k2 : r ≠ some b := by
      intro e
      rcases hrow with ⟨e', _⟩ | ⟨b', fr', e', e2, _⟩
      · rw [e'] at e; cases e
      · rw [e'] at e; cases e
        rw [hgb] at e2; cases e2
    obtain ⟨m1, m2⟩ := kept b ob hb k1 k2 k3
    refine ⟨by rw [World.putObj_heap_other k3]; exact m1, ?_⟩
    simp only [g']
    rw [if_neg k3, if_neg k1, if_neg m2, if_neg k2]; exact hgb
end
end Go.V

namespace Go.V
open Go
set_option linter.unusedSectionVars false
variable [Mode]

section
variable {P : Program} {ρ : Rho} {H : List SO} {g : Fr} {w : World}

/-- A new block, for the frame. -/
theorem St.allocFrame (h : St ρ H g w) (o : Obj) : St ρ H (g.at w.heap.size (some o)) (w.alloc o) := by
  have hold : ∀ (b : Nat) (o' : Obj), w.heap[b]? = some o' → (w.alloc o).heap[b]? = some o' := by
    intro b o' hb
    have hlt := (Array.getElem?_eq_some_iff.1 hb).1
    show (w.heap.push o)[b]? = some o'
    rw [Array.getElem?_push_lt hlt]; simpa [hlt] using hb
  constructor
  · intro k s hk
    refine entryOK_congr (n := H.length) (List.getElem?_eq_some_iff.1 hk).1 (h.ent k s hk) (fun _ _ => rfl) ?_ ?_ (fun b o' _ hb _ _ => hold b o' hb)
    · rintro l e rfl; exact h.scp k l e hk
    · rintro m s' seen st rfl; exact h.sci k m s' seen st hk
  · exact h.dis
  · exact h.gho
  · exact h.env
  · intro b o' hb
    simp only [Fr.at] at hb
    split at hb
    · rename_i e; subst e; cases hb; exact World.alloc_heap_new w _
    · exact hold b o' (h.frm b o' hb)
  · intro i si b hi ho hb
    have hlt := entryOK_lt (h.ent i si hi) (.inl ho) hb
    simp only [Fr.at]
    rw [if_neg (by omega)]
    exact h.frd i si b hi ho hb
  · exact h.scp
  · exact h.sci
  · intro j gh b hj hb
    have hlt : b < w.heap.size := by
      cases hx : gh b with
      | none => exact absurd hx hb
      | some o' => exact (Array.getElem?_eq_some_iff.1 (h.ent j _ hj b o' hx)).1
    simp only [Fr.at]
    rw [if_neg (by omega)]
    exact h.hpf j gh b hj hb
  · exact h.hpo
  · exact h.hpc

/-- Another frame that the heap meets. -/
theorem St.cov (h : St ρ H g w) {g' : Fr} (hc : Cov w g') (h2 : ∀ (i : Nat) si b, H[i]? = some si → si.owned = true → ρ i = some b → g'.f b = none)
    (h3 : ∀ (j : Nat) gh b, H[j]? = some (.heap gh) → gh b ≠ none → g'.f b = none) : St ρ H g' w := h.other hc.1 hc.2 h2 h3

theorem St.isCov (h : St ρ H g w) : Cov w g := ⟨h.env, h.frm⟩

variable {α : Type} {tS tE : TypeId} {n : Option Nat} {sz by' : Nat} {zs zsl : List Value} {sv : α → SV} {cells : α → List Value}

/-- Behind the rounds: the iterator's blocks, the box, the row. -/
theorem ap_join (hp : plainH H = true) {g0 : Fr} {Bs D l : Nat} {rec : Loop} {xs : List α} {gf : Fr} {W : World} (hS : St ρ H gf W) (hJ : ApJ tS tE sz cells g0 Bs D l rec xs gf) :
    ∃ (r : Option Nat) (o c : Nat) (ys : List Value), (xs.length ≤ c ∧ o + c * sz ≤ ys.length ∧ (ys.drop o).take (xs.length * sz) = xs.flatMap cells) ∧
      St (upd (upd ρ H.length (some Bs)) (H.length + 1) r) (H ++ [.cells [.sl (H.length + 1) o xs.length c] tS, .arr ys tE]) g0 W := by
  obtain ⟨r, o, c, ys, hBs, hlen, hrow⟩ := hJ.row
  refine ⟨r, o, c, ys, hlen, ?_⟩
  have hcov := hS.isCov
  have hρ : ∀ k, k < H.length → upd (upd ρ H.length (some Bs)) (H.length + 1) r k = ρ k := by
    intro k hk
    rw [upd_lt _ _ (by omega), upd_lt _ _ hk]
  have e0 : upd (upd ρ H.length (some Bs)) (H.length + 1) r H.length = some Bs := by rw [upd_lt _ _ (by omega), upd_same]
  have e1 : upd (upd ρ H.length (some Bs)) (H.length + 1) r (H.length + 1) = r := upd_same _ _ _
  have hget : ∀ (i : Nat) s, (H ++ [SO.cells [.sl (H.length + 1) o xs.length c] tS, .arr ys tE])[i]? = some s → (i < H.length ∧ H[i]? = some s) ∨ (i = H.length ∧ s = .cells [.sl (H.length + 1) o xs.length c] tS) ∨ (i = H.length + 1 ∧ s = .arr ys tE) := by
    intro i s hi
    by_cases h1 : i < H.length
    · rw [List.getElem?_append_left h1] at hi; exact .inl ⟨h1, hi⟩
    · rw [List.getElem?_append_right (by omega)] at hi
      match hj : i - H.length with
      | 0 => rw [hj] at hi; simp at hi; exact .inr (.inl ⟨by omega, hi.symm⟩)
      | 1 => rw [hj] at hi; simp at hi; exact .inr (.inr ⟨by omega, hi.symm⟩)
      | j + 2 => rw [hj] at hi; simp at hi
  have hrB : ∀ b, r = some b → b ≠ Bs ∧ gf.f b ≠ none ∧ g0.f b = none := by
    intro b hb
    rcases hrow with ⟨e, _⟩ | ⟨b', fr, e, e2, _, e4, e5⟩
    · rw [e] at hb; cases hb
    · rw [e] at hb; cases hb; exact ⟨e4, by rw [e2]; simp, e5⟩
  have hBn : gf.f Bs ≠ none := by rw [hBs]; simp
  -- blocks of H are in neither frame
  have hHo : ∀ (i : Nat) s b, H[i]? = some s → s.owned = true → ρ i = some b → b ≠ Bs ∧ r ≠ some b ∧ g0.f b = none := by
    intro i s b hi ho hb
    have hn := hS.frd i s b hi ho hb
    refine ⟨by rintro rfl; exact hBn hn, fun e => (hrB b e).2.1 hn, ?_⟩
    cases hg : g0.f b with
    | none => rfl
    | some ob => rw [hJ.keep b ob hg] at hn; cases hn
  have own : ∀ {s : SO} {i : Nat}, H[i]? = some s → (s.owned = true ∨ s.isRo = true) → s.owned = true := by
    intro s i hi ho
    rcases plainH_spec hp i s hi with h1 | h1
    · exact h1
    · subst h1; simp [SO.owned, SO.isRo] at ho
  constructor
  · intro i s hi
    rcases hget i s hi with ⟨h1, h2⟩ | ⟨rfl, rfl⟩ | ⟨rfl, rfl⟩
    · refine entryOK_congr h1 (hS.ent i s h2) hρ ?_ ?_ (fun b o' _ hb _ _ => hb)
      · rintro l e rfl; exact hS.scp i l e h2
      · rintro m s' seen st rfl; exact hS.sci i m s' seen st h2
    · refine ⟨Bs, e0, ?_⟩
      have := hcov.2 Bs _ hBs
      simpa [valL, val, e1] using this
    · rcases hrow with ⟨e, e2⟩ | ⟨b', fr, e, e2, e3, _, _⟩
      · exact .inl ⟨by rw [e1, e], e2⟩
      · exact .inr ⟨b', fr, by rw [e1, e], hcov.2 _ _ e2, e3⟩
  · intro i j si sj b hij hi hj ho hoj hb
    rcases hget i si hi with ⟨h1, h2⟩ | ⟨rfl, rfl⟩ | ⟨rfl, rfl⟩ <;> rcases hget j sj hj with ⟨h3, h4⟩ | ⟨rfl, rfl⟩ | ⟨rfl, rfl⟩
    · rw [hρ i h1] at hb; rw [hρ j h3]; exact hS.dis i j si sj b hij h2 h4 ho hoj hb
    · rw [hρ i h1] at hb; rw [e0]
      exact fun e => (hHo i si b h2 ho hb).1 (Option.some.inj e).symm
    · rw [hρ i h1] at hb; rw [e1]
      exact (hHo i si b h2 ho hb).2.1
    · rw [e0] at hb; cases hb; rw [hρ j h3]
      exact fun e => (hHo j sj Bs h4 (own h4 hoj) e).1 rfl
    · exact absurd rfl hij
    · rw [e0] at hb; cases hb; rw [e1]
      exact fun e => (hrB Bs e).1 rfl
    · rw [e1] at hb; rw [hρ j h3]
      exact fun e => (hHo j sj b h4 (own h4 hoj) e).2.1 hb
    · rw [e1] at hb; rw [e0]
      exact fun e => (hrB b hb).1 (Option.some.inj e).symm
    · exact absurd rfl hij
  · intro i j si gh b _ _ hj
    rcases hget j _ hj with ⟨_, h4⟩ | ⟨_, h4⟩ | ⟨_, h4⟩
    · rcases plainH_spec hp j _ h4 with h5 | h5
      · cases h5
      · cases h5
    · cases h4
    · cases h4
  · exact ⟨hcov.1.1.trans hJ.env.1, hcov.1.2.1.trans hJ.env.2.1, hcov.1.2.2.1.trans hJ.env.2.2.1, (show DrOK g0 _ by have h9 := hcov.1.2.2.2; unfold DrOK at h9 ⊢; rw [hJ.env.2.2.2]; exact h9)⟩
  · intro b ob hb; exact hcov.2 b ob (hJ.keep b ob hb)
  · intro i si b hi ho hb
    rcases hget i si hi with ⟨h1, h2⟩ | ⟨rfl, rfl⟩ | ⟨rfl, rfl⟩
    · rw [hρ i h1] at hb; exact (hHo i si b h2 ho hb).2.2
    · rw [e0] at hb; cases hb; exact hJ.own.1
    · rw [e1] at hb; exact (hrB b hb).2.2
  · intro i l e hi
    rcases hget i _ hi with ⟨h1, h2⟩ | ⟨_, h2⟩ | ⟨_, h2⟩
    · exact belowL_mono (by simp) l (hS.scp i l e h2)
    · cases h2; simp [belowL, below]
    · cases h2
  · intro i m s seen st hi
    rcases hget i _ hi with ⟨h1, h2⟩ | ⟨_, h2⟩ | ⟨_, h2⟩
    · have := hS.sci i m s seen st h2; simp; omega
    · cases h2
    · cases h2
  · intro j gh b hj
    rcases hget j _ hj with ⟨_, h2⟩ | ⟨_, h2⟩ | ⟨_, h2⟩
    · exact (no_heap hp h2).elim
    · cases h2
    · cases h2
  · intro j i gh b si hj
    rcases hget j _ hj with ⟨_, h2⟩ | ⟨_, h2⟩ | ⟨_, h2⟩
    · exact (no_heap hp h2).elim
    · cases h2
    · cases h2
  · intro j i gh b si hj
    rcases hget j _ hj with ⟨_, h2⟩ | ⟨_, h2⟩ | ⟨_, h2⟩
    · exact (no_heap hp h2).elim
    · cases h2
    · cases h2
end
end Go.V

namespace Go.V
open Go
set_option linter.unusedSectionVars false
variable [Mode]

section
variable {P : Program} {ρ : Rho} {H : List SO} {g : Fr} {w : World}

/-- The last entry goes over to the frame. -/
theorem St.toFrame {ρ1 : Rho} {l : List SV} {tS : TypeId} {W : World} (h0 : St ρ H g w) (h : St ρ1 (H ++ [.cells l tS]) g W) (hρ : ∀ k, k < H.length → ρ1 k = ρ k) {Bs : Nat} (hB : ρ1 H.length = some Bs) {o : Obj} (ho : W.heap[Bs]? = some o) :
    St ρ H (g.at Bs (some o)) W := by
  have hget : ∀ (i : Nat) s, H[i]? = some s → (H ++ [SO.cells l tS])[i]? = some s := fun i s hi => by
    rw [List.getElem?_append_left (List.getElem?_eq_some_iff.1 hi).1]; exact hi
  have hlast : (H ++ [SO.cells l tS])[H.length]? = some (.cells l tS) := by rw [List.getElem?_append_right (Nat.le_refl _)]; simp
  have hlt : ∀ {i : Nat} {s : SO}, H[i]? = some s → i < H.length := fun hi => (List.getElem?_eq_some_iff.1 hi).1
  constructor
  · intro k s hk
    refine entryOK_congr (ρ := ρ1) (hlt hk) (h.ent k s (hget k s hk)) (fun j hj => (hρ j hj).symm) ?_ ?_ (fun b o' _ hb _ _ => hb)
    · rintro l e rfl; exact h0.scp k l e hk
    · rintro m s' seen st rfl; exact h0.sci k m s' seen st hk
  · intro i j si sj b hij hi hj ho hoj hb
    rw [← hρ i (hlt hi)] at hb
    rw [← hρ j (hlt hj)]
    exact h.dis i j si sj b hij (hget i si hi) (hget j sj hj) ho hoj hb
  · intro i j si gh b hi ho hj hb
    rw [← hρ i (hlt hi)] at hb
    exact h.gho i j si gh b (hget i si hi) ho (hget j _ hj) hb
  · exact h.env
  · intro b ob hb
    simp only [Fr.at] at hb
    split at hb
    · rename_i e; subst e; cases hb; exact ho
    · exact h.frm b ob hb
  · intro i si b hi hos hb
    simp only [Fr.at]
    rw [← hρ i (hlt hi)] at hb
    split
    · rename_i e; subst e
      exact absurd hB (h.dis i H.length si _ b (by have := hlt hi; omega) (hget i si hi) hlast hos (.inl rfl) hb)
    · exact h.frd i si b (hget i si hi) hos hb
  · exact h0.scp
  · exact h0.sci
  · intro j gh b hj hb
    simp only [Fr.at]
    split
    · rename_i e; subst e
      exact absurd hB (h.hpo j H.length gh b _ (hget j _ hj) hb hlast (.inl rfl))
    · exact h.hpf j gh b (hget j _ hj) hb
  · exact h0.hpo
  · exact h0.hpc

variable {α : Type} {tS tE : TypeId} {n : Option Nat} {sz by' : Nat} {zs zsl : List Value} {sv : α → SV} {cells : α → List Value}

theorem ApJ.turn {g0 gf : Fr} {Bs D l : Nat} {rec : Loop} {xs : List α} (h : ApJ tS tE sz cells g0 Bs D l rec xs gf) (rec' : Loop) : ApJ tS tE sz cells g0 Bs D l rec' xs (gf.at l (some (.loop rec'))) := by
  obtain ⟨r, o, c, ys, hBs, hlen, hrow⟩ := h.row
  have hlB : Bs ≠ l := by
    rintro rfl
    have := h.lrec; rw [hBs] at this; cases this
  have hlD : D ≠ l := by
    rintro rfl
    have := h.lrec; rw [h.dd] at this; cases this
  refine ⟨h.env, ?_, by simp [Fr.at], ?_, h.own, r, o, c, ys, ?_, hlen, ?_⟩
  · intro b ob hb
    simp only [Fr.at]
    rw [if_neg (by rintro rfl; rw [h.own.2.1] at hb; cases hb)]; exact h.keep b ob hb
  · simp only [Fr.at]; rw [if_neg hlD]; exact h.dd
  · simp only [Fr.at]; rw [if_neg hlB]; exact hBs
  · rcases hrow with h1 | ⟨b, fr, e1, e2, e3⟩
    · exact .inl h1
    · refine .inr ⟨b, fr, e1, ?_, e3⟩
      simp only [Fr.at]
      rw [if_neg (by rintro rfl; rw [h.lrec] at e2; cases e2)]; exact e2

theorem owned_not_deferred {i b : Nat} {so : SO} {ds : Option (List Deferred)} (h : entryOK ρ w i so) (ho : so.owned = true) (hr : ρ i = some b) (hb : w.heap[b]? = some (.deferred ds)) : False := by
  cases so <;> simp only [entryOK, SO.owned] at h ho
  case cells l e => obtain ⟨b', h1, h2⟩ := h; rw [hr] at h1; cases h1; rw [hb] at h2; cases h2
  case arr xs e =>
    rcases h with ⟨h1, _⟩ | ⟨b', fr, h1, h2, _⟩
    · rw [hr] at h1; cases h1
    · rw [hr] at h1; cases h1; rw [hb] at h2; cases h2
  case map es c => obtain ⟨b', h1, h2⟩ := h; rw [hr] at h1; cases h1; rw [hb] at h2; cases h2
  case iter m s seen st => obtain ⟨b', h1, h2⟩ := h; rw [hr] at h1; cases h1; rw [hb] at h2; cases h2
  case siter s p => obtain ⟨b', h1, h2⟩ := h; rw [hr] at h1; cases h1; rw [hb] at h2; cases h2
  all_goals cases ho

/-- Function f is slices.AppendSeq at these types. -/
def IsAp (P : Program) (f : FuncId) (tS tE : TypeId) (n : Option Nat) (sz by' : Nat) (zs zsl : List Value) : Prop :=
  ∃ (fn : Func) (i0 i1 i2 i3 i4 b0 b1 : Nat) (ops0 ops1 ops2 ops3 ops4 : Array Oper), P.funcs[f]? = some fn ∧
    fn.body = some (.seq (.region i0 ops0 false) (.seq (.seq (.region i1 ops1 false) (.block b0 (.rangeFunc (.tmp 6) #[7] (.region i2 ops2 false) (.block b1 (.region i3 ops3 false))))) (.seq (.region i4 ops4 false) .ret))) ∧
    ops0.toList.mapM (cIns P ops0) = some [⟨some 2, none, .box tS (.t 0)⟩, ⟨some 4, none, .mov (.c (.raw (.slice none 0 0)))⟩] ∧
    ops1.toList.mapM (cIns P ops1) = some [⟨some 6, none, .mov (.t 1)⟩] ∧
    ops2.toList.mapM (cIns P ops2) = some (apL2 tE n zs) ∧ ops3.toList.mapM (cIns P ops3) = some (apL3 tE n sz by' zs zsl) ∧
    ops4.toList.mapM (cIns P ops4) = some [⟨some 12, none, .load none (.t 2)⟩, ⟨some 4, none, .mov (.t 12)⟩] ∧ fn.ntmps = 13 ∧ fn.results = #[.tmp 4]
end
end Go.V

namespace Go.V
open Go
set_option linter.unusedSectionVars false
variable [Mode]

section
variable {P : Program} {α : Type} {tS tE : TypeId} {n : Option Nat} {sz by' : Nat} {zs zsl : List Value} {sv : α → SV} {cells : α → List Value}

theorem ap_ctr {f gq : FuncId} {caps : List SV} {H : List SO} {S : List α → Prop} {N : Nat} (h : Elem P tE n sz by' zs sv cells) (hzl : zsl.length = sz) (hap : IsAp P f tS tE n sz by' zs zsl)
    (hg : Gives P gq caps H (fun x => V.val (fun _ => none) (sv x)) S N) (he : enters P gq = true) (hN : N * by' ≤ 1099511627776) (hp : plainH H = true) :
    Ctr P f [.raw (.slice none 0 0), .fn gq caps] H (fun x H' => ∃ order o c ys, S order ∧ x = .sl (H.length + 1) o order.length c ∧ H' = H ++ [.gone, .arr ys tE] ∧
      order.length ≤ c ∧ o + c * sz ≤ ys.length ∧ (ys.drop o).take (order.length * sz) = order.flatMap cells) := by
  obtain ⟨fn, i0, i1, i2, i3, i4, b0, b1, ops0, ops1, ops2, ops3, ops4, hf, hbody, c0, c1, c2, c3, c4, hnt, hres⟩ := hap
  intro ρ g w hS hb
  have hbc : belowL H.length caps = true := by simpa [belowL, below] using hb
  refine (callsIn_wide (n := 0)).1 (callsIn_of_wp_marks (F := Fence.wide) (n := 0) hf hbody trivial ?_ rfl)
  have hA : At P ρ H g w [.raw (.slice none 0 0), .fn gq caps, un, un, un, un, un, un, un, un, un, un, un]
      { tmps := (valL ρ [.raw (.slice none 0 0), .fn gq caps]).toArray ++ Array.replicate (fn.ntmps - (valL ρ [.raw (.slice none 0 0), .fn gq caps]).toArray.size) undef, defers := [] } := by
    refine ⟨?_, by simp [belowL, below, hbc], hS⟩
    simp only [Frm, hnt]
    apply Array.toList_inj.1
    simp [valL, val, undef, List.replicate]
  refine wpIn_seq (vcReg_regionIn (.inl rfl) c0 (Q' := fun t' H' => t' = [.raw (.slice none 0 0), .fn gq caps, .ptr H.length 0, un, .raw (.slice none 0 0), un, un, un, un, un, un, un, un] ∧ H' = H ++ [.cells [.raw (.slice none 0 0)] tS]) ?_ hA rfl ?_)
  rotate_left 1
  · simp [vcReg, vcIns, vcOp, evK, getK, putK_eq, put, newHK_eq, one]
  rintro a1 w1 ⟨ρ1, t1, H1, hA1, hd1, hρ1, _, rfl, rfl⟩
  refine wpIn_seq (wpIn_seq (vcReg_regionIn (.inl rfl) c1 (Q' := fun t' H' => t' = [.raw (.slice none 0 0), .fn gq caps, .ptr H.length 0, un, .raw (.slice none 0 0), un, .fn gq caps, un, un, un, un, un, un] ∧ H' = H ++ [.cells [.raw (.slice none 0 0)] tS]) ?_ hA1 hd1 ?_))
  rotate_left 1
  · simp [vcReg, vcIns, vcOp, evK, getK, putK_eq, put]
  rintro a2 w2 ⟨ρ2, t2, H2, hA2, hd2, hρ2, _, rfl, rfl⟩
  have hρ : ∀ k, k < H.length → ρ2 k = ρ k := fun k hk => (hρ2 k (by simp; omega)).trans (hρ1 k hk)
  refine wpIn_block (wpIn_rangeFunc ?_)
  intro fn' _
  obtain ⟨Bs, hBρ, hBh⟩ := hA2.s.ent H.length (.cells [.raw (.slice none 0 0)] tS) (by simp)
  have hBh' : w2.heap[Bs]? = some (.cells #[.slice none 0 0] tS (0, 0)) := by simpa [valL, val] using hBh
  have hBlt : Bs < w2.heap.size := (Array.getElem?_eq_some_iff.1 hBh').1
  let D := w2.heap.size
  let l := w2.heap.size + 1
  let rec' : Loop := { state := .ready, pending := none, fn := fn', tmps := a2.tmps, params := #[7], assign := .region i2 ops2 false, body := .block b1 (.region i3 ops3 false), defers := D }
  let capsV := (valL ρ2 caps).toArray
  have hcaps : valL ρ2 caps = valL ρ caps := valL_congr hρ caps hbc
  have hev : a2.eval (.tmp 6) = .func (.func gq) #[] capsV := by
    rw [hA2.eq (y := .t 6) rfl]; simp [ev, val, capsV]
  -- the state that the iterator sees
  have s1 : St ρ H (g.at Bs (some (.cells #[.slice none 0 0] tS (0, 0)))) w2 := hS.toFrame hA2.s hρ hBρ hBh'
  have s2 := s1.allocFrame (.deferred (some []))
  have s3 := s2.allocFrame (.loop rec')
  have hsz : (w2.alloc (.deferred (some []))).heap.size = l := by simp [l]
  rw [hsz] at s3
  have hDl : D ≠ l := by simp [D, l]
  have hBD : Bs ≠ D := by simp only [D]; omega
  have hBl : Bs ≠ l := by simp only [l]; omega
  have hgB : g.f Bs = none := hA2.s.frd H.length (.cells [.raw (.slice none 0 0)] tS) Bs (by simp) rfl hBρ
  have hgN : ∀ b, w2.heap.size ≤ b → g.f b = none := by
    intro b hb
    cases hx : g.f b with
    | none => rfl
    | some o =>
      have := (Array.getElem?_eq_some_iff.1 (hA2.s.frm b o hx)).1
      omega
  have hJ0 : ApJ tS tE sz cells g Bs D l rec' ([] : List α) (((g.at Bs (some (.cells #[.slice none 0 0] tS (0, 0)))).at D (some (.deferred (some [])))).at l (some (.loop rec'))) := by
    refine ⟨⟨rfl, rfl, rfl, rfl⟩, ?_, by simp [Fr.at], by simp [Fr.at, hDl], ⟨hgB, hgN l (by simp [l]), hgN D (by simp [D])⟩, none, 0, 0, [], ?_, by simp, .inl ⟨rfl, rfl⟩⟩
    · intro b o hb
      have k1 : b ≠ Bs := by rintro rfl; rw [hgB] at hb; cases hb
      have k2 : b ≠ D := by rintro rfl; rw [hgN D (by simp [D])] at hb; cases hb
      have k3 : b ≠ l := by rintro rfl; rw [hgN l (by simp [l])] at hb; cases hb
      simp only [Fr.at]
      rw [if_neg k3, if_neg k2, if_neg k1]; exact hb
    · simp only [Fr.at]
      rw [if_neg hBl, if_neg hBD]; simp
  have htm : a2.tmps = #[.slice none 0 0, .func (.func gq) #[] capsV, .pointer (some ⟨Bs, 0, none⟩), undef, .slice none 0 0, undef, .func (.func gq) #[] capsV, undef, undef, undef, undef, undef, undef] := by
    rw [hA2.f]
    simp [valL, val, undef, hBρ, capsV]
  have hround := ap_round (tS := tS) (Bs := Bs) (g0 := g) (D := D) (l := l) (rec := rec') h hzl c2 c3 rfl rfl rfl rfl rfl htm hN
  refine ⟨l, [{ target := .collected D, args := #[] }], (w2.alloc (.deferred (some []))).alloc (.loop rec'), { target := .fn (.func gq) capsV, args := #[.func (.yield l) #[] #[]] }, (w2.alloc (.deferred (some []))).alloc (.loop rec'), gq, #[.func (.yield l) #[] #[]] ++ capsV, (w2.alloc (.deferred (some []))).alloc (.loop rec'),
    run_enterLoop_outer fn' a2.tmps #[7] (.region i2 ops2 false) (.block b1 (.region i3 ops3 false)), ?_, fun _ _ => trivial, ?_, (fun hh => (by cases hh)), ?_⟩
  · have ha : (#[Operand.const (.func (.yield l) #[] #[])] : Array Operand).map a2.eval = #[.func (.yield l) #[] #[]] := by simp [Act.eval]
    simp only [resolve, hev, ha, Deferred.ofValue, Sem.run_pure]
    simp
  · simp only [invoke]; exact run_enters he _
  refine callsIn_wide.2 ?_
  have hcall := hg l _ ρ _ _ s3 hbc hJ0 hround
  rw [show (#[.func (.yield l) #[] #[]] ++ capsV : Array Value) = #[.func (.yield l) #[] #[]] ++ (valL ρ caps).toArray by simp only [capsV, hcaps]]
  refine Calls.mono hcall ?_
  rintro e w3 ⟨⟨v, rfl⟩, order, gf, hSo, hJ3, hS3⟩
  have hcov3 := hS3.isCov
  have hl3 : w3.heap[l]? = some (.loop rec') := hcov3.2 _ _ hJ3.lrec
  have hend := run_endLoop (P := P) hl3 (by simp [rec'])
  refine ⟨_, _, hend, ?_⟩
  -- behind the loop
  have hS4 := hS3.outside hp (o' := .loop { rec' with state := .exhausted }) hJ3.lrec
  have hJ4 := hJ3.turn { rec' with state := .exhausted }
  have hD4 := hS4.isCov.2 D _ hJ4.dd
  obtain ⟨r, o, c, ys, hlen, hS5⟩ := ap_join hp hS4 hJ4
  have hS6 : St _ _ (g.at D (some (.deferred (some [])))) _ := hS5.cov (g' := g.at D (some (.deferred (some [])))) ⟨hS5.env, fun b ob hb => by
    simp only [Fr.at] at hb
    split at hb
    · rename_i e; subst e; cases hb; exact hD4
    · exact hS5.frm b ob hb⟩ (fun i si b hi ho hb => by
      simp only [Fr.at]
      split
      · rename_i e; subst e; exact (owned_not_deferred (hS5.ent i si hi) ho hb hD4).elim
      · exact hS5.frd i si b hi ho hb) (fun j gh b hj => (no_heap (plainH_app hp (l := [.cells [.sl (H.length + 1) o order.length c] tS, .arr ys tE]) (by simp [plainH, SO.owned])) hj).elim)
  have e0 : upd (upd ρ H.length (some Bs)) (H.length + 1) r H.length = some Bs := by rw [upd_lt _ _ (by omega), upd_same]
  have hA5 : At P (upd (upd ρ H.length (some Bs)) (H.length + 1) r) (H ++ [.cells [.sl (H.length + 1) o order.length c] tS, .arr ys tE]) (g.at D (some (.deferred (some [])))) (w3.putObj l (.loop { rec' with state := .exhausted }))
      [.raw (.slice none 0 0), .fn gq caps, .ptr H.length 0, un, .raw (.slice none 0 0), un, .fn gq caps, un, un, un, un, un, un] { a2 with defers := [{ target := .collected D, args := #[] }] ++ a2.defers } := by
    refine ⟨?_, ?_, hS6⟩
    · simp only [Frm, htm]
      have hc5 : valL (upd (upd ρ H.length (some Bs)) (H.length + 1) r) caps = valL ρ caps := valL_congr (fun k hk => by rw [upd_lt _ _ (by omega), upd_lt _ _ hk]) caps hbc
      apply Array.toList_inj.1
      simp [valL, val, undef, e0, capsV, hcaps, hc5]
    · have := belowL_mono (show H.length ≤ (H ++ [SO.cells [.sl (H.length + 1) o order.length c] tS, .arr ys tE]).length by simp) caps hbc
      simp [belowL, below] at this ⊢
      exact this
  refine wpIn_seq (vcReg_regionIn (.inl rfl) c4 (Q' := fun t' H' => t' = [.raw (.slice none 0 0), .fn gq caps, .ptr H.length 0, un, .sl (H.length + 1) o order.length c, un, .fn gq caps, un, un, un, un, un, .sl (H.length + 1) o order.length c] ∧ H' = H ++ [.cells [.sl (H.length + 1) o order.length c] tS, .arr ys tE]) ?_ hA5 rfl ?_)
  rotate_left 1
  · have ho : obj (H ++ [SO.cells [.sl (H.length + 1) o order.length c] tS, .arr ys tE]) H.length = .cells [.sl (H.length + 1) o order.length c] tS := by simp [obj]
    simp [vcReg, vcIns, vcOp, evK, getK, putK_eq, put, vcLoad, objK_eq, ho]
  rintro a6 w6 ⟨ρ6, t6, H6, hA6, hd6, hρ6, _, rfl, rfl⟩
  refine wpIn_ret ?_
  have hD6 : w6.heap[D]? = some (.deferred (some [])) := hA6.s.frm D _ (by simp [Fr.at])
  show LeavesInM Fence.wide 0 P fn a6.tmps _ a6.defers .returning w6
  rw [hd6, hd2]
  refine ⟨by simp, .inl ⟨D, _, rfl, run_takeDeferred hD6, ?_⟩⟩
  have hres6 : (results fn a6.tmps).run P (w6.putObj D (.deferred none)) = .ok (val ρ6 (.sl (H.length + 1) o order.length c)) (w6.putObj D (.deferred none)) := by
    have ht6 : a6.tmps.getD 4 undef = val ρ6 (.sl (H.length + 1) o order.length c) := by
      rw [hA6.f]; exact val_getD ρ6 _ 4
    unfold results
    rw [hres, Array.mapM_eq_mapM_toList]
    simp only [List.mapM_cons, List.mapM_nil, Sem.run_bind, Sem.run_map, Sem.run_pure, Result.andThen_ok, ht6]
    simp
  show LeavesIn Fence.wide 0 P fn a6.tmps _ [] .returning _
  refine ⟨_, hres6, ρ6, _, H ++ [.gone, .arr ys tE], rfl, ?_, ?_, by simp, by simp [below], order, o, c, ys, hSo, rfl, rfl, hlen.1, hlen.2.1, hlen.2.2⟩
  · have hS7 := hA6.s.outside (o' := .deferred none) (l := D) (o := .deferred (some [])) ?_ (by simp [Fr.at])
    · have hS8 := hS7.cov (g' := g) ⟨hS7.env, fun b ob hb => hS7.frm b ob (by
        simp only [Fr.at]
        have k2 : b ≠ D := by rintro rfl; rw [hgN D (by simp [D])] at hb; cases hb
        rw [if_neg k2, if_neg k2]; exact hb)⟩ (fun i si b hi ho hb => by
          have := hS7.frd i si b hi ho hb
          simp only [Fr.at] at this
          split at this
          · cases this
          · exact this) (fun j gh b hj => (no_heap (plainH_app hp (l := [.cells [.sl (H.length + 1) o order.length c] tS, .arr ys tE]) (by simp [plainH, SO.owned])) hj).elim)
      have := hS8.giveUp H.length
      simpa using this
    · have : ∀ (H : List SO), plainH H = true → ∀ l, plainH l = true → plainH (H ++ l) = true := by
        intro H
        induction H with
        | nil => intro _ l hl; exact hl
        | cons s H ih =>
          intro hs l hl
          cases s <;> simp [plainH, SO.owned] at hs ⊢ <;> exact ih hs l hl
      exact this H hp _ (by simp [plainH, SO.owned])
  · intro k hk
    rw [hρ6 k (by simp; omega), upd_lt _ _ (by omega), upd_lt _ _ hk]
end
end Go.V

namespace Go.V
open Go
set_option linter.unusedSectionVars false
variable [Mode]

section
variable {P : Program} {ρ : Rho} {H : List SO} {g : Fr} {w : World} {t : List SV} {a : Act} {ops : Array Oper} {Q : Exit → Act → World → Prop}

theorem callv_inv {o : Oper} {y : Opd} {l : List Opd} (hc : cOp P o = some (.callv y l)) : ∃ x args ats, o.op = .call { callee := .value x, args := args, argTypes := ats } ∧ cOpd x = some y ∧ cOpds args = some l := by
  unfold cOp at hc
  split at hc
  case h_32 x args ats _ ho =>
    simp only [Option.bind_eq_bind, Option.bind_eq_some_iff, Option.pure_def, Option.some.injEq, VOp.callv.injEq] at hc
    obtain ⟨y', hx, l', hl, rfl, rfl⟩ := hc
    exact ⟨x, args, ats, ho, hx, hl⟩
  all_goals
    exfalso
    revert hc
    repeat' split
    all_goals simp [Option.bind_eq_some_iff]

/-- One operation of a region, in the In-calculus. -/
theorem ins_in {F : Fence} (hF : F = Fence.wide ∨ ∃ l, F = Fence.wide.inRound l) {n : Nat} {dd : List Deferred} {i : Nat} {rest : List Nat} {o : Oper} {x : VIns} (ho : ops[i]? = some o) (hc : cIns P ops o = some x) {K : List SV → List SO → Prop}
    (h : At P ρ H g w t a) (hd : a.defers = dd) (hv : vcIns P x t H K) (hr : ∀ a' w', NxtD dd P ρ H g K a' w' → wpOpsIn F n P ops Q rest a' w') : wpOpsIn F n P ops Q (i :: rest) a w := by
  obtain ⟨t', h', hcase⟩ := vcIns_cases hc h hv
  simp only [wpOpsIn, ho]
  rcases hcase with ⟨hw, hop, _⟩ | ⟨hw, hk⟩
  · rw [if_pos hw]
    have hco := (cIns_spec hc).1
    have := wpIn_of_good (Q := Q) hF (n := n) (K := K) h' hd (not_defer hco) (vcOp_sound h' hco hop).1
    obtain ⟨u1, u2⟩ := this
    refine ⟨u1, ?_⟩
    generalize (o.semAt F.round a.eval).run P w = r at *
    cases r with
    | halt x w' => cases x <;> exact u2
    | ok m w' =>
      cases m <;> simp only [Oper.uponIn] at u2 ⊢
      case value v => exact hr _ _ u2
      case skip => exact hr _ _ u2
      case defer d => exact hr _ _ u2
      case enter f args => exact ⟨u2.1, CallsIn.mono u2.2 fun e w'' he => by cases e <;> first | exact hr _ _ he | exact he⟩
      case row row args => exact ⟨u2.1, RowsIn.mono u2.2 fun _ _ he => hr _ _ he⟩
      case round l f tmps assign body => exact ⟨u2.1, RoundIn.mono u2.2 fun e w'' he => by cases e <;> first | exact hr _ _ he | exact he⟩
  · rw [if_neg (by rw [hw]; simp)]
    exact ⟨fun f _ => (asks0_of hF).1 f, hr _ _ (NxtD.here h' hd o.dst (sv := un) rfl hk)⟩

/-- A call of yield. -/
theorem yield_in {l : Nat} {i : Nat} {rest : List Nat} {o : Oper} {y : Opd} {y2 : Opd} {dst : Option Nat} (ho : ops[i]? = some o) (hc : cIns P ops o = some ⟨dst, none, .callv y [y2]⟩)
    (h : At P ρ H g w t a) (hy : ev t y = .raw (.func (.yield l) #[] #[])) {R : Ending → World → Prop} (hY : YieldAt Fence.wide 0 P l #[val ρ (ev t y2)] w R)
    (hr : ∀ e w', R e w' → ∃ v, e = .returned v ∧ wpOpsIn Fence.wide 0 P ops Q rest (a.put dst v) w') : wpOpsIn Fence.wide 0 P ops Q (i :: rest) a w := by
  obtain ⟨hco, hdst, hgd⟩ := cIns_spec hc
  obtain ⟨x, args, ats, hop, hx, hargs⟩ := callv_inv hco
  have hgn : o.guard = none := by
    rcases hgd with ⟨h1, _⟩ | ⟨j, gd, want, _, _, h3⟩
    · exact h1
    · cases h3
  simp only [wpOpsIn, ho]
  rw [if_pos (by simp [Region.wanted, hgn])]
  refine ⟨fun _ _ => trivial, ?_⟩
  rw [Oper.semAt_eq _ _ _ (not_defer hco)]
  obtain ⟨fn, tmps, assign, body, hrun, hround⟩ := hY
  have e1 : a.eval x = .func (.yield l) #[] #[] := by rw [h.eq hx, hy]; rfl
  have e2 : args.map a.eval = #[val ρ (ev t y2)] := by
    obtain ⟨h1, _⟩ := evL_map h hargs
    apply Array.toList_inj.1
    simpa [evL, valL] using h1
  have hex : (execOp a.eval o).run P w = .ok (.round l fn tmps assign body) w := by
    simp only [execOp, hop, resolve, e1, e2, Deferred.ofValue, Sem.run_bind, Sem.run_pure, Result.andThen_ok, invoke]
    simpa using hrun
  rw [hex]
  refine ⟨fun hh => (by cases hh), RoundIn.mono hround fun e w' he => ?_⟩
  obtain ⟨v, rfl, hv⟩ := hr e w' he
  rw [← hdst]; exact hv
end
end Go.V

namespace Go.V
open Go
set_option linter.unusedSectionVars false
variable [Mode]

/-- Function f is maps.Keys's (which = 0) or maps.Values's (which = 1) iterator. -/
def itL2 (tE : TypeId) (n : Option Nat) (zs : List Value) (which : Nat) : List VIns := [⟨some 8, none, .entry (.t 5)⟩, ⟨some 9, none, .extr (.t 8) which⟩, ⟨some 3, none, .new tE zs⟩, ⟨none, none, .store n (.t 3) (.t 9)⟩]
def itL3 (n : Option Nat) : List VIns := [⟨some 10, none, .mov (.t 0)⟩, ⟨some 11, none, .load n (.t 3)⟩, ⟨some 12, none, .callv (.t 10) [.t 11]⟩, ⟨some 13, none, .un .not (.t 12)⟩]
def IsIt (P : Program) (f : FuncId) (tE : TypeId) (n : Option Nat) (zs : List Value) (which : Nat) : Prop :=
  ∃ (fn : Func) (i0 i1 i2 i3 b0 b1 : Nat) (ops0 ops1 ops2 ops3 : Array Oper), P.funcs[f]? = some fn ∧
    fn.body = some (.seq (.region i0 ops0 false) (.block b0 (.loop (.seq (.region i1 ops1 false) (.seq (.cond (.tmp 7) .skip (.exit b0)) (.block b1 (.seq (.region i2 ops2 false) (.seq (.region i3 ops3 false) (.cond (.tmp 13) .ret .skip))))))))) ∧
    ops0.toList.mapM (cIns P ops0) = some [⟨some 4, none, .load none (.t 1)⟩, ⟨some 5, none, .range false (.t 4)⟩] ∧
    ops1.toList.mapM (cIns P ops1) = some [⟨some 6, none, .next false (.t 5)⟩, ⟨some 7, none, .extr (.t 6) 0⟩] ∧
    ops2.toList.mapM (cIns P ops2) = some (itL2 tE n zs which) ∧ ops3.toList.mapM (cIns P ops3) = some (itL3 n) ∧ fn.ntmps = 14 ∧ fn.results = #[]

section
variable {P : Program} {α : Type} {tE : TypeId} {n : Option Nat} {sz by' : Nat} {zs : List Value} {sv : α → SV} {cells : α → List Value}

/-- A round keeps what the iterator owns. -/
theorem St.round {ρ : Rho} {H : List SO} {g g' : Fr} {W W' : World} (h : St ρ H g W) (hp : plainH H = true) (hc : Cov W' g') (he : ExtF g W g' W') : St ρ H g' W' := by
  have ow : ∀ (i : Nat) si b, H[i]? = some si → si.owned = true → ρ i = some b → ∀ o, W.heap[b]? = some o → W'.heap[b]? = some o ∧ g'.f b = none :=
    fun i si b hi ho hb o hw => he b o hw (h.frd i si b hi ho hb)
  constructor
  · intro k s hk
    rcases plainH_spec hp k s hk with h1 | h1
    · refine entryOK_congr (n := H.length) (List.getElem?_eq_some_iff.1 hk).1 (h.ent k s hk) (fun _ _ => rfl) ?_ ?_ ?_
      · rintro l e rfl; exact h.scp k l e hk
      · rintro m s' seen st rfl; exact h.sci k m s' seen st hk
      · intro b o _ hb hor _
        exact (ow k s b hk h1 (hor (.inl h1)) o hb).1
    · subst h1; trivial
  · exact h.dis
  · exact h.gho
  · exact hc.1
  · exact hc.2
  · intro i si b hi ho hb
    have hlt := entryOK_lt (h.ent i si hi) (.inl ho) hb
    exact (ow i si b hi ho hb _ (Array.getElem?_eq_getElem hlt)).2
  · exact h.scp
  · exact h.sci
  · intro j gh b hj; exact (no_heap hp hj).elim
  · intro j i gh b si hj; exact (no_heap hp hj).elim
  · intro j i gh b si hj; exact (no_heap hp hj).elim

theorem it_l2 (h : Elem P tE n sz by' zs sv cells) {tB : TypeId} {es : List MapEntry} {c s : Nat} {seen : List Nat} {which : Nat} {e : MapEntry} (x : α)
    (hlast : seen.getLast? = some s) (hfind : es.find? (·.born == s) = some e) (hx : [svConst e.key, svConst e.val][which]? = some (sv x)) (u0 u1 u2 u3 u4 u6 u7 u8 u9 u10 u11 u12 u13 : SV) :
    vcReg P (itL2 tE n zs which) [u0, u1, u2, u3, u4, .ptr 2 0, u6, u7, u8, u9, u10, u11, u12, u13] [.cells [.mp 1] tB, .map es c, .iter (some 1) c seen c]
      (fun t' H' => (∃ v8, t' = [u0, u1, u2, .ptr 3 0, u4, .ptr 2 0, u6, u7, v8, sv x, u10, u11, u12, u13]) ∧ H' = [.cells [.mp 1] tB, .map es c, .iter (some 1) c seen c, .cells ((cells x).map .raw) tE]) := by
  simp only [itL2, vcReg, vcIns, vcOp, putK_eq, put, evK, getK, vcEntry, objK]
  refine ⟨s, e, hlast, hfind, trivial, ?_⟩
  simp only [List.set_cons_succ, List.set_cons_zero, getK, hx, rawsK_eq, newHK_eq, List.length_cons, List.length_nil, Nat.reduceAdd, List.cons_append, List.nil_append, vcStore, h.stored x, objK]
  simp only [paste_all (zs.map SV.raw) ((cells x).map SV.raw) (by simp [h.len x, h.zlen]), setHK_eq, List.set_cons_succ, List.set_cons_zero]
  exact ⟨⟨_, rfl⟩, trivial⟩
end
end Go.V

namespace Go.V
open Go
set_option linter.unusedSectionVars false
variable [Mode]

omit [Mode] in
theorem born_inj {es : List MapEntry} (hnd : (es.map (·.born)).Nodup) : ∀ {x y : MapEntry}, x ∈ es → y ∈ es → x.born = y.born → x = y := by
  induction es with
  | nil => intro x y hx; simp at hx
  | cons z es ih =>
    simp only [List.map_cons, List.nodup_cons] at hnd
    intro x y hx hy hxy
    rcases List.mem_cons.1 hx with h1 | h1 <;> rcases List.mem_cons.1 hy with h2 | h2
    · rw [h1, h2]
    · exact absurd (List.mem_map.2 ⟨y, h2, by rw [← hxy, h1]⟩) hnd.1
    · exact absurd (List.mem_map.2 ⟨x, h1, by rw [hxy, h2]⟩) hnd.1
    · exact ih hnd.2 h1 h2 hxy
omit [Mode] in
theorem nodup_len {A : Type} [DecidableEq A] : ∀ {l m : List A}, l.Nodup → l ⊆ m → l.length ≤ m.length
  | [], _, _, _ => by simp
  | x :: l, m, hn, hs => by
    have hx : x ∈ m := hs (by simp)
    simp only [List.nodup_cons] at hn
    have h1 : l ⊆ m.erase x := by
      intro y hy
      have : y ≠ x := by rintro rfl; exact hn.1 hy
      exact (List.mem_erase_of_ne this).2 (hs (by simp [hy]))
    have h2 := nodup_len hn.2 h1
    have h3 := List.length_pos_of_mem hx
    rw [List.length_erase_of_mem hx] at h2
    simp only [List.length_cons]; omega
omit [Mode] in
theorem nodup_of_map {A B : Type} (f : A → B) : ∀ {l : List A}, (l.map f).Nodup → l.Nodup
  | [], _ => List.nodup_nil
  | x :: l, h => by
    simp only [List.map_cons, List.nodup_cons] at h
    exact List.nodup_cons.2 ⟨fun hx => h.1 (List.mem_map.2 ⟨x, hx, rfl⟩), nodup_of_map f h.2⟩
omit [Mode] in
theorem perm_born {es pre : List MapEntry} (hnd : (es.map (·.born)).Nodup) (hndp : (pre.map (·.born)).Nodup) (hsub : ∀ e, e ∈ pre → e ∈ es) (hall : ∀ e, e ∈ es → e.born ∈ pre.map (·.born)) : pre.Perm es := by
  refine (List.perm_ext_iff_of_nodup (nodup_of_map _ hndp) (nodup_of_map _ hnd)).2 fun e => ⟨hsub e, fun he => ?_⟩
  obtain ⟨p, hp, hpe⟩ := List.mem_map.1 (hall e he)
  rw [← born_inj hnd (hsub p hp) he hpe]; exact hp
omit [Mode] in
theorem find_born {es : List MapEntry} (hnd : (es.map (·.born)).Nodup) {e : MapEntry} (he : e ∈ es) : es.find? (·.born == e.born) = some e := by
  cases hf : es.find? (·.born == e.born) with
  | none =>
    have := List.find?_eq_none.1 hf e he
    simp at this
  | some x =>
    have h1 := List.find?_some hf
    have h2 := List.mem_of_find?_eq_some hf
    rw [born_inj hnd h2 he (by simpa using h1)]
omit [Mode] in
theorem len_born {es pre : List MapEntry} (hndp : (pre.map (·.born)).Nodup) (hsub : ∀ e, e ∈ pre → e ∈ es) {e : MapEntry} (he : e ∈ es) (hne : e.born ∉ pre.map (·.born)) : pre.length < es.length := by
  have hn : (pre ++ [e]).Nodup := by
    rw [List.nodup_append]
    refine ⟨nodup_of_map _ hndp, by simp, fun x hx y hy => ?_⟩
    simp at hy; subst hy
    rintro rfl; exact hne (List.mem_map.2 ⟨x, hx, rfl⟩)
  have hs : (pre ++ [e]) ⊆ es := by
    intro x hx
    rcases List.mem_append.1 hx with h1 | h1
    · exact hsub x h1
    · simp at h1; exact h1 ▸ he
  classical
  have := nodup_len hn hs
  simp only [List.length_append, List.length_cons, List.length_nil] at this; omega

section
variable {P : Program} {α : Type} {tE : TypeId} {n : Option Nat} {sz by' : Nat} {zs : List Value} {sv : α → SV} {cells : α → List Value}

theorem St.names {ρ ρ' : Rho} {H : List SO} {g : Fr} {w : World} (h : St ρ H g w) (hr : ∀ k, k < H.length → ρ' k = ρ k) : St ρ' H g w := by
  have hlt : ∀ {i : Nat} {s : SO}, H[i]? = some s → i < H.length := fun hi => (List.getElem?_eq_some_iff.1 hi).1
  constructor
  · intro k s hk
    refine entryOK_congr (hlt hk) (h.ent k s hk) hr ?_ ?_ (fun b o _ hb _ _ => hb)
    · rintro l e rfl; exact h.scp k l e hk
    · rintro m s' seen st rfl; exact h.sci k m s' seen st hk
  · intro i j si sj b hij hi hj ho hoj hb
    rw [hr i (hlt hi)] at hb; rw [hr j (hlt hj)]
    exact h.dis i j si sj b hij hi hj ho hoj hb
  · intro i j si gh b hi ho hj hb
    rw [hr i (hlt hi)] at hb
    exact h.gho i j si gh b hi ho hj hb
  · exact h.env
  · exact h.frm
  · intro i si b hi ho hb
    rw [hr i (hlt hi)] at hb
    exact h.frd i si b hi ho hb
  · exact h.scp
  · exact h.sci
  · exact h.hpf
  · intro j i gh b si hj hb hi ho
    rw [hr i (hlt hi)]; exact h.hpo j i gh b si hj hb hi ho
  · exact h.hpc

theorem it_gives {f : FuncId} {which : Nat} (h : Elem P tE n sz by' zs sv cells) (hit : IsIt P f tE n zs which) {tB : TypeId} {es : List MapEntry} {c : Nat} (elt : MapEntry → α)
    (hel : ∀ e, e ∈ es → [svConst e.key, svConst e.val][which]? = some (sv (elt e))) (hborn : ∀ e, e ∈ es → e.born < c) (hnd : (es.map (·.born)).Nodup) :
    Gives P f [.ptr 0 0] [.cells [.mp 1] tB, .map es c] (fun x => V.val (fun _ => none) (sv x)) (fun xs => ∃ order : List MapEntry, order.Perm es ∧ xs = order.map elt) es.length := by
  obtain ⟨fn, i0, i1, i2, i3, b0, b1, ops0, ops1, ops2, ops3, hf, hbody, c0, c1, c2, c3, hnt, hres⟩ := hit
  intro l J ρ g W hS hb hJ hR
  refine (callsIn_wide (n := 0)).1 (callsIn_of_wp hf hbody trivial ?_ rfl)
  have hA : At P ρ [.cells [.mp 1] tB, .map es c] g W [.raw (.func (.yield l) #[] #[]), .ptr 0 0, un, un, un, un, un, un, un, un, un, un, un, un]
      { tmps := (#[Value.func (.yield l) #[] #[]] ++ (valL ρ [.ptr 0 0]).toArray) ++ Array.replicate (fn.ntmps - (#[Value.func (.yield l) #[] #[]] ++ (valL ρ [.ptr 0 0]).toArray).size) undef, defers := [] } := by
    refine ⟨?_, by simp [belowL, below], hS⟩
    simp only [Frm, hnt]
    apply Array.toList_inj.1
    simp [valL, val, undef, List.replicate]
  refine wpIn_seq (vcReg_regionIn (.inl rfl) c0 (Q' := fun t' H' => t' = [.raw (.func (.yield l) #[] #[]), .ptr 0 0, un, un, .mp 1, .ptr 2 0, un, un, un, un, un, un, un, un] ∧ H' = [.cells [.mp 1] tB, .map es c, .iter (some 1) c [] c]) ?_ hA rfl ?_)
  rotate_left 1
  · simp [vcReg, vcIns, vcOp, evK, getK, putK_eq, put, newHK_eq, vcLoad, objK]
  rintro a1 w1 ⟨ρ1, t1, H1, hA1, hd1, hρ1, _, rfl, rfl⟩
  refine wpIn_block ((wpIn_wide (n := 0)).2 ?_)
  let live : List (Nat × SV) := [(0, .raw (.func (.yield l) #[] #[])), (1, .ptr 0 0), (4, .mp 1), (5, .ptr 2 0)]
  let t0 : List SV := [un, un, un, un, un, un, un, un, un, un, un, un, un, un]
  let Hit : List MapEntry → List SO := fun pre => [.cells [.mp 1] tB, .map es c, .iter (some 1) c (pre.map (·.born)) c]
  refine wp_loop_ghost (X := List MapEntry) (fun pre a w => (∀ e, e ∈ pre → e ∈ es) ∧ (pre.map (·.born)).Nodup ∧ ∃ gf gv, J (pre.map elt) gf ∧ Sat P 2 ρ gf (fun t' H' => t' = headT gv 0 t0 live ∧ H' = Hit pre) a w)
    (fun pre => es.length - pre.length) [] ⟨by simp, by simp, g, ?_⟩ ?_
  · obtain ⟨gv, hs⟩ := fits_sat (n0 := 2) (ρ0 := ρ) (t0 := t0) (σ := [0, 1, 2]) (live := live) (H0 := Hit []) ⟨rfl, rfl, rfl⟩ hA1 hd1 (fun k hk => hρ1 k (by simpa using hk))
    exact ⟨gv, hJ, hs⟩
  rintro pre a2 w2 ⟨hsub, hndp, gf, gv, hJ2, ρ2, t2, H2, hA2, hd2, hρ2, _, rfl, rfl⟩
  refine (wpIn_wide (n := 0)).1 ?_
  let T : SV → SV → List SV := fun v6 v7 => [.raw (.func (.yield l) #[] #[]), .ptr 0 0, .raw (gv 2), .raw (gv 3), .mp 1, .ptr 2 0, v6, v7, .raw (gv 8), .raw (gv 9), .raw (gv 10), .raw (gv 11), .raw (gv 12), .raw (gv 13)]
  refine wpIn_seq (vcReg_regionIn (.inl rfl) c1 (Q' := fun t' H' => ((∀ e, e ∈ es → e.born ∈ pre.map (·.born)) ∧ (∃ v6, t' = T v6 (.kb false)) ∧ H' = Hit pre) ∨ ∃ e, e ∈ es ∧ e.born ∉ pre.map (·.born) ∧ (∃ v6, t' = T v6 (.kb true)) ∧ H' = Hit (pre ++ [e])) ?_ hA2 hd2 ?_)
  rotate_left 1
  · show vcReg P _ (T (.raw (gv 6)) (.raw (gv 7))) (Hit pre) _
    simp only [T, Hit, vcReg, vcIns, vcOp, evK, getK, putK_eq, put, vcNext, objK]
    refine ⟨⟨hborn, Nat.le_refl _⟩, fun hall => ?_, fun e he hne => ?_⟩
    · exact .inl ⟨hall, ⟨_, rfl⟩, trivial⟩
    · rw [setHK_eq]
      exact .inr ⟨e, he, hne, ⟨_, rfl⟩, by simp⟩
  rintro a3 w3 ⟨ρ3, t3, H3, hA3, hd3, hρ3, _, hcase⟩
  have hnames : ∀ k, k < 2 → ρ3 k = ρ k := fun k hk => (hρ3 k (by simp [Hit]; omega)).trans (hρ2 k hk)
  rcases hcase with ⟨hall, ⟨v6, rfl⟩, rfl⟩ | ⟨e, he, hne, ⟨v6, rfl⟩, rfl⟩
  · refine wpIn_seq (wpIn_cond_false (by rw [hA3.eq (y := .t 7) rfl]; rfl) (wpIn_exit ?_))
    simp only [Exit.then, Exit.inBlock, if_true]
    refine ⟨hd3, .tuple #[], by simp [results, hres], ⟨_, rfl⟩, pre.map elt, gf, ⟨pre, ?_, rfl⟩, hJ2, ?_⟩
    · exact perm_born hnd hndp hsub hall
    · have := hA3.s.pick (σ := [0, 1]) (H0 := [.cells [.mp 1] tB, .map es c]) rfl rfl
      exact this.names fun k hk => by
        match k, hk with
        | 0, _ => exact (hnames 0 (by omega)).symm
        | 1, _ => exact (hnames 1 (by omega)).symm
  · refine wpIn_seq (wpIn_cond_true (by rw [hA3.eq (y := .t 7) rfl]; rfl) (wpIn_skip ?_))
    have hlast : (pre.map (·.born) ++ [e.born]).getLast? = some e.born := by simp
    have hfind : es.find? (·.born == e.born) = some e := find_born hnd he
    have hA3' : At P ρ3 [.cells [.mp 1] tB, .map es c, .iter (some 1) c (pre.map (·.born) ++ [e.born]) c] gf w3 (T v6 (.kb true)) a3 := by
      simpa [Hit] using hA3
    refine wpIn_block (wpIn_seq (vcReg_regionIn (.inl rfl) c2 ?_ hA3' hd3 (it_l2 h (elt e) hlast hfind (hel e he) _ _ _ _ _ _ _ _ _ _ _ _ _)))
    rintro a4 w4 ⟨ρ4, t4, H4, hA4, hd4, hρ4, _, ⟨v8, rfl⟩, rfl⟩
    obtain ⟨m1, m2⟩ := mapM_get c3
    have hsz : ops3.size = 4 := by simpa [itL3] using m1.symm
    have hop : ∀ (j : Nat) x, (itL3 n)[j]? = some x → ∃ o, ops3[j]? = some o ∧ cIns P ops3 o = some x := by
      intro j x hx
      have := m2 j
      rw [hx] at this
      obtain ⟨o, h1, h2⟩ := Option.bind_eq_some_iff.1 this
      exact ⟨o, by simpa using h1, h2⟩
    obtain ⟨o0, p0, q0⟩ := hop 0 _ rfl
    obtain ⟨o1, p1, q1⟩ := hop 1 _ rfl
    obtain ⟨o2, p2, q2⟩ := hop 2 _ rfl
    obtain ⟨o3, p3, q3⟩ := hop 3 _ rfl
    refine wpIn_seq (wpIn_region ?_)
    rw [hsz]
    show wpOpsIn Fence.wide 0 P ops3 _ [0, 1, 2, 3] a4 w4
    let T4 : SV → SV → SV → List SV := fun v10 v11 v12 => [.raw (.func (.yield l) #[] #[]), .ptr 0 0, .raw (gv 2), .ptr 3 0, .mp 1, .ptr 2 0, v6, .kb true, v8, sv (elt e), v10, v11, v12, .raw (gv 13)]
    let H4 : List SO := [.cells [.mp 1] tB, .map es c, .iter (some 1) c (pre.map (·.born) ++ [e.born]) c, .cells ((cells (elt e)).map .raw) tE]
    have hload : ∀ K : SV → Prop, K (sv (elt e)) → vcLoad n (.ptr 3 0) H4 K := by
      intro K hK
      rcases h.sv_cells (elt e) with ⟨rfl, v, e1, e2⟩ | ⟨m, rfl, e1⟩
      · rw [e1] at hK
        simp only [H4, vcLoad, objK, e2, List.map_cons, List.map_nil, List.getElem?_cons_zero]
        exact hK
      · have hm : m = ((cells (elt e)).map SV.raw).length := by
          have := (shape_some h.shape).2
          rw [h.size] at this
          simp [h.len (elt e), (Option.some.inj this).symm]
        rw [e1] at hK
        simp only [H4, vcLoad, objK, hm, cut_all]
        exact hK
    refine ins_in (.inl rfl) p0 q0 (K := fun t' H' => t' = T4 (.raw (.func (.yield l) #[] #[])) (.raw (gv 11)) (.raw (gv 12)) ∧ H' = H4) hA4 hd4 ?_ ?_
    · simp [vcIns, vcOp, evK, getK, putK_eq, put, T4, H4]
    rintro a5 w5 ⟨ρ5, t5, H5, hA5, hd5, hρ5, _, rfl, rfl⟩
    refine ins_in (.inl rfl) p1 q1 (K := fun t' H' => t' = T4 (.raw (.func (.yield l) #[] #[])) (sv (elt e)) (.raw (gv 12)) ∧ H' = H4) hA5 hd5 ?_ ?_
    · simp only [vcIns, vcOp, evK, getK, putK_eq, T4]
      exact hload _ ⟨rfl, trivial⟩
    rintro a6 w6 ⟨ρ6, t6, H6, hA6, hd6, hρ6, _, rfl, rfl⟩
    have hlen : (pre.map elt).length < es.length := by
      rw [List.length_map]; exact len_born hndp hsub he hne
    have hY := hR (pre.map elt) (elt e) gf w6 0 hJ2 hlen hA6.s.isCov
    refine yield_in p2 q2 hA6 rfl (by rw [show V.val ρ6 (ev (T4 (.raw (.func (.yield l) #[] #[])) (sv (elt e)) (.raw (gv 12))) (.t 11)) = V.val (fun _ => none) (sv (elt e)) from h.val _ _ _]; exact hY) ?_
    rintro _ w7 ⟨rfl, gf', hJ', hcov, hext⟩
    refine ⟨_, rfl, ?_⟩
    have hS7 := hA6.s.round (by simp [H4, plainH, SO.owned]) hcov hext
    have hA7 : At P ρ6 H4 gf' w7 (T4 (.raw (.func (.yield l) #[] #[])) (sv (elt e)) (.kb true)) (a6.put (some 12) (.bool true)) := ⟨hA6.f.put (some 12) (.kb true), belowL_put hA6.b (some 12) rfl, hS7⟩
    refine ins_in (.inl rfl) p3 q3 (K := fun t' H' => t' = (T4 (.raw (.func (.yield l) #[] #[])) (sv (elt e)) (.kb true)).set 13 (.kb false) ∧ H' = H4) hA7 hd6 ?_ ?_
    · simp [vcIns, vcOp, evK, getK, putK_eq, put, T4, vcUn]
    rintro a8 w8 ⟨ρ8, t8, H8, hA8, hd8, hρ8, _, rfl, rfl⟩
    show Exit.then _ _ .normal a8 w8
    refine wpIn_cond_false (by rw [hA8.eq (y := .t 13) rfl]; rfl) (wpIn_skip ?_)
    have hn8 : ∀ k, k < 2 → ρ8 k = ρ k := by
      intro k hk
      rw [hρ8 k (by simp [H4]; omega), hρ6 k (by simp [H4]; omega), hρ5 k (by simp; omega), hρ4 k (by simp; omega), hnames k hk]
    obtain ⟨gv', hs⟩ := fits_sat (n0 := 2) (ρ0 := ρ) (t0 := t0) (σ := [0, 1, 2]) (live := live) (H0 := Hit (pre ++ [e])) ⟨rfl, by simp [Hit, H4, pickH, renH, asked, obj, SO.ren, renL, ren, sub], rfl⟩ hA8 hd8 hn8
    refine ⟨pre ++ [e], ⟨?_, ?_, gf', gv', by simpa using hJ', hs⟩, ?_⟩
    · intro x hx
      rcases List.mem_append.1 hx with h1 | h1
      · exact hsub x h1
      · simp at h1; exact h1 ▸ he
    · rw [List.map_append, List.nodup_append]
      refine ⟨hndp, by simp, fun x hx y hy => ?_⟩
      simp at hy; subst hy
      rintro rfl; exact hne hx
    · have : pre.length < es.length := by simpa using hlen
      simp; omega
end
end Go.V

namespace Go.V
open Go Go.Proofs
set_option linter.unusedSectionVars false
variable [Mode]

/-! ### slices.SortFunc, by the library's law -/
section
variable {P : Program} {α : Type} {ρ : Rho} {H : List SO} {g : Fr} {w w' : World}

theorem St.grow (h : St ρ H g w) {os : Array Obj} (hwe : HeapIs w w' (w.heap ++ os)) : St ρ H g w' := by
  have hw := hwe.1
  have hold : ∀ (b : Nat) (o' : Obj), w.heap[b]? = some o' → w'.heap[b]? = some o' := by
    intro b o' hb
    have hlt := (Array.getElem?_eq_some_iff.1 hb).1
    rw [hw, Array.getElem?_append_left hlt]; exact hb
  constructor
  · intro k s hk
    refine entryOK_congr (List.getElem?_eq_some_iff.1 hk).1 (h.ent k s hk) (fun _ _ => rfl) ?_ ?_ (fun b o' _ hb _ _ => hold b o' hb)
    · rintro l e rfl; exact h.scp k l e hk
    · rintro m s' seen st rfl; exact h.sci k m s' seen st hk
  · exact h.dis
  · exact h.gho
  · exact hwe.env h
  · intro b o hb; exact hold b o (h.frm b o hb)
  · exact h.frd
  · exact h.scp
  · exact h.sci
  · exact h.hpf
  · exact h.hpo
  · exact h.hpc

theorem St.empty (ρ : Rho) (W : World) : St ρ [] ⟨fun b => W.heap[b]?, W.os, W.tape, W.output, Mode.dr W⟩ W := by
  constructor
  · intro k so hk; simp at hk
  · intro i j si sj b _ hi; simp at hi
  · intro i j si h b hi; simp at hi
  · exact ⟨rfl, rfl, rfl, Mode.dr_le W, Mode.dr_lax W⟩
  · intro b o h; exact h
  · intro i si b hi; simp at hi
  · intro k l e hk; simp at hk
  · intro k m s seen st hk; simp at hk
  · intro j gh b hj; simp at hj
  · intro j i gh b si hj; simp at hj
  · intro j i gh b si hj; simp at hj

/-- What a contract without blocks leaves of the world. -/
theorem ctr_grows {f : FuncId} {args : List SV} {Post : SV → List SO → Prop} (h : @Ctr strictM P f args [] Post) (W : World) (ha : belowL 0 args = true) {vs : Array Value}
    (hv : (valL (fun _ => none) args).toArray = vs) {r : Value} (hp : ∀ v H ρ', Post v H → val ρ' v = r) :
    Calls P f vs W fun e w' => e = .returned r ∧ ∃ q os', w' = Sort.grow (W.drewN q) os' := by
  subst hv
  refine Calls.mono (h (fun _ => none) _ W (@St.empty strictM _ W) ha) ?_
  rintro e w' ⟨ρ', v, H', rfl, hS, -, -, -, hP⟩
  refine ⟨by rw [hp v H' ρ' hP], w'.drawn - W.drawn, w'.heap.extract W.heap.size, ?_⟩
  obtain ⟨h1, h2, h3, h4⟩ := @St.env strictM _ _ _ _ hS
  have hle : W.heap.size ≤ w'.heap.size := by
    rcases Nat.eq_zero_or_pos W.heap.size with h | h
    · omega
    · have := @St.frm strictM _ _ _ _ hS (W.heap.size - 1) _ (Array.getElem?_eq_getElem (xs := W.heap) (by omega))
      have := (Array.getElem?_eq_some_iff.1 this).1
      omega
  have hh : w'.heap = W.heap ++ w'.heap.extract W.heap.size := by
    apply Array.ext_getElem?
    intro i
    by_cases hi : i < W.heap.size
    · rw [Array.getElem?_append_left hi]
      rw [@St.frm strictM _ _ _ _ hS i _ (Array.getElem?_eq_getElem hi)]; simp [hi]
    · rw [Array.getElem?_append_right (by omega), Array.getElem?_extract]
      by_cases hj : i < w'.heap.size
      · rw [if_pos (by omega)]; congr 1; omega
      · rw [if_neg (by omega)]; simp; omega
  have hd : w'.drawn = W.drawn + (w'.drawn - W.drawn) := by have h5 : W.drawn ≤ w'.drawn := h4.1; omega
  cases w'
  simp only at h1 h2 h3 hh hd
  simp only [Sort.grow, World.drewN, World.mk.injEq]
  exact ⟨hh, h2, hd, h1, h3⟩

omit [Mode] in
theorem val_raws (ρ : Rho) : ∀ l : List Value, valL ρ (l.map .raw) = l
  | [] => rfl
  | v :: l => by simp [valL, V.val, val_raws ρ l]

omit [Mode] in
theorem flatMap_get [Inhabited α] {f : α → List Value} {k : Nat} (hk : ∀ x, (f x).length = k) : ∀ (l : List α) (t : Nat), t < l.length * k → (l.flatMap f)[t]? = (f l[t / k]!)[t % k]?
  | [], t, h => by simp at h
  | x :: l, t, h => by
    rw [List.flatMap_cons]
    have k0 : 0 < k := by rcases Nat.eq_zero_or_pos k with h0 | h0; · subst h0; simp at h
                          · exact h0
    by_cases h1 : t < k
    · rw [List.getElem?_append_left (by rw [hk]; exact h1), Nat.div_eq_of_lt h1, Nat.mod_eq_of_lt h1]; rfl
    · rw [List.getElem?_append_right (by rw [hk]; omega), hk]
      have h2 : t - k < l.length * k := by rw [List.length_cons, Nat.add_mul] at h; omega
      rw [flatMap_get hk l (t - k) h2]
      have e1 : t / k = (t - k) / k + 1 := by rw [← Nat.sub_add_cancel (Nat.le_of_not_lt h1), Nat.add_div_right _ k0]; simp
      have e2 : t % k = (t - k) % k := by rw [Nat.mod_eq_sub_mod (by omega)]
      rw [e1, e2]; simp
omit [Mode] in
theorem flatK_flatMap [Inhabited α] {f : α → List Value} {k : Nat} (hk : ∀ x, (f x).length = k) (l : List α) : Sort.flatK f k l.toArray = (l.flatMap f).toArray := by
  have hlen : ∀ l : List α, (l.flatMap f).length = l.length * k := by
    intro l; induction l with
    | nil => simp
    | cons x l ih => simp [ih, hk, Nat.add_mul]; omega
  apply Array.ext_getElem?
  intro t
  by_cases h : t < l.length * k
  · rw [show (l.flatMap f).toArray[t]? = (l.flatMap f)[t]? from by simp, flatMap_get hk l t h]
    have k0 : 0 < k := by rcases Nat.eq_zero_or_pos k with h0 | h0; · subst h0; simp at h
                          · exact h0
    have := Sort.get_flatK f k l.toArray t (by simpa using h)
    have hs : t < (Sort.flatK f k l.toArray).size := by simpa using h
    rw [getElem!_pos _ t hs] at this
    rw [Array.getElem?_eq_getElem hs, this]
    have hm : t % k < (f l[t / k]!).length := by rw [hk]; exact Nat.mod_lt _ k0
    rw [List.getElem?_eq_getElem hm, getElem!_pos (f l.toArray[t / k]!) _ (by simpa using hm)]
    simp
  · rw [Array.getElem?_eq_none (by simp; omega), Array.getElem?_eq_none (by simp [hlen]; omega)]

omit [Mode] in
theorem flatMap_len {f : α → List Value} {k : Nat} (hk : ∀ x, (f x).length = k) (l : List α) : (l.flatMap f).length = l.length * k := by
  induction l with
  | nil => simp
  | cons x l ih => simp [ih, hk, Nat.add_mul]; omega

/-- The row with ys at o. -/
def rowSet (xs : List Value) (o : Nat) (ys : List Value) : List Value := xs.take o ++ ys ++ xs.drop (o + ys.length)
omit [Mode] in
theorem rowSet_len {xs : List Value} {o : Nat} {ys : List Value} (h : o + ys.length ≤ xs.length) : (rowSet xs o ys).length = xs.length := by
  simp [rowSet]; omega
omit [Mode] in
theorem rowSet_cut {xs : List Value} {o : Nat} {ys : List Value} (h : o + ys.length ≤ xs.length) : ((rowSet xs o ys).drop o).take ys.length = ys := by
  have h1 : (xs.take o).length = o := by simp; omega
  rw [rowSet, List.append_assoc, List.drop_append_of_le_length (by omega), List.drop_eq_nil_of_le (by omega), List.nil_append, List.take_append_of_le_length (by omega), List.take_of_length_le (by omega)]
omit [Mode] in
theorem rowSet_self {xs : List Value} {o n : Nat} (h : o + n ≤ xs.length) : rowSet xs o ((xs.drop o).take n) = xs := by
  have h1 : ((xs.drop o).take n).length = n := by simp; omega
  rw [rowSet, h1, ← List.drop_drop, List.append_assoc, List.take_append_drop, List.take_append_drop]
omit [Mode] in
theorem putCells_rowSet {xs : List Value} {o : Nat} {ys : List Value} (h : o + ys.length ≤ xs.length) : Sort.putCells id o ys.toArray xs.toArray = (rowSet xs o ys).toArray := by
  have h1 : (xs.take o).length = o := by simp; omega
  apply Array.ext_getElem?
  intro t
  simp only [Sort.putCells, Array.getElem?_mapIdx, List.size_toArray, id]
  rw [show (rowSet xs o ys).toArray[t]? = (rowSet xs o ys)[t]? from by simp, show xs.toArray[t]? = xs[t]? from by simp, rowSet, List.append_assoc]
  by_cases h2 : t < o
  · rw [List.getElem?_append_left (by omega), List.getElem?_take_of_lt h2, List.getElem?_eq_getElem (by omega)]
    simp [show ¬ (o ≤ t) by omega]
  · rw [List.getElem?_append_right (by omega), h1]
    by_cases h3 : t < o + ys.length
    · rw [List.getElem?_append_left (by omega), List.getElem?_eq_getElem (by omega), List.getElem?_eq_getElem (by omega)]
      have : t - o < ys.toArray.size := by simp; omega
      simp [show o ≤ t ∧ t < o + ys.length by omega, getElem!_pos ys.toArray (t - o) this]
    · rw [List.getElem?_append_right (by omega), List.getElem?_drop, show o + ys.length + (t - o - ys.length) = t by omega]
      by_cases h4 : t < xs.length
      · rw [List.getElem?_eq_getElem h4]; simp [show ¬ (t < o + ys.length) by omega]
      · rw [List.getElem?_eq_none (by omega)]; rfl

omit [Mode] in
theorem cellsOK_one : ∀ {l : List Value}, cellsOK l = true → ∀ v ∈ l, v.oneCell' = true
  | [], _, v, hv => by simp at hv
  | x :: l, h, v, hv => by
    have h2 : cellsOK l = true ∧ x.oneCell' = true := by
      cases x <;> simp_all [cellsOK, Value.oneCell']
    rcases List.mem_cons.1 hv with rfl | hv
    · exact h2.2
    · exact cellsOK_one h2.1 v hv

omit [Mode] in
theorem array_extract_all (d : Array α) : d.extract 0 d.size = d := by simp

/-- slices.SortFunc at elements of k cells: a permutation, sorted. -/
theorem sortK_ctr [Inhabited α] {r : Shelf.Ren} (L : SlLaysF0.n6 P r) {k : Nat} (aE : ∀ w, (isAgg (r.t 24)).run P w = .ok true w) (zE : ∀ w, (Go.sizeOf (r.t 24)).run P w = .ok k w) {cells : α → List Value} (hk : ∀ x, (cells x).length = k) (k0 : 0 < k)
    (h1 : ∀ x, cellsOK (cells x) = true) (cf : α → α → Int) (hO : Sort.SWO (ltOf cf)) {gq : FuncId} (he : enters P gq = true)
    (hcmp : ∀ x y, @Ctr strictM P gq [.agg ((cells x).map .raw), .agg ((cells y).map .raw)] [] (fun v _ => v = .raw (.int .i64 (cf x y))))
    {H : List SO} {j off cap : Nat} {xs : List Value} {e : TypeId} (hj : H[j]? = some (.arr xs e)) (d : List α) (hd : (xs.drop off).take (d.length * k) = d.flatMap cells) (hlen : off + d.length * k ≤ xs.length) (hsz : d.length < 4611686018427387904) :
    Ctr P (r.f 6) [.sl j off d.length cap, .fn gq []] H (fun v H' => v = .tup [] ∧ ∃ d' : List α, d'.Perm d ∧ d'.Pairwise (fun a b => ltOf cf b a = false) ∧ H' = H.set j (.arr (rowSet xs off (d'.flatMap cells)) e)) := by
  intro ρ g w hS hb
  have hjl := (List.getElem?_eq_some_iff.1 hj).1
  have hent := hS.ent j _ hj
  have hfl := flatMap_len hk d
  simp only [valL, V.val]
  rcases hent with ⟨hn, hx⟩ | ⟨b, fr, hρ, hwb, hfr⟩
  · subst hx
    have hd0 : d = [] := by
      cases d with
      | nil => rfl
      | cons x d =>
        have := Nat.mul_pos (show 0 < (x :: d).length by simp) k0
        simp only [List.length_nil] at hlen; omega
    subst hd0
    refine Calls.mono (AnyF.slices_SortFunc_none L _ _ _ w) ?_
    rintro e' w' ⟨rfl, rfl⟩
    refine ⟨ρ, .tup [], H, rfl, hS, fun _ _ => rfl, Nat.le_refl _, rfl, rfl, [], List.Perm.refl _, List.Pairwise.nil, ?_⟩
    have : rowSet [] off (List.flatMap cells []) = [] := by simp [rowSet]
    rw [this]
    apply List.ext_getElem?
    intro i
    by_cases hij : j = i
    · subst hij; rw [List.getElem?_set_self hjl, hj]
    · simp [hij]
  · have hHold : Sort.HoldsK cells k w b off d.toArray := by
      unfold Sort.HoldsK
      rw [flatK_flatMap hk]
      intro i hi
      have hi : i < d.length * k := by simpa [hfl] using hi
      have hg : xs[off + i]? = some ((d.flatMap cells).toArray[i]!) := by
        have hi2 : i < (d.flatMap cells).length := by omega
        have h3 : ((xs.drop off).take (d.length * k))[i]? = (d.flatMap cells)[i]? := by rw [hd]
        rw [List.getElem?_take_of_lt hi, List.getElem?_drop, List.getElem?_eq_getElem hi2] at h3
        rw [h3, getElem!_pos _ _ (by simpa using hi2)]; simp
      constructor
      · rw [cell_of hwb]; simpa using hg
      · have := (List.getElem?_eq_some_iff.1 hg).1
        simp only [World.frozen?, hwb]
        rcases hfr with h5 | h5
        · simp; omega
        · simp; omega
    have hblk : b < w.heap.size := (Array.getElem?_eq_some_iff.1 hwb).1
    rw [show (ρ j).map (fun b => (⟨b, off, none⟩ : Addr)) = some ⟨b, off, none⟩ by rw [hρ]; rfl]
    refine Calls.mono (AnyQ.slices_SortFunc L k aE zE cells hk (fun x => cellsOK_one (h1 x)) cf hO gq #[] b off cap d.toArray w (fun args w => run_enters he args) ?_ hHold hblk (by simpa using hsz)) ?_
    · intro m os dk _ x y
      exact ctr_grows (hcmp x y) _ (by simp [belowL, below, below_raws]) (by simp [valL, V.val, val_raws]) (r := .int .i64 (cf x y)) (by rintro v H ρ' rfl; rfl)
    · rintro e' w' ⟨rfl, d', n, os, hp, hso, rfl⟩
      obtain ⟨hp1, hp2, hp3⟩ := hp
      have hds : d'.size = d.length := by simpa using hp1
      have hperm : d'.toList.Perm d := by
        have e1 : d'.extract 0 d.toArray.size = d' := by rw [List.size_toArray, ← hds]; exact array_extract_all d'
        have e2 : d.toArray.extract 0 d.toArray.size = d.toArray := array_extract_all _
        rw [e1, e2] at hp3
        simpa using hp3
      have hfl' : (d'.toList.flatMap cells).length = d.length * k := by rw [flatMap_len hk, Array.length_toList, hds]
      refine ⟨ρ, .tup [], H.set j (.arr (rowSet xs off (d'.toList.flatMap cells)) e), rfl, ?_, fun _ _ => rfl, by simp, rfl, rfl, d'.toList, hperm, ?_, rfl⟩
      · have hw1 : HeapIs w (Sort.putRowK cells k (Sort.ahead w n) b off d') (w.heap.setIfInBounds b (.cells (rowSet xs off (d'.toList.flatMap cells)).toArray e fr)) := by
          refine ⟨?_, rfl, rfl, rfl, Nat.le_add_right _ _⟩
          show (Sort.putRow id (Sort.ahead w n) b off (Sort.flatK cells k d')).heap = _
          rw [show d' = d'.toList.toArray by simp, flatK_flatMap hk]
          simp only [Sort.putRow, Sort.mapBlock, Sort.ahead]
          apply Array.ext_getElem?
          intro i
          by_cases hi : b = i
          · subst hi
            rw [Array.getElem?_modify, if_pos rfl, hwb]
            simp only [Option.map_some, Sort.onCells, Array.getElem?_setIfInBounds, if_pos hblk]
            rw [putCells_rowSet (by omega)]; simp
          · rw [Array.getElem?_modify, if_neg hi, Array.getElem?_setIfInBounds_ne hi]
        have hS1 := hS.set (so' := .arr (rowSet xs off (d'.toList.flatMap cells)) e) hj rfl rfl hρ hw1
          (.inr ⟨b, fr, hρ, by rw [hw1.1]; simp [hblk], by rw [rowSet_len (by omega)]; exact hfr⟩) (by simp) (by simp)
        exact hS1.grow (os := os) ⟨rfl, rfl, rfl, rfl, Nat.le_refl _⟩
      · rw [List.pairwise_iff_getElem]
        intro i i' hi hi' hlt
        have := hso i i' (Nat.zero_le _) hlt (by simp at hi'; simpa [← hds] using hi')
        simp only [Array.length_toList] at hi hi'
        rw [getElem!_pos d' _ hi', getElem!_pos d' _ hi] at this
        simpa using this
omit [Mode] in
theorem cut_take {α : Type} : ∀ (l : List α) (o n : Nat), o + n ≤ l.length → cut l o n = some ((l.drop o).take n)
  | l, o, 0, _ => by cases l <;> cases o <;> simp [cut]
  | [], o, n + 1, h => by simp at h
  | x :: l, o + 1, n + 1, h => by
    rw [cut, cut_take l o (n + 1) (by simp at h; omega)]; simp
  | x :: l, 0, n + 1, h => by
    rw [cut, cut_take l 0 n (by simp at h; omega)]; simp
end
end Go.V

namespace Go.V
open Go Go.RowKit
set_option linter.unusedSectionVars false
variable [Mode]

/-! ### From a contract to the row's end -/
section
variable {P : Program}
/-- A call whose blocks are all read alone leaves what was there as it was. -/
theorem ctr_below {f : FuncId} {args : List SV} {H : List SO} {Post : SV → List SO → Prop} (h : Ctr P f args H Post) (W : World) (ρ : Rho)
    (hH : ∀ (k : Nat) so, H[k]? = some so → so.isRo = true ∧ entryOK ρ W k so) (ha : belowL H.length args = true) {vs : Array Value} (hv : (valL ρ args).toArray = vs) {r : Value} (hp : ∀ v H ρ', Post v H → val ρ' v = r) :
    Calls P f vs W fun e w' => e = .returned r ∧ Below W.heap.size W w' := by
  subst hv
  have hno : ∀ (k : Nat) so, H[k]? = some so → so.owned = true → False := by
    intro k so hk ho
    have := (hH k so hk).1
    cases so <;> simp_all [SO.isRo, SO.owned]
  have hS : St ρ H ⟨fun b => W.heap[b]?, W.os, W.tape, W.output, Mode.dr W⟩ W := by
    constructor
    · intro k so hk; exact (hH k so hk).2
    · intro i j si sj b _ hi _ ho; exact (hno i si hi ho).elim
    · intro i j si gh b hi ho; exact (hno i si hi ho).elim
    · exact ⟨rfl, rfl, rfl, Mode.dr_le W, Mode.dr_lax W⟩
    · intro b o h; exact h
    · intro i si b hi ho; exact (hno i si hi ho).elim
    · intro k l e hk; exact (hno k _ hk rfl).elim
    · intro k m s seen st hk; exact (hno k _ hk rfl).elim
    · intro j gh b hj; have := (hH j _ hj).1; cases this
    · intro j i gh b si hj; have := (hH j _ hj).1; cases this
    · intro j i gh b si hj; have := (hH j _ hj).1; cases this
  refine Calls.mono (h ρ _ W hS ha) ?_
  rintro e w' ⟨ρ', v, H', rfl, hS', -, -, -, hP⟩
  obtain ⟨h1, h2, h3, h4⟩ := hS'.env
  have hle : W.heap.size ≤ w'.heap.size := by
    rcases Nat.eq_zero_or_pos W.heap.size with h | h
    · omega
    · have := hS'.frm (W.heap.size - 1) _ (Array.getElem?_eq_getElem (xs := W.heap) (by omega))
      have := (Array.getElem?_eq_some_iff.1 this).1
      omega
  refine ⟨by rw [hp v H' ρ' hP], h1, h2, h3, hle, fun k hk => ?_⟩
  rw [hS'.frm k _ (Array.getElem?_eq_getElem hk)]; simp [hk]

omit [Mode] in
omit [Mode] in
/-- A slice that came in: nil, or in a block. -/
theorem open_sl {t e : TypeId} {W : World} {base : Nat} {a : Option Addr} {len cap : Nat} (ht : P.underlying t = some (.slice e)) (hv : Value.okWide P W .any base t (.slice a len cap)) :
    (a = none ∧ len = 0 ∧ cap = 0) ∨ ∃ b off xs e' fr, a = some ⟨b, off, none⟩ ∧ W.heap[b]? = some (.cells xs e' fr) ∧ len ≤ cap ∧ (cap : Int) ≤ IntKind.i64.max := by
  simp only [Value.okWide, ht, Cell.okWide] at hv
  cases a with
  | none =>
    left
    unfold Cell.ok at hv
    cases len <;> cases cap <;> simp_all
  | some a =>
    right
    unfold Cell.ok at hv
    simp only [ht] at hv
    obtain ⟨h1, h2, _, h3, row, cells, h4, _⟩ := hv
    obtain ⟨b, off, spot⟩ := a
    simp only at h3 h4
    subst h3
    unfold World.shape? at h4
    split at h4
    · rename_i c el fr hb
      exact ⟨b, off, c, el, fr, rfl, hb, h1, h2⟩
    · cases h4
/-- The block that a slice that came in lies in, as a block that is read. -/
def roOf (W : World) (a : Option Addr) : List Value × TypeId := match a with
  | none => ([], 0)
  | some a => match W.heap[a.block]? with
    | some (.cells xs e _) => (xs.toList, e)
    | _ => ([], 0)
def slOf (k : Nat) (a : Option Addr) (len cap : Nat) : SV := .sl k (match a with | none => 0 | some a => a.off) len cap
end
end Go.V

namespace Go.V
open Go Go.RowKit Go.ChangeShapes Go.WideShapes

/-! ### Arguments that come in -/
section
variable {P : Program} {H : Type} {enc : TypeId × Value → H} {W : World}

def roOK (W : World) (bo : Option Nat) (xs : List Value) (te : TypeId) : Prop := (bo = none ∧ xs = []) ∨ ∃ b fr, bo = some b ∧ W.heap[b]? = some (.cells xs.toArray te fr)

def pcl (k0 k1 : IntKind) (x : Int × Int) : List Value := [.int k0 x.1, .int k1 x.2]

/-- A slice of structs of two integers. -/
theorem open_pairs {t e : TypeId} {f0 f1 : Field} {k0 k1 : IntKind} {base : Nat} {a : Option Addr} {len cap : Nat} {d : DataW H} {p : List MemPlace} (ht : P.underlying t = some (.slice e)) (he : P.underlying e = some (.struct #[f0, f1]))
    (ce : P.cellsOf e = 2) (o0 : f0.offset = 0) (o1 : f1.offset = 1) (c0 : P.cellsOf f0.type = 1) (c1 : P.cellsOf f1.type = 1) (u0 : P.underlying f0.type = some (.int k0)) (u1 : P.underlying f1.type = some (.int k1))
    (hval : Value.okWide P W .any base t (.slice a len cap)) (h : DataW.Trod enc P W 0 (fun _ => true) true t (.slice a len cap) d p) :
    ∃ (ds : List (Int × Int)) (xs : List Value) (te : TypeId) (o : Nat) (bo : Option Nat), ds.length = len ∧ roOK W bo xs te ∧ bo.map (fun b => (⟨b, o, none⟩ : Addr)) = a ∧ len ≤ cap ∧
      (∀ x ∈ ds, (Lit.int k0 x.1).wf = true ∧ (Lit.int k1 x.2).wf = true) ∧ (0 < ds.length → o + ds.length * 2 ≤ xs.length ∧ (xs.drop o).take (ds.length * 2) = ds.flatMap (pcl k0 k1)) := by
  rcases open_sl ht hval with ⟨rfl, rfl, rfl⟩ | ⟨b, o, xs, te, fr, rfl, hb, hlc, _⟩
  · exact ⟨[], [], 0, 0, none, rfl, .inl ⟨rfl, rfl⟩, rfl, Nat.le_refl _, by simp, by simp⟩
  obtain ⟨fuel, hf⟩ := h
  rcases Go.Deep.open_slice_pairs ht he ce o0 o1 c0 c1 hf with ⟨hcs, _⟩ | ⟨a, l, c, m, n, V0, V1, D0, D1, P0, P1, hcs, _, hl, _, hm, _, hx⟩
  · simp [Value.cells] at hcs
  · simp only [Value.cells, List.cons.injEq, Value.slice.injEq, Option.some.injEq, and_true] at hcs
    obtain ⟨rfl, rfl, rfl⟩ := hcs
    simp only [if_true] at hm
    subst hm
    have each : ∀ i, i < m → ∃ q : Int × Int, xs[o + i * 2]? = some (.int k0 q.1) ∧ xs[o + i * 2 + 1]? = some (.int k1 q.2) ∧ (Lit.int k0 q.1).wf = true ∧ (Lit.int k1 q.2).wf = true := by
      intro i hi
      obtain ⟨g0, g1, g2, g3⟩ := hx i hi
      obtain ⟨x, e0, _, w0⟩ := DataW.trod_int u0 g2
      obtain ⟨y, e1, _, w1⟩ := DataW.trod_int u1 g3
      simp only [List.cons.injEq, and_true] at e0 e1
      rw [e0, add_eq, cell_of hb] at g0
      rw [e1, add_eq, cell_of hb] at g1
      exact ⟨(x, y), g0, by rw [Nat.add_assoc]; exact g1, w0, w1⟩
    obtain ⟨q, hq⟩ := Go.Deep.choose_lt each
    refine ⟨(List.range len).map q, xs.toList, te, o, some b, by simp, .inr ⟨b, fr, rfl, by simpa using hb⟩, rfl, hl, ?_, ?_⟩
    · intro x hx
      obtain ⟨i, hi, rfl⟩ := List.mem_map.1 hx
      have := hq i (by have := List.mem_range.1 hi; omega)
      exact ⟨this.2.2.1, this.2.2.2⟩
    · simp only [List.length_map, List.length_range]
      intro hpos
      have hlast := (hq (len - 1) (by omega)).2.1
      have hsz := (Array.getElem?_eq_some_iff.1 hlast).1
      have hbnd : o + len * 2 ≤ xs.toList.length := by simp; omega
      refine ⟨hbnd, ?_⟩
      have hk : ∀ x : Int × Int, (pcl k0 k1 x).length = 2 := fun _ => rfl
      apply List.ext_getElem?
      intro t
      by_cases ht : t < len * 2
      · rw [List.getElem?_take_of_lt ht, List.getElem?_drop, flatMap_get hk _ t (by simpa using ht)]
        have hi : t / 2 < len := by omega
        have hqi := hq (t / 2) (by omega)
        have hgi : ((List.range len).map q)[t / 2]! = q (t / 2) := by rw [getElem!_pos _ _ (by simpa using hi)]; simp
        rw [hgi]
        rcases Nat.mod_two_eq_zero_or_one t with h0 | h0
        · rw [h0, show o + t = o + t / 2 * 2 by omega]; simpa [pcl] using hqi.1
        · rw [h0, show o + t = o + t / 2 * 2 + 1 by omega]; simpa [pcl] using hqi.2.1
      · rw [List.getElem?_eq_none (by simp; omega), List.getElem?_eq_none (by rw [flatMap_len hk]; simp; omega)]
end
end Go.V

namespace Go.V
open Go
/-! ### Going through a map: which entries were met -/
section
variable {K V : Type} {enc : K → Value} {encv : V → Value}
theorem born_ents (ms : List (K × V × Nat)) : (ents enc encv ms).map (·.born) = ms.map (·.2.2) := by
  simp only [ents, List.map_map]; rfl
theorem trip_inj {ms : List (K × V × Nat)} (hnd : (ms.map (·.2.2)).Nodup) {x y : K × V × Nat} (hx : x ∈ ms) (hy : y ∈ ms) (h : x.2.2 = y.2.2) : x = y := by
  induction ms with
  | nil => simp at hx
  | cons z ms ih =>
    simp only [List.map_cons, List.nodup_cons] at hnd
    rcases List.mem_cons.1 hx with h1 | h1 <;> rcases List.mem_cons.1 hy with h2 | h2
    · rw [h1, h2]
    · exact absurd (List.mem_map.2 ⟨y, h2, by rw [← h, h1]⟩) hnd.1
    · exact absurd (List.mem_map.2 ⟨x, h1, by rw [h, h2]⟩) hnd.1
    · exact ih hnd.2 h1 h2
theorem find_ents {ms : List (K × V × Nat)} (hnd : (ms.map (·.2.2)).Nodup) {x : K × V × Nat} (hx : x ∈ ms) : (ents enc encv ms).find? (·.born == x.2.2) = some (ent enc encv x) :=
  find_born (e := ent enc encv x) (by rw [born_ents]; exact hnd) (List.mem_map.2 ⟨x, hx, rfl⟩)
/-- Those met: each once, all of the map. -/
structure Been (ms : List (K × V × Nat)) (pre : List (K × V × Nat)) (seen : List Nat) : Prop where
  eq : seen = pre.map (·.2.2)
  nd : seen.Nodup
  sub : ∀ x, x ∈ pre → x ∈ ms
theorem Been.nil (ms : List (K × V × Nat)) : Been ms [] [] := ⟨rfl, List.nodup_nil, by simp⟩
theorem Been.more {ms pre : List (K × V × Nat)} {seen : List Nat} (h : Been ms pre seen) {x : K × V × Nat} (hx : x ∈ ms) (hn : x.2.2 ∉ seen) : Been ms (pre ++ [x]) (seen ++ [x.2.2]) where
  eq := by rw [h.eq]; simp
  nd := by
    rw [List.nodup_append]
    refine ⟨h.nd, by simp, fun a ha b hb => ?_⟩
    simp at hb; subst hb
    rintro rfl; exact hn ha
  sub := fun y hy => by
    rcases List.mem_append.1 hy with h1 | h1
    · exact h.sub y h1
    · simp at h1; exact h1 ▸ hx
theorem Been.len [DecidableEq K] [DecidableEq V] {ms pre : List (K × V × Nat)} {seen : List Nat} (h : Been ms pre seen) {x : K × V × Nat} (hx : x ∈ ms) (hn : x.2.2 ∉ seen) : ms.length - (pre ++ [x]).length < ms.length - pre.length := by
  have hnp : (pre ++ [x]).Nodup := by
    have := (h.more hx hn).nd
    rw [(h.more hx hn).eq] at this
    exact nodup_of_map _ this
  have := nodup_len hnp (fun y hy => (h.more hx hn).sub y hy)
  simp only [List.length_append, List.length_cons, List.length_nil] at this ⊢; omega
theorem Been.all {ms pre : List (K × V × Nat)} {seen : List Nat} (h : Been ms pre seen) (hnd : (ms.map (·.2.2)).Nodup) {x : K × V × Nat} (hx : x ∈ ms) (hs : x.2.2 ∈ seen) : x ∈ pre := by
  rw [h.eq] at hs
  obtain ⟨y, hy, hyx⟩ := List.mem_map.1 hs
  rw [trip_inj hnd hx (h.sub y hy) hyx.symm]; exact hy
theorem last_snoc (l : List Nat) (n : Nat) : (l ++ [n]).getLast? = some n := by simp
end
end Go.V

namespace Go.V
open Go
/-! ### Bytes, and numbers in bytes -/
theorem w8 (u : Nat) : IntKind.u8.wrap (u : Int) = ((u % 256 : Nat) : Int) := by
  simp [IntKind.wrap, IntKind.bits, IntKind.signed]
theorem or8 (u : Nat) : intBits .or .u8 ((u % 256 : Nat) : Int) 128 = ((u % 128 + 128 : Nat) : Int) := by
  have h : ∀ k, k < 256 → intBits .or .u8 ((k : Nat) : Int) 128 = ((k % 128 + 128 : Nat) : Int) := by decide +kernel
  rw [h (u % 256) (by omega)]; congr 1; omega
theorem sh7 (u : Nat) : (u : Int).fdiv (2 ^ (min (7 : Int).toNat IntKind.u64.bits)) = ((u / 128 : Nat) : Int) := by
  have : (2 : Int) ^ (min (7 : Int).toNat IntKind.u64.bits) = ((128 : Nat) : Int) := by decide
  rw [this, Int.fdiv_eq_ediv_of_nonneg _ (by omega)]; rfl
theorem w64u {n : Int} (h : 0 ≤ n ∧ n < 18446744073709551616) : IntKind.u64.wrap n = n := by
  simp [IntKind.wrap, IntKind.bits, IntKind.signed]; omega
theorem shl1 {v : Int} (h : 0 ≤ v ∧ v < 4611686018427387904) : IntKind.u64.wrap (v * 2 ^ (min (1 : Int).toNat IntKind.u64.bits)) = ((2 * v.toNat : Nat) : Int) := by
  have : (2 : Int) ^ (min (1 : Int).toNat IntKind.u64.bits) = 2 := by decide
  rw [this, w64u (by omega)]; omega
theorem shr63 {v : Int} (h : 0 ≤ v ∧ v < 4611686018427387904) : v.fdiv (2 ^ (min (63 : Int).toNat IntKind.i64.bits)) = 0 := by
  have : (2 : Int) ^ (min (63 : Int).toNat IntKind.i64.bits) = 9223372036854775808 := by decide
  rw [this, Int.fdiv_eq_ediv_of_nonneg _ (by omega)]; omega
theorem xor0 {u : Nat} (h : u < 18446744073709551616) : intBits .xor .u64 (u : Int) 0 = (u : Int) := by
  show IntKind.u64.wrap (((BitVec.ofInt 64 (u : Int) ^^^ BitVec.ofInt 64 0).toNat : Nat) : Int) = u
  have e : (BitVec.ofInt 64 (u : Int) ^^^ BitVec.ofInt 64 0) = BitVec.ofNat 64 u := by simp
  rw [e, BitVec.toNat_ofNat, w64u (by omega)]; omega

/-- A number's bytes. -/
def numB (u : Nat) : List Int := if u < 128 then [(u : Int)] else ((u % 128 + 128 : Nat) : Int) :: numB (u / 128)
theorem numB_lt {u : Nat} (h : u < 128) : numB u = [(u : Int)] := by rw [numB, if_pos h]
theorem numB_ge {u : Nat} (h : ¬ u < 128) : numB u = ((u % 128 + 128 : Nat) : Int) :: numB (u / 128) := by rw [numB, if_neg h]
theorem numB_len : ∀ (k u : Nat), u < 128 ^ (k + 1) → (numB u).length ≤ k + 1
  | 0, u, h => by rw [numB_lt (by simpa using h)]; simp
  | k + 1, u, h => by
    by_cases h1 : u < 128
    · rw [numB_lt h1]; simp
    · rw [numB_ge h1, List.length_cons]
      have : u / 128 < 128 ^ (k + 1) := by rw [Nat.div_lt_iff_lt_mul (by omega)]; rw [Nat.pow_succ] at h; omega
      have := numB_len k (u / 128) this
      omega
theorem numB_len10 {u : Nat} (h : u < 18446744073709551616) : (numB u).length ≤ 10 := numB_len 9 u (by omega)

/-- A row of bytes in cells. -/
def Brow (xs : List Value) (o c : Nat) (l : List Int) : Prop := l.length ≤ c ∧ o + c ≤ xs.length ∧ (xs.drop o).take l.length = l.map (Value.int .u8)
theorem Brow.take1 {xs : List Value} {o c : Nat} {l : List Int} (h : Brow xs o c l) : (xs.drop o).take (l.length * 1) = l.map (Value.int .u8) := by rw [Nat.mul_one]; exact h.2.2
theorem cellsOK_ints {k : IntKind} : ∀ (l : List Int), cellsOK (l.map (Value.int k)) = true
  | [] => rfl
  | x :: l => by simp [cellsOK, cellsOK_ints l]
end Go.V
namespace Go.V
open Go
theorem rem128 (u : Nat) : (u : Int).tmod 128 = ((u % 128 : Nat) : Int) := by
  rw [show (128 : Int) = ((128 : Nat) : Int) from rfl, ← Int.ofNat_tmod]
theorem quo128 (u : Nat) (h : u < 18446744073709551616) : IntKind.u64.wrap ((u : Int).tdiv 128) = ((u / 128 : Nat) : Int) := by
  rw [show (128 : Int) = ((128 : Nat) : Int) from rfl, ← Int.ofNat_tdiv, w64u (by omega)]
theorem w8r (u : Nat) : IntKind.u8.wrap ((u % 128 : Nat) : Int) = ((u % 128 : Nat) : Int) := by rw [w8]; congr 1; omega
theorem add128 (u : Nat) : IntKind.u8.wrap (((u % 128 : Nat) : Int) + 128) = ((u % 128 + 128 : Nat) : Int) := by
  have := w8 (u % 128 + 128)
  rw [show ((u % 128 : Nat) : Int) + 128 = ((u % 128 + 128 : Nat) : Int) by omega, this]; congr 1; omega
end Go.V

namespace Go.V
open Go
/-! ### Numbers out of bytes -/
theorem andNot8 {c : Nat} (h : c < 256) : intBits .andNot .u8 (c : Int) 128 = ((c % 128 : Nat) : Int) := by
  have : ∀ k, k < 256 → intBits .andNot .u8 ((k : Nat) : Int) 128 = ((k % 128 : Nat) : Int) := by decide +kernel
  exact this c h
theorem and127 {c : Nat} (h : c < 256) : intBits .and .u8 (c : Int) 127 = ((c % 128 : Nat) : Int) := by
  have : ∀ k, k < 256 → intBits .and .u8 ((k : Nat) : Int) 127 = ((k % 128 : Nat) : Int) := by decide +kernel
  exact this c h
theorem and128 {c : Nat} (h : c < 256) : intBits .and .u8 (c : Int) 128 = ((if 128 ≤ c then 128 else 0 : Nat) : Int) := by
  have : ∀ k, k < 256 → intBits .and .u8 ((k : Nat) : Int) 128 = ((if 128 ≤ k then 128 else 0 : Nat) : Int) := by decide +kernel
  exact this c h
theorem shl7 (x : Nat) {i : Nat} (h : i ≤ 9) : IntKind.u64.wrap ((x : Int) * 2 ^ (min ((7 * i : Nat) : Int).toNat IntKind.u64.bits)) = (((x * 2 ^ (7 * i)) % 18446744073709551616 : Nat) : Int) := by
  have h1 : min ((7 * i : Nat) : Int).toNat IntKind.u64.bits = 7 * i := by
    show min (7 * i) 64 = 7 * i
    omega
  rw [h1]
  simp [IntKind.wrap, IntKind.bits, IntKind.signed]
theorem orBound {u x i : Nat} (hi : i ≤ 9) (hu : u < 2 ^ (7 * i)) (hx : x * 2 ^ (7 * i) < 18446744073709551616) : u + x * 2 ^ (7 * i) < 18446744073709551616 := by
  have hd : ∀ i, i < 10 → 18446744073709551616 % 2 ^ (7 * i) = 0 := by decide +kernel
  obtain ⟨q, hq⟩ := Nat.dvd_of_mod_eq_zero (hd i (by omega))
  generalize 2 ^ (7 * i) = k at *
  rw [hq] at hx ⊢
  have h1 : x < q := Nat.lt_of_mul_lt_mul_left (a := k) (by rw [Nat.mul_comm k x]; exact hx)
  have h2 : k * (x + 1) ≤ k * q := Nat.mul_le_mul_left k h1
  rw [Nat.mul_add, Nat.mul_one, Nat.mul_comm k x] at h2
  omega
theorem orAdd {u x i : Nat} (hi : i ≤ 9) (hu : u < 2 ^ (7 * i)) (hx : x * 2 ^ (7 * i) < 18446744073709551616) : intBits .or .u64 (u : Int) ((x * 2 ^ (7 * i) : Nat) : Int) = ((u + x * 2 ^ (7 * i) : Nat) : Int) := by
  show IntKind.u64.wrap (((BitVec.ofInt 64 (u : Int) ||| BitVec.ofInt 64 ((x * 2 ^ (7 * i) : Nat) : Int)).toNat : Nat) : Int) = _
  have hor : u ||| x * 2 ^ (7 * i) = u + x * 2 ^ (7 * i) := by
    rw [Nat.or_comm, Nat.mul_comm x, ← Nat.two_pow_add_eq_or_of_lt hu, Nat.add_comm]
  have hb : u + x * 2 ^ (7 * i) < 18446744073709551616 := by
    have hd : ∀ i, i < 10 → 18446744073709551616 % 2 ^ (7 * i) = 0 := by decide +kernel
    obtain ⟨q, hq⟩ := Nat.dvd_of_mod_eq_zero (hd i (by omega))
    generalize 2 ^ (7 * i) = k at *
    rw [hq] at hx ⊢
    have h1 : x < q := Nat.lt_of_mul_lt_mul_left (a := k) (by rw [Nat.mul_comm k x]; exact hx)
    have h2 : k * (x + 1) ≤ k * q := Nat.mul_le_mul_left k h1
    rw [Nat.mul_add, Nat.mul_one, Nat.mul_comm k x] at h2
    omega
  rw [BitVec.ofInt_natCast, BitVec.ofInt_natCast, BitVec.toNat_or, BitVec.toNat_ofNat, BitVec.toNat_ofNat, Nat.mod_eq_of_lt (by omega), Nat.mod_eq_of_lt (by omega), hor, w64u (by omega)]
theorem shr1 (u : Nat) : (u : Int).fdiv (2 ^ (min (1 : Int).toNat IntKind.u64.bits)) = ((u / 2 : Nat) : Int) := by
  have : (2 : Int) ^ (min (1 : Int).toNat IntKind.u64.bits) = ((2 : Nat) : Int) := by decide
  rw [this, Int.fdiv_eq_ediv_of_nonneg _ (by omega)]; rfl
theorem and1 {u : Nat} (h : u < 18446744073709551616) : intBits .and .u64 (u : Int) 1 = ((u % 2 : Nat) : Int) := by
  show IntKind.u64.wrap (((BitVec.ofInt 64 (u : Int) &&& BitVec.ofInt 64 1).toNat : Nat) : Int) = _
  rw [BitVec.ofInt_natCast, show BitVec.ofInt 64 1 = BitVec.ofNat 64 1 from rfl, BitVec.toNat_and, BitVec.toNat_ofNat, BitVec.toNat_ofNat, Nat.mod_eq_of_lt h, show (1 % 2 ^ 64 : Nat) = 1 by decide, Nat.and_one_is_mod, w64u (by omega)]
theorem xorZig {u : Nat} (h : u < 18446744073709551616) : intBits .xor .i64 ((u / 2 : Nat) : Int) (IntKind.i64.wrap (0 - ((u % 2 : Nat) : Int))) = (if u % 2 = 1 then -1 - ((u / 2 : Nat) : Int) else ((u / 2 : Nat) : Int)) := by
  have w : ∀ n : Int, -9223372036854775808 ≤ n ∧ n ≤ 9223372036854775807 → IntKind.i64.wrap n = n := fun n hn => IntWalk.i64_in n hn
  rcases Nat.mod_two_eq_zero_or_one u with h0 | h0
  · rw [h0, if_neg (by omega), w _ (by omega)]
    show IntKind.i64.wrap (((BitVec.ofInt 64 ((u / 2 : Nat) : Int) ^^^ BitVec.ofInt 64 (0 - ((0 : Nat) : Int))).toNat : Nat) : Int) = _
    have e : (BitVec.ofInt 64 ((u / 2 : Nat) : Int) ^^^ BitVec.ofInt 64 (0 - ((0 : Nat) : Int))) = BitVec.ofNat 64 (u / 2) := by
      rw [BitVec.ofInt_natCast, show BitVec.ofInt 64 (0 - ((0 : Nat) : Int)) = 0#64 from rfl, BitVec.xor_zero]
    rw [e, BitVec.toNat_ofNat, Nat.mod_eq_of_lt (by omega), w _ (by omega)]
  · rw [h0, if_pos rfl, w (0 - ((1 : Nat) : Int)) (by omega)]
    show IntKind.i64.wrap (((BitVec.ofInt 64 ((u / 2 : Nat) : Int) ^^^ BitVec.ofInt 64 (0 - ((1 : Nat) : Int))).toNat : Nat) : Int) = _
    have e : (BitVec.ofInt 64 ((u / 2 : Nat) : Int) ^^^ BitVec.ofInt 64 (0 - ((1 : Nat) : Int))) = ~~~ (BitVec.ofNat 64 (u / 2)) := by
      rw [BitVec.ofInt_natCast, show BitVec.ofInt 64 (0 - ((1 : Nat) : Int)) = BitVec.allOnes 64 from rfl, BitVec.xor_allOnes]
    rw [e, BitVec.toNat_not, BitVec.toNat_ofNat, Nat.mod_eq_of_lt (by omega)]
    simp only [IntKind.wrap, IntKind.bits, IntKind.signed]
    simp
    omega
def zig (u : Nat) : Int := if u % 2 = 1 then -1 - (u / 2 : Nat) else ((u / 2 : Nat) : Int)

/-- A number's groups: its value, and what is behind it. -/
def rd : List Int → Nat → Nat → Option (Nat × List Int)
  | [], _, _ => none
  | c :: l, i, u =>
    if 10 ≤ i then none
    else if 128 ≤ c then rd l (i + 1) (u + (c.toNat % 128) * 2 ^ (7 * i))
    else if (0 < i ∧ c = 0) ∨ (i = 9 ∧ 1 < c) then none
    else some (u + c.toNat * 2 ^ (7 * i), l)
def rdN (l : List Int) (least most : Int) : Option (Int × List Int) :=
  match rd l 0 0 with
  | none => none
  | some (u, l') => if zig u < least ∨ most < zig u then none else some (zig u, l')
end Go.V

namespace Go.V
open Go
/-! ### Rows of elements of k cells -/
section
variable {α : Type} {cl : α → List Value} {k : Nat}
def RowG (cl : α → List Value) (k : Nat) (xs : List Value) (o c : Nat) (d : List α) : Prop := d.length ≤ c ∧ o + c * k ≤ xs.length ∧ (xs.drop o).take (d.length * k) = d.flatMap cl
theorem RowG.at {xs : List Value} {o c : Nat} {d : List α} (h : RowG cl k xs o c d) (hk : ∀ x, (cl x).length = k) {i j : Nat} (hi : i < d.length) (hj : j < k) : xs[o + i * k + j]? = (cl d[i])[j]? := by
  haveI : Inhabited α := ⟨d[i]⟩
  obtain ⟨h1, h2, h3⟩ := h
  have hlt : i * k + j < d.length * k := by
    have : (i + 1) * k ≤ d.length * k := Nat.mul_le_mul_right _ hi
    rw [Nat.add_mul, Nat.one_mul] at this; omega
  have h4 : (d.flatMap cl)[i * k + j]? = (cl d[i])[j]? := by
    have := flatMap_get hk d (i * k + j) hlt
    rw [this]
    have e1 : (i * k + j) / k = i := by
      rw [Nat.mul_comm, Nat.mul_add_div (by omega), Nat.div_eq_of_lt hj]; omega
    have e2 : (i * k + j) % k = j := by
      rw [Nat.mul_comm, Nat.mul_add_mod, Nat.mod_eq_of_lt hj]
    rw [e1, e2, getElem!_pos d i hi]
  rw [← h4, ← h3, List.getElem?_take_of_lt hlt, List.getElem?_drop, Nat.add_assoc]
theorem RowG.cut {xs : List Value} {o c : Nat} {d : List α} (h : RowG cl k xs o c d) (hk : ∀ x, (cl x).length = k) {i : Nat} (hi : i < d.length) : V.cut xs (o + i * k) k = some (cl d[i]) := by
  have hle : o + i * k + k ≤ xs.length := by
    have : (i + 1) * k ≤ d.length * k := Nat.mul_le_mul_right _ hi
    have h5 : d.length * k ≤ c * k := Nat.mul_le_mul_right _ h.1
    rw [Nat.add_mul, Nat.one_mul] at this
    have := h.2.1; omega
  rw [cut_take xs _ k hle]
  congr 1
  apply List.ext_getElem?
  intro j
  by_cases hj : j < k
  · rw [List.getElem?_take_of_lt hj, List.getElem?_drop, h.at hk hi hj]
  · rw [List.getElem?_eq_none (by simp; omega), List.getElem?_eq_none (by rw [hk]; omega)]
theorem paste_some {β : Type} : ∀ (l : List β) (o : Nat) (ys : List β), o + ys.length ≤ l.length → ∃ l', paste l o ys = some l'
  | l, 0, [], _ => ⟨l, by simp [paste]⟩
  | [], 0, y :: ys, h => by simp at h
  | x :: l, 0, y :: ys, h => by
    obtain ⟨l', h1⟩ := paste_some l 0 ys (by simp at h ⊢; omega)
    exact ⟨_, by rw [paste, h1]⟩
  | [], o + 1, ys, h => by simp at h
  | x :: l, o + 1, ys, h => by
    obtain ⟨l', h1⟩ := paste_some l o ys (by simp at h ⊢; omega)
    exact ⟨_, by rw [paste, h1]⟩
/-- An element is written. -/
theorem RowG.set {xs : List Value} {o c : Nat} {d : List α} (h : RowG cl k xs o c d) (hk : ∀ x, (cl x).length = k) (hk0 : 0 < k) {i : Nat} (hi : i < d.length) (x : α) : ∃ xs', paste xs (o + i * k) (cl x) = some xs' ∧ RowG cl k xs' o c (d.set i x) ∧ xs'.length = xs.length := by
  haveI : Inhabited α := ⟨x⟩
  have hle : o + i * k + k ≤ xs.length := by
    have : (i + 1) * k ≤ d.length * k := Nat.mul_le_mul_right _ hi
    have h5 : d.length * k ≤ c * k := Nat.mul_le_mul_right _ h.1
    rw [Nat.add_mul, Nat.one_mul] at this
    have := h.2.1; omega
  obtain ⟨xs', hp⟩ := paste_some xs (o + i * k) (cl x) (by rw [hk]; exact hle)
  obtain ⟨p1, p2, p3⟩ := paste_spec hp
  refine ⟨xs', hp, ⟨by simpa using h.1, by rw [p2]; exact h.2.1, ?_⟩, p2⟩
  rw [List.length_set]
  have hdk : d.length * k ≤ c * k := Nat.mul_le_mul_right _ h.1
  apply List.ext_getElem?
  intro t
  by_cases ht : t < d.length * k
  · have hq : t / k < d.length := Nat.div_lt_of_lt_mul (by rw [Nat.mul_comm]; exact ht)
    have hm : t % k < k := Nat.mod_lt _ hk0
    have hdm : t = t / k * k + t % k := by rw [Nat.mul_comm]; exact (Nat.div_add_mod t k).symm
    rw [List.getElem?_take_of_lt ht, List.getElem?_drop, flatMap_get hk _ t (by simpa using ht), p3, hk]
    have hset : (d.set i x)[t / k]! = if t / k = i then x else d[t / k] := by
      rw [getElem!_pos _ _ (by simpa using hq), List.getElem_set]
      by_cases e : i = t / k
      · simp [e]
      · rw [if_neg e, if_neg (fun e2 => e e2.symm)]
    rw [hset]
    by_cases e : t / k = i
    · rw [if_pos e, if_pos ⟨by rw [e] at hdm; omega, by rw [e] at hdm; omega⟩]
      congr 1
      rw [e] at hdm; omega
    · rw [if_neg e, if_neg ?_]
      · have := h.at hk hq hm
        rw [Nat.add_assoc, ← hdm] at this
        exact this
      · rintro ⟨e1, e2⟩
        apply e
        have h1 : i * k ≤ t := by omega
        have h2 : t < (i + 1) * k := by rw [Nat.add_mul, Nat.one_mul]; omega
        have h3 : i ≤ t / k := (Nat.le_div_iff_mul_le hk0).2 h1
        have h4 : t / k < i + 1 := (Nat.div_lt_iff_lt_mul hk0).2 h2
        omega
  · have e1 : ((d.set i x).flatMap cl).length = d.length * k := by rw [flatMap_len hk]; simp
    rw [List.getElem?_eq_none (by simp; omega), List.getElem?_eq_none (by rw [e1]; omega)]
theorem RowG.cutDown {xs : List Value} {o c : Nat} {d : List α} (h : RowG cl k xs o c d) (hk : ∀ x, (cl x).length = k) (n : Nat) : RowG cl k xs o c (d.take n) := by
  refine ⟨Nat.le_trans (by simp; omega) h.1, h.2.1, ?_⟩
  have hlen : (d.take n).length ≤ d.length := by simp; omega
  have hmul : (d.take n).length * k ≤ d.length * k := Nat.mul_le_mul_right _ hlen
  have h3 := congrArg (List.take ((d.take n).length * k)) h.2.2
  rw [List.take_take, Nat.min_eq_left hmul] at h3
  rw [h3]
  have : d.flatMap cl = (d.take n).flatMap cl ++ (d.drop n).flatMap cl := by rw [← List.flatMap_append, List.take_append_drop]
  rw [this, List.take_append_of_le_length (by rw [flatMap_len hk]; exact Nat.le_refl _)]
  exact List.take_of_length_le (by rw [flatMap_len hk]; exact Nat.le_refl _)
theorem RowG.same {xs xs' : List Value} {o c : Nat} {d : List α} (h : RowG cl k xs o c d) (hl : xs'.length = xs.length) (hs : ∀ j, j < o + d.length * k → xs'[j]? = xs[j]?) : RowG cl k xs' o c d := by
  refine ⟨h.1, by rw [hl]; exact h.2.1, ?_⟩
  rw [← h.2.2]
  apply List.ext_getElem?
  intro t
  by_cases ht : t < d.length * k
  · rw [List.getElem?_take_of_lt ht, List.getElem?_drop, List.getElem?_take_of_lt ht, List.getElem?_drop, hs _ (by omega)]
  · have h5 := Nat.mul_le_mul_right k h.1
    have h6 := h.2.1
    rw [List.getElem?_eq_none (by simp; omega), List.getElem?_eq_none (by simp; omega)]
/-- Some are dropped: between the rounds. -/
structure Sieve (d : List α) (q : α → Bool) (e : List α) (i j : Nat) : Prop where
  len : e.length = d.length
  le : i ≤ j ∧ j ≤ d.length
  kept : e.take i = (d.take j).filter q
  rest : e.drop j = d.drop j
theorem Sieve.num {d : List α} {q : α → Bool} {e : List α} {i j : Nat} (h : Sieve d q e i j) : i = ((d.take j).filter q).length := by
  rw [← h.kept, List.length_take, h.len]; have := h.le; omega
theorem Sieve.get {d : List α} {q : α → Bool} {e : List α} {i j : Nat} (h : Sieve d q e i j) (hj : j < d.length) : e[j]'(by rw [h.len]; exact hj) = d[j] := by
  have := congrArg (fun l : List α => l[0]?) h.rest
  simp only [List.getElem?_drop, Nat.add_zero] at this
  rw [List.getElem?_eq_getElem hj, List.getElem?_eq_getElem (by rw [h.len]; exact hj)] at this
  exact Option.some.inj this
theorem Sieve.drop {d : List α} {q : α → Bool} {e : List α} {i j : Nat} (h : Sieve d q e i j) (hj : j < d.length) (hq : q d[j] = false) : Sieve d q e i (j + 1) where
  len := h.len
  le := ⟨by have := h.le; omega, hj⟩
  kept := by rw [h.kept, ← List.take_append_getElem hj, List.filter_append]; simp [hq]
  rest := by rw [← List.drop_drop, h.rest, List.drop_drop]
theorem Sieve.keep {d : List α} {q : α → Bool} {e : List α} {i j : Nat} (h : Sieve d q e i j) (hj : j < d.length) (hq : q d[j] = true) : Sieve d q (e.set i d[j]) (i + 1) (j + 1) where
  len := by rw [List.length_set, h.len]
  le := ⟨by have := h.le; omega, hj⟩
  kept := by
    have hil : i < (e.set i d[j]).length := by rw [List.length_set, h.len]; have := h.le; omega
    rw [← List.take_append_getElem hil, List.take_set_of_le (Nat.le_refl _), h.kept, ← List.take_append_getElem hj, List.filter_append]
    simp [hq]
  rest := by
    have := h.le
    rw [List.drop_set_of_lt (by omega), ← List.drop_drop, h.rest, List.drop_drop]
theorem Sieve.start {d : List α} {q : α → Bool} {i : Nat} (hi : i < d.length) (hq : q d[i] = false) (hb : ∀ j (hj : j < d.length), j < i → q d[j] = true) : Sieve d q d i (i + 1) where
  len := rfl
  le := ⟨by omega, hi⟩
  kept := by
    rw [← List.take_append_getElem hi, List.filter_append]
    simp only [List.filter_cons, hq, List.filter_nil, Bool.false_eq_true, if_false, List.append_nil]
    symm
    rw [List.filter_eq_self]
    intro x hx
    obtain ⟨j, hj, rfl⟩ := List.mem_iff_getElem.1 hx
    simp only [List.length_take] at hj
    rw [List.getElem_take]
    exact hb j (by omega) (by omega)
  rest := rfl
theorem Sieve.done {d : List α} {q : α → Bool} {e : List α} {i : Nat} (h : Sieve d q e i d.length) : e.take i = d.filter q := by
  rw [h.kept, List.take_length]
end
end Go.V

namespace Go.V
open Go Go.RowKit Go.ChangeShapes Go.WideShapes
set_option linter.unusedSectionVars false
variable [Mode]

/-! ### Arguments that come in, cell by cell -/
inductive FKd where
  | int (k : IntKind) | str | bool | sl (t : TypeId)
  deriving DecidableEq
section
variable {P : Program}
def flatFs (P : Program) (f : TypeId → Option (List FKd)) : Nat → List Field → Option (List FKd)
  | _, [] => some []
  | off, fd :: r => match f fd.type with
    | some l => if fd.offset = off ∧ l.length = P.cellsOf fd.type then (match flatFs P f (off + l.length) r with | some m => some (l ++ m) | none => none) else none
    | none => none
def flatK (P : Program) : Nat → TypeId → Option (List FKd)
  | 0, _ => none
  | d + 1, t => match P.underlying t with
    | some (.int k) => some [.int k]
    | some .string => some [.str]
    | some .bool => some [.bool]
    | some (.slice _) => some [.sl t]
    | some (.array n e) => match flatK P d e with
      | some l => if l.length = P.cellsOf e ∧ n * l.length = P.cellsOf t then some (List.flatten (List.replicate n l)) else none
      | none => none
    | some (.struct fs) => match flatFs P (flatK P d) 0 fs.toList with
      | some l => if l.length = P.cellsOf t then some l else none
      | none => none
    | _ => none
variable {H : Type} {enc : TypeId × Value → H} {w : World} {base : Nat} {spare : Nat → Bool} {held : Bool}
def FitK (enc : TypeId × Value → H) (P : Program) (w : World) (base : Nat) (spare : Nat → Bool) (held : Bool) (k : FKd) (v : Value) : Prop := match k with
  | .int k => ∃ n, v = .int k n ∧ (Lit.int k n).wf = true
  | .str => ∃ s, v = .string s
  | .bool => ∃ b, v = .bool b
  | .sl t => ∃ fuel x, DataW.trod enc P w base spare held fuel t [v] = some x

omit [Mode] in
theorem flat_fit : ∀ (d : Nat) (t : TypeId) (ks : List FKd) (fuel : Nat) (cs : List Value) (x : DataW H × List MemPlace), flatK P d t = some ks → DataW.trod enc P w base spare held fuel t cs = some x →
    cs.length = ks.length ∧ ∀ (i : Nat) k v, ks[i]? = some k → cs[i]? = some v → FitK enc P w base spare held k v
  | 0, _, _, _, _, _, h, _ => by simp [flatK] at h
  | d + 1, t, ks, fuel, cs, x, h, hx => by
    have ih := flat_fit d
    unfold flatK at h
    cases hu : P.underlying t with
    | none => simp [hu] at h
    | some td =>
      rw [hu] at h
      cases td <;> simp only at h <;> try (cases h; done)
      case int k =>
        cases h
        obtain ⟨n, rfl, _, hw⟩ := DataW.trod_int hu hx
        refine ⟨rfl, fun i k' v h1 h2 => ?_⟩
        match i with
        | 0 => simp at h1 h2; subst h1 h2; exact ⟨n, rfl, hw⟩
        | i + 1 => simp at h1
      case string =>
        cases h
        obtain ⟨s, rfl, _⟩ := DataW.trod_string hu hx
        refine ⟨rfl, fun i k' v h1 h2 => ?_⟩
        match i with
        | 0 => simp at h1 h2; subst h1 h2; exact ⟨s, rfl⟩
        | i + 1 => simp at h1
      case bool =>
        cases h
        obtain ⟨s, rfl, _⟩ := DataW.trod_bool hu hx
        refine ⟨rfl, fun i k' v h1 h2 => ?_⟩
        match i with
        | 0 => simp at h1 h2; subst h1 h2; exact ⟨s, rfl⟩
        | i + 1 => simp at h1
      case slice e =>
        cases h
        have hcs : ∃ v, cs = [v] := by
          rcases Go.Deep.open_slice hu hx with ⟨h1, _⟩ | ⟨a, l, c, m, n, D, Pl, h1, _⟩
          · exact ⟨_, h1⟩
          · exact ⟨_, h1⟩
        obtain ⟨v0, rfl⟩ := hcs
        refine ⟨rfl, fun i k' v h1 h2 => ?_⟩
        match i with
        | 0 => simp at h1 h2; subst h1 h2; exact ⟨fuel, x, hx⟩
        | i + 1 => simp at h1
      case array n e =>
        split at h
        · rename_i l hl
          split at h
          · rename_i hsz
            cases h
            obtain ⟨xs, m, rfl, _, hlen, hxl, hall⟩ := DataW.trod_array hu hx
            refine ⟨by simp [hlen, hsz.2], fun i k v h1 h2 => ?_⟩
            have hlt : i < n * l.length := by
              have := (List.getElem?_eq_some_iff.1 h1).1
              simpa using this
            have hpos : 0 < l.length := by
              rcases Nat.eq_zero_or_pos l.length with h0 | h0
              · rw [h0] at hlt; simp at hlt
              · exact h0
            have hq : i / l.length < n := Nat.div_lt_of_lt_mul (by rw [Nat.mul_comm]; exact hlt)
            have hr : i % l.length < l.length := Nat.mod_lt _ hpos
            have hdm : i / l.length * l.length + i % l.length = i := by rw [Nat.mul_comm]; exact Nat.div_add_mod i _
            have hx1 := hall (i / l.length) hq
            rw [List.getElem?_eq_getElem (by omega)] at hx1
            obtain ⟨_, g2⟩ := ih e l m _ _ hl hx1
            refine g2 (i % l.length) k v ?_ ?_
            · have : (List.flatten (List.replicate n l))[i]? = l[i % l.length]? := by
                have hfm : List.flatten (List.replicate n l) = (List.replicate n l).flatMap id := by simp [List.flatMap]
                have gen : ∀ (n i : Nat), i < n * l.length → (List.flatten (List.replicate n l))[i]? = l[i % l.length]? := by
                  intro n
                  induction n with
                  | zero => intro i hi; simp at hi
                  | succ n ihn =>
                    intro i hi
                    rw [List.replicate_succ, List.flatten_cons]
                    by_cases hil : i < l.length
                    · rw [List.getElem?_append_left hil, Nat.mod_eq_of_lt hil]
                    · rw [List.getElem?_append_right (by omega), ihn (i - l.length) (by rw [Nat.add_mul] at hi; omega)]
                      congr 1
                      rw [← Nat.mod_eq_sub_mod (by omega)]
                exact gen n i hlt
              rw [← this]; exact h1
            · rw [← hsz.1, List.getElem?_take_of_lt hr, List.getElem?_drop, hdm]; exact h2
          · cases h
        · cases h
      case struct fs =>
        split at h
        · rename_i l hl
          split at h
          · rename_i hsz
            cases h
            obtain ⟨xs, m, rfl, _, hlen, hxl, hall⟩ := DataW.trod_struct hu hx
            refine ⟨by rw [hlen, hsz], ?_⟩
            have gen : ∀ (r : List Field) (off j : Nat) (l : List FKd), (∀ i f, r[i]? = some f → fs[j + i]? = some f) → flatFs P (flatK P d) off r = some l → ∀ (i : Nat) k v, l[i]? = some k → cs[off + i]? = some v → FitK enc P w base spare held k v := by
              intro r
              induction r with
              | nil => intro off j l _ hf i k v h1; simp [flatFs] at hf; subst hf; simp at h1
              | cons fd r ihr =>
                intro off j l hfs hf i k v h1 h2
                unfold flatFs at hf
                split at hf
                · rename_i l0 hl0
                  split at hf
                  · rename_i hq
                    split at hf
                    · rename_i m0 hm0
                      cases hf
                      by_cases hil : i < l0.length
                      · rw [List.getElem?_append_left hil] at h1
                        have hfd := hfs 0 fd rfl
                        rw [Nat.add_zero] at hfd
                        have hx1 := hall j fd hfd
                        have hjx : j < xs.length := by
                          have := (Array.getElem?_eq_some_iff.1 hfd).1
                          omega
                        rw [List.getElem?_eq_getElem hjx] at hx1
                        obtain ⟨_, g2⟩ := ih fd.type l0 m _ _ hl0 hx1
                        refine g2 i k v h1 ?_
                        rw [← hq.2, List.getElem?_take_of_lt hil, List.getElem?_drop, hq.1]; exact h2
                      · rw [List.getElem?_append_right (by omega)] at h1
                        refine ihr (off + l0.length) (j + 1) m0 (fun i f hi => ?_) hm0 (i - l0.length) k v h1 ?_
                        · rw [show j + 1 + i = j + (i + 1) by omega]; exact hfs (i + 1) f (by simpa using hi)
                        · rw [show off + l0.length + (i - l0.length) = off + i by omega]; exact h2
                    · cases hf
                  · cases hf
                · cases hf
            intro i k v h1 h2
            exact gen fs.toList 0 0 _ (fun i f hi => by rw [Nat.zero_add, ← Array.getElem?_toList]; exact hi) hl i k v h1 (by rw [Nat.zero_add]; exact h2)
          · cases h
        · cases h

omit [Mode] in
theorem row_at {a : Addr} {k m : Nat} (hk : 0 < k) (hm : 0 < m) {C : Nat → List Value} (h : ∀ i, i < m → w.cells? base (a.add (i * k)) k = some (C i)) :
    ∃ (b o : Nat) (xs : List Value) (e : TypeId) (fr : Nat × Nat), a = ⟨b, o, none⟩ ∧ w.heap[b]? = some (.cells xs.toArray e fr) ∧ ∀ i, i < m → V.cut xs (o + i * k) k = some (C i) ∧ (C i).length = k := by
  have h0 := h 0 hm
  obtain ⟨_, hl0, hc0⟩ := World.cells?_some h0
  have h00 := hc0 0 hk
  obtain ⟨b, o, spot⟩ := a
  have e0 : Addr.add (Addr.add ⟨b, o, spot⟩ (0 * k)) 0 = ⟨b, o, spot⟩ := by simp [Addr.add]
  rw [e0, List.getElem?_eq_getElem (by omega)] at h00
  unfold World.cell? at h00
  split at h00
  · rename_i c e fr hb
    split at h00
    · cases h00
    · rename_i hsp
      have hsp : spot = none := by simpa using hsp
      subst hsp
      refine ⟨b, o, c.toList, e, fr, rfl, by simpa using hb, fun i hi => ?_⟩
      obtain ⟨_, hl, hc⟩ := World.cells?_some (h i hi)
      have get : ∀ j, j < k → c.toList[o + i * k + j]? = (C i)[j]? := by
        intro j hj
        have := hc j hj
        rw [add_eq, add_eq, cell_of hb] at this
        simpa using this
      have hlen : o + i * k + k ≤ c.toList.length := by
        have := get (k - 1) (by omega)
        rw [List.getElem?_eq_getElem (show k - 1 < (C i).length by omega)] at this
        have := (List.getElem?_eq_some_iff.1 this).1
        omega
      refine ⟨?_, by omega⟩
      rw [cut_take _ _ k hlen]
      congr 1
      apply List.ext_getElem?
      intro j
      by_cases hj : j < k
      · rw [List.getElem?_take_of_lt hj, List.getElem?_drop, get j hj]
      · rw [List.getElem?_eq_none (by simp; omega), List.getElem?_eq_none (by omega)]
  · cases h00

omit [Mode] in
/-- A slice's elements, cell by cell. -/
theorem open_rows {d : Nat} {t e : TypeId} {ks : List FKd} {fuel : Nat} {v : Value} {x : DataW H × List MemPlace} (ht : P.underlying t = some (.slice e)) (hk : flatK P d e = some ks) (hc : P.cellsOf e = ks.length) (hpos : 0 < ks.length)
    (h : DataW.trod enc P w base (fun _ => true) held fuel t [v] = some x) :
    v = .slice none 0 0 ∨ ∃ (a : Addr) (len cap : Nat), v = .slice (some a) len cap ∧ len ≤ cap ∧
      (len = 0 ∨ ∃ (b o : Nat) (xs : List Value) (te : TypeId) (fr : Nat × Nat), a = ⟨b, o, none⟩ ∧ w.heap[b]? = some (.cells xs.toArray te fr) ∧
      ∀ i, i < len → ∃ cs, V.cut xs (o + i * ks.length) ks.length = some cs ∧ cs.length = ks.length ∧ ∀ (j : Nat) k y, ks[j]? = some k → cs[j]? = some y → FitK enc P w base (fun _ => true) held k y) := by
  rcases Go.Deep.open_slice ht h with ⟨h1, _⟩ | ⟨a, l, c, m, n, D, Pl, h1, _, hlc, _, hm, _, hx⟩
  · simp only [List.cons.injEq, and_true] at h1; exact .inl h1
  · simp only [List.cons.injEq, and_true] at h1
    right
    refine ⟨a, l, c, h1, hlc, ?_⟩
    simp only [if_true] at hm
    subst hm
    rcases Nat.eq_zero_or_pos l with h0 | h0
    · exact .inl h0
    right
    have each : ∀ i, i < m → ∃ cs, w.cells? base (a.add (i * P.cellsOf e)) (P.cellsOf e) = some cs ∧ ∀ (j : Nat) k y, ks[j]? = some k → cs[j]? = some y → FitK enc P w base (fun _ => true) held k y := by
      intro i hi
      obtain ⟨cs, g1, g2⟩ := hx i hi
      exact ⟨cs, g1, (flat_fit d e ks n cs _ hk g2).2⟩
    obtain ⟨C, hC⟩ := Go.Deep.choose_lt each
    rw [hc] at hC
    obtain ⟨b, o, xs, te, fr, e1, e2, e3⟩ := row_at hpos (show 0 < m by omega) (fun i hi => (hC i hi).1)
    exact ⟨b, o, xs, te, fr, e1, e2, fun i hi => ⟨C i, (e3 i (by omega)).1, (e3 i (by omega)).2, (hC i (by omega)).2⟩⟩

omit [Mode] in
theorem okWide_agg {t : TypeId} {v : Value} {r : Reach} {fs : Array Field} (ht : P.underlying t = some (.struct fs)) (h : Value.okWide P w r base t v) : ∃ cs, v = .agg cs := by
  simp only [Value.okWide, ht] at h
  obtain ⟨cs, h, _⟩ := h
  exact ⟨cs, h⟩
omit [Mode] in
theorem okWide_arr {t : TypeId} {v : Value} {r : Reach} {n : Nat} {e : TypeId} (ht : P.underlying t = some (.array n e)) (h : Value.okWide P w r base t v) : ∃ cs, v = .agg cs := by
  simp only [Value.okWide, ht] at h
  obtain ⟨cs, h, _⟩ := h
  exact ⟨cs, h⟩
/-- The whole heap, as one owned heap. -/
def allH (W : World) : Nat → Option Obj := fun b => W.heap[b]?
theorem ctr_all {f : FuncId} {args : List SV} {Post : SV → List SO → Prop} {W : World} (h : Ctr P f args [.heap (allH W)] Post) (ha : belowL 1 args = true) {vs : Array Value} (hv : (valL (fun _ => none) args).toArray = vs) {r : Value}
    (hp : ∀ v H' ρ', Post v H' → V.val ρ' v = r ∧ ∃ h', H' = [.heap h'] ∧ ∀ b o, allH W b = some o → h' b = some o) :
    Calls P f vs W fun e w' => e = .returned r ∧ Below W.heap.size W w' := by
  subst hv
  have one : ∀ (i : Nat) s, ([SO.heap (allH W)] : List SO)[i]? = some s → i = 0 ∧ s = .heap (allH W) := by
    intro i s hi
    match i with
    | 0 => simp at hi; exact ⟨rfl, hi.symm⟩
    | i + 1 => simp at hi
  have hS : St (fun _ => none) [.heap (allH W)] ⟨fun _ => none, W.os, W.tape, W.output, Mode.dr W⟩ W := by
    constructor
    · intro k so hk
      obtain ⟨rfl, rfl⟩ := one k so hk
      intro b o h; exact h
    · intro i j si sj b _ hi _ ho; obtain ⟨rfl, rfl⟩ := one i si hi; simp [SO.owned] at ho
    · intro i j si gh b hi ho; obtain ⟨rfl, rfl⟩ := one i si hi; simp [SO.owned] at ho
    · exact ⟨rfl, rfl, rfl, Mode.dr_le W, Mode.dr_lax W⟩
    · intro b o h; cases h
    · intro i si b hi ho; obtain ⟨rfl, rfl⟩ := one i si hi; simp [SO.owned] at ho
    · intro k l e hk; obtain ⟨rfl, h⟩ := one k _ hk; cases h
    · intro k m s seen st hk; obtain ⟨rfl, h⟩ := one k _ hk; cases h
    · intro j gh b _ _; rfl
    · intro j i gh b si _ _ hi ho; obtain ⟨rfl, rfl⟩ := one i si hi; simp [SO.owned, SO.isRo] at ho
    · intro j i gh b si hj _ hij hi; have := (one j _ hj).1; have := (one i _ hi).1; omega
  refine Calls.mono (h _ _ W hS ha) ?_
  rintro e w' ⟨ρ', v, H', rfl, hS', -, -, -, hP⟩
  obtain ⟨hr, h', rfl, hsub⟩ := hp v H' ρ' hP
  obtain ⟨h1, h2, h3, h4⟩ := hS'.env
  have hent := hS'.ent 0 _ rfl
  have keep : ∀ b o, W.heap[b]? = some o → w'.heap[b]? = some o := fun b o hb => hent b o (hsub b o hb)
  have hle : W.heap.size ≤ w'.heap.size := by
    rcases Nat.eq_zero_or_pos W.heap.size with h | h
    · omega
    · have := keep (W.heap.size - 1) _ (Array.getElem?_eq_getElem (xs := W.heap) (by omega))
      have := (Array.getElem?_eq_some_iff.1 this).1
      omega
  refine ⟨by rw [hr], h1, h2, h3, hle, fun k hk => ?_⟩
  rw [keep k _ (Array.getElem?_eq_getElem hk)]; simp [hk]
end
end Go.V

namespace Go.V
open Go Go.RowKit
set_option linter.unusedSectionVars false
variable [Mode]

/-! ### Laws that end in 'Below' -/
/-- Blocks laid behind what was there. -/
theorem St.below {ρ : Rho} {H : List SO} {g : Fr} {w w' : World} (hl : Mode.strict = false) (h : St ρ H g w) (hb : Below w.heap.size w w') : St ρ H g w' := by
  have hold : ∀ (b : Nat) (o : Obj), w.heap[b]? = some o → w'.heap[b]? = some o := fun b o e => by
    rw [hb.block b (Array.getElem?_eq_some_iff.1 e).1]; exact e
  constructor
  · intro k so hk
    refine entryOK_congr (n := H.length) (List.getElem?_eq_some_iff.1 hk).1 (h.ent k so hk) (fun _ _ => rfl) ?_ ?_ (fun b o' _ hb _ _ => hold b o' hb)
    · rintro l e rfl; exact h.scp k l e hk
    · rintro m s' seen st rfl; exact h.sci k m s' seen st hk
  · exact h.dis
  · exact h.gho
  · have h9 := h.env.2.2.2.2
    exact ⟨hb.os.trans h.env.1, hb.tape.trans h.env.2.1, hb.output.trans h.env.2.2.1, by rw [h9 hl]; exact Nat.zero_le _, h9⟩
  · exact fun b o e => hold b o (h.frm b o e)
  · exact h.frd
  · exact h.scp
  · exact h.sci
  · exact h.hpf
  · exact h.hpo
  · exact h.hpc
/-- A law over worlds that hold a heap, as a contract. -/
theorem ctr_of_below (hl : Mode.strict = false) {P : Program} {f : FuncId} (vs : List Value) (h : Nat → Option Obj) (v : Value)
    (hc : ∀ w : World, (∀ b o, h b = some o → w.heap[b]? = some o) → Calls P f vs.toArray w fun e w' => e = .returned v ∧ Below w.heap.size w w') :
    Ctr P f (vs.map SV.raw) [.heap h] (fun x H => x = .raw v ∧ H = [.heap h]) := by
  intro ρ g w hS hb
  rw [val_raws]
  refine Calls.mono (hc w (hS.ent 0 _ rfl)) ?_
  rintro e w' ⟨rfl, hB⟩
  exact ⟨ρ, .raw v, [.heap h], rfl, hS.below hl hB, fun _ _ => rfl, Nat.le_refl _, rfl, rfl, rfl⟩
omit [Mode] in
theorem cell_hold {w w' : World} (hold : ∀ (b : Nat) (o : Obj), w.heap[b]? = some o → w'.heap[b]? = some o) {a : Addr} {v : Value} (h : w.cell? a = some v) : w'.cell? a = some v := by
  unfold World.cell? at h ⊢
  cases hb : w.heap[a.block]? with
  | none => rw [hb] at h; cases h
  | some o => rw [hold _ _ hb]; rw [hb] at h; exact h

/-- One heap holds all that another holds. -/
def Sub (h h' : Nat → Option Obj) : Prop := ∀ b o, h b = some o → h' b = some o
omit [Mode] in
theorem Sub.refl (h : Nat → Option Obj) : Sub h h := fun _ _ e => e
omit [Mode] in
theorem Sub.trans {a b c : Nat → Option Obj} (h : Sub a b) (h' : Sub b c) : Sub a c := fun x o e => h' x o (h x o e)
omit [Mode] in
theorem Sub.upd {h : Nat → Option Obj} {b : Nat} {o : Obj} (hn : h b = none) : Sub h (updh h b o) := fun x o' e => by
  unfold updh
  split
  · rename_i hx; subst hx; rw [hn] at e; cases e
  · exact e
end Go.V

namespace Go.V
open Go Go.RowKit Go.Lib Go.Proofs
set_option linter.unusedSectionVars false

/-! ### unicode's tables in a heap -/
theorem RgTab_hold {k : IntKind} {R oR : Nat} {T : Array Rg} {w w' : World} (hold : ∀ (b : Nat) (o : Obj), w.heap[b]? = some o → w'.heap[b]? = some o) (h : RgTab k R oR T w) : RgTab k R oR T w' :=
  fun i hi => ⟨cell_hold hold (h i hi).1, cell_hold hold (h i hi).2.1, cell_hold hold (h i hi).2.2⟩
theorem RVar_hold {g : Nat} {T : RTab} {w w' : World} (hold : ∀ (b : Nat) (o : Obj), w.heap[b]? = some o → w'.heap[b]? = some o) (h : RVar g T w) : RVar g T w' := by
  obtain ⟨Tb, oT, hp, a16, a32, R16, o16, c16, R32, o32, c32, k0, k1, k2, h1, h2, t1, t2, hc⟩ := h
  exact ⟨Tb, oT, cell_hold hold hp, a16, a32, R16, o16, c16, R32, o32, c32, cell_hold hold k0, cell_hold hold k1, cell_hold hold k2, h1, h2, RgTab_hold hold t1, RgTab_hold hold t2, hc⟩
theorem TabIs_hold {P : Program} {n : String} {k : IntKind} {zs : List Int} {w w' : World} (hold : ∀ (b : Nat) (o : Obj), w.heap[b]? = some o → w'.heap[b]? = some o) (h : TabIs P w n k zs) : TabIs P w' n k zs := by
  unfold TabIs World.var? at h ⊢
  cases hg : P.globalNamed n with
  | none => rw [hg] at h; cases h
  | some g =>
    rw [hg] at h
    simp only [Option.bind_some] at h ⊢
    cases hb : w.heap[g]? with
    | none => rw [hb] at h; cases h
    | some o => rw [hold _ _ hb]; rw [hb] at h; exact h
/-- A heap that holds unicode's properties, letters and digits (variables gl, gd). -/
def UniH (P : Program) (gl gd : Nat) (h : Nat → Option Obj) : Prop := ∀ w : World, (∀ b o, h b = some o → w.heap[b]? = some o) →
  TabIs P w "unicode.properties" .u8 propertiesTab ∧ RVar gl letterT w ∧ RVar gd digitT w
theorem UniH.mono {P : Program} {gl gd : Nat} {h h' : Nat → Option Obj} (hu : UniH P gl gd h) (hs : Sub h h') : UniH P gl gd h' :=
  fun w hw => hu w fun b o e => hw b o (hs b o e)
theorem UniH.all {P : Program} {gl gd : Nat} {W : World} (h1 : TabIs P W "unicode.properties" .u8 propertiesTab) (h2 : RVar gl letterT W) (h3 : RVar gd digitT W) {h : Nat → Option Obj} (hh : ∀ b o, W.heap[b]? = some o → h b = some o) : UniH P gl gd h := by
  intro w hw
  have hold : ∀ (b : Nat) (o : Obj), W.heap[b]? = some o → w.heap[b]? = some o := fun b o e => hw b o (hh b o e)
  exact ⟨TabIs_hold hold h1, RVar_hold hold h2, RVar_hold hold h3⟩
variable [Mode] {P : Program}
theorem letter_ctr (hl : Mode.strict = false) {ρ : Shelf.Ren} (L : Lays.n200 P ρ) (hg : P.globalNamed "unicode.properties" = some (ρ.g 7)) {gd : Nat} {h : Nat → Option Obj} (hu : UniH P (ρ.g 8) gd h) (r : Int) (hr : -2147483648 ≤ r ∧ r ≤ 2147483647) :
    Ctr P (ρ.f 200) [.raw (.int .i32 r)] [.heap h] (fun x H => x = bv (isLetterU r) ∧ H = [.heap h]) :=
  ctr_of_below hl [.int .i32 r] h (.bool (isLetterU r)) fun w hw => Any.unicode_IsLetter_all L hg r w hr.1 hr.2 (hu w hw).1 (hu w hw).2.1
theorem digit_ctr (hl : Mode.strict = false) {ρ : Shelf.Ren} (L : Lays.n198 P ρ) {gl : Nat} {h : Nat → Option Obj} (hu : UniH P gl (ρ.g 5) h) (r : Int) (hr : -2147483648 ≤ r ∧ r ≤ 2147483647) :
    Ctr P (ρ.f 198) [.raw (.int .i32 r)] [.heap h] (fun x H => x = bv (isDigitU r) ∧ H = [.heap h]) :=
  ctr_of_below hl [.int .i32 r] h (.bool (isDigitU r)) fun w hw => Any.unicode_IsDigit_all L r w hr.1 hr.2 (hu w hw).2.2
end Go.V

namespace Go.V
open Go Go.RowKit
set_option linter.unusedSectionVars false
variable [Mode]

/-! ### Laws that leave the world as it is -/
theorem ctr_same {P : Program} {f : FuncId} (args : List SV) (H : List SO) (v : Value)
    (hc : ∀ (ρ : Rho) (w : World), Calls P f (valL ρ args).toArray w fun e w' => e = .returned v ∧ w' = w) :
    Ctr P f args H (fun x H' => x = .raw v ∧ H' = H) := by
  intro ρ g w hS hb
  refine Calls.mono (hc ρ w) ?_
  rintro e w' ⟨rfl, rfl⟩
  exact ⟨ρ, .raw v, H, rfl, hS, fun _ _ => rfl, Nat.le_refl _, rfl, rfl, rfl⟩
/-- A value's own method, declared at its type. -/
theorem methodIs_of {P : Program} {ty : TypeId} {m : String} {f : FuncId} {ti : TypeInfo} {mm : Method} (h1 : P.info? ty = some ti) (h2 : ti.methods.find? (·.name == m) = some mm) (h3 : mm.path.toList = []) (h4 : mm.func = some (f, false)) {fs : Array Field} (h5 : P.underlying ty = some (.struct fs)) : MethodIs P ty m f := by
  intro w v
  have hpos : 0 < Made.depth := by decide
  obtain ⟨k, hk⟩ : ∃ k, P.types.size + Made.depth = k + 1 := ⟨P.types.size + Made.depth - 1, by omega⟩
  rw [hk]
  have ht : (typeInfo ty).run P w = .ok ti w := by simp [typeInfo, h1]
  have hu := run_underlying h5 w
  simp only [method, Sem.run_bind, ht, Result.andThen_ok, h2, h3, follow, Sem.run_pure, h4, receiverAt, hu]
  rfl
end Go.V

namespace Go.V
open Go Go.RowKit Go.Proofs
set_option linter.unusedSectionVars false
variable [Mode]

/-! ### strings.Builder's copyCheck -/
theorem copyUsed_ctr {P : Program} {ρ : Shelf.Ren} (L : Lays.n240 P ρ) (X : Builder.X72 P ρ) (v : SV) (R : List SO) :
    Ctr P (ρ.f 240) [.ptr 0 0] (.cells [.ptr 0 0, v] (ρ.t 72) :: R) (fun x H => x = .tup [] ∧ H = .cells [.ptr 0 0, v] (ρ.t 72) :: R) := by
  intro r g w hS hb
  obtain ⟨b, h1, h2⟩ := hS.ent 0 _ rfl
  have e1 : valL r [.ptr 0 0] = [.pointer (some ⟨b, 0, none⟩)] := by simp [valL, val, h1]
  rw [e1]
  refine Calls.mono (Any.Builder_copyCheck_used L X b w ?_) ?_
  · simp [World.cell?, h2, valL, val, h1]
  · rintro e w' ⟨rfl, rfl⟩
    exact ⟨r, .tup [], _, rfl, hS, fun _ _ => rfl, Nat.le_refl _, rfl, rfl, rfl⟩
theorem copyFresh_ctr {P : Program} {ρ : Shelf.Ren} (L : Lays.n240 P ρ) (X : Builder.X72 P ρ) (v : SV) :
    Ctr P (ρ.f 240) [.ptr 0 0] [.cells [.raw (.pointer none), v] (ρ.t 72)] (fun x H => x = .tup [] ∧ H = [.cells [.ptr 0 0, v] (ρ.t 72)]) := by
  intro r g w hS hb
  obtain ⟨b, h1, h2⟩ := hS.ent 0 _ rfl
  have hsc := hS.scp 0 _ _ rfl
  have e1 : valL r [.ptr 0 0] = [.pointer (some ⟨b, 0, none⟩)] := by simp [valL, val, h1]
  rw [e1]
  have h2' : w.heap[b]? = some (.cells #[.pointer none, val r v] (ρ.t 72) (0, 0)) := by simpa [valL, val] using h2
  have hbl : b < w.heap.size := (Array.getElem?_eq_some_iff.1 h2').1
  refine Calls.mono (Any.Builder_copyCheck_fresh L X b w ?_ ?_ ?_) ?_
  · simp [World.cell?, h2']
  · simp [World.shape?, h2']
  · simp [World.frozen?, h2']
  · rintro e w' ⟨rfl, rfl⟩
    have hheap : (w.setCell ⟨b, 0, none⟩ (.pointer (some ⟨b, 0, none⟩))).heap = w.heap.setIfInBounds b (.cells #[.pointer (some ⟨b, 0, none⟩), val r v] (ρ.t 72) (0, 0)) := by
      unfold World.setCell
      apply Array.ext_getElem?
      intro i
      simp only [Array.getElem?_modify, Array.getElem?_setIfInBounds]
      by_cases hi : b = i
      · subst hi
        have e9 := (Array.getElem?_eq_some_iff.1 h2').2
        simp [hbl, e9]
      · simp [hi]
    refine ⟨r, .tup [], _, rfl, hS.set (k := 0) (b := b) (so' := .cells [.ptr 0 0, v] (ρ.t 72)) rfl rfl rfl h1 ⟨hheap, rfl, rfl, rfl, Nat.le_refl _⟩ ⟨b, h1, ?_⟩ ?_ ?_, fun _ _ => rfl, Nat.le_refl _, rfl, rfl, rfl⟩
    · rw [hheap]; simp [hbl, valL, val, h1]
    · rintro l e ⟨rfl, rfl⟩
      simp [belowL, below] at hsc ⊢; exact hsc
    · rintro m s seen st h; cases h
end Go.V

namespace Go.V
open Go Go.RowKit Go.Proofs
set_option linter.unusedSectionVars false
variable [Mode]

/-! ### A block that is written and given up -/
/-- All but one block stays. -/
structure KeepBut (b : Option Nat) (w w' : World) : Prop where
  os : w'.os = w.os
  tape : w'.tape = w.tape
  output : w'.output = w.output
  drawn : w.drawn ≤ w'.drawn
  block : ∀ k, some k ≠ b → w'.heap[k]? = w.heap[k]?
theorem St.only {ρ : Rho} {H : List SO} {g : Fr} {w w' : World} (h : St ρ H g w) {k : Nat} {so : SO} (hk : H[k]? = some so) (hown : so.owned = true) (hw : KeepBut (ρ k) w w') : St ρ (H.set k .gone) g w' := by
  have h1 := h.giveUp k
  have hkl := (List.getElem?_eq_some_iff.1 hk).1
  -- what an entry that is left names is another block
  have hne : ∀ (j : Nat) s b, (H.set k .gone)[j]? = some s → (s.owned = true ∨ s.isRo = true) → ρ j = some b → some b ≠ ρ k := by
    intro j s b hj hs hb he
    by_cases e : j = k
    · subst e
      rw [List.getElem?_set_self hkl] at hj
      cases hj; simp [SO.owned, SO.isRo] at hs
    · rw [List.getElem?_set_ne (Ne.symm e)] at hj
      exact h.dis k j so s b (Ne.symm e) hk hj hown hs he.symm hb
  have hgh : ∀ (j : Nat) s hp b o, (H.set k .gone)[j]? = some s → (s = .ghost hp ∨ s = .heap hp) → hp b = some o → some b ≠ ρ k := by
    intro j s hp b o hj hs ho he
    by_cases e : j = k
    · subst e
      rw [List.getElem?_set_self hkl] at hj
      cases hj; rcases hs with h9 | h9 <;> cases h9
    · rw [List.getElem?_set_ne (Ne.symm e)] at hj
      rcases hs with rfl | rfl
      · have := h.gho k j so hp b hk hown hj he.symm
        rw [ho] at this; cases this
      · exact h.hpo j k hp b so hj (by rw [ho]; simp) hk (.inl hown) he.symm
  constructor
  · intro j s hj
    refine entryOK_congr (n := (H.set k .gone).length) (List.getElem?_eq_some_iff.1 hj).1 (h1.ent j s hj) (fun _ _ => rfl) ?_ ?_ ?_
    · rintro l e rfl; exact h1.scp j l e hj
    · rintro m s' seen st rfl; exact h1.sci j m s' seen st hj
    · intro b o hgone ho hb hg
      rw [hw.block b ?_]; exact ho
      cases s with
      | gone => exact absurd rfl hgone
      | ghost hp => exact hgh j _ hp b o hj (.inl rfl) (hg hp (.inl rfl))
      | heap hp => exact hgh j _ hp b o hj (.inr rfl) (hg hp (.inr rfl))
      | cells l e => exact hne j _ b hj (.inl rfl) (hb (.inl rfl))
      | arr xs e => exact hne j _ b hj (.inl rfl) (hb (.inl rfl))
      | ro xs e => exact hne j _ b hj (.inr rfl) (hb (.inr rfl))
      | map es c => exact hne j _ b hj (.inl rfl) (hb (.inl rfl))
      | iter m s seen st => exact hne j _ b hj (.inl rfl) (hb (.inl rfl))
      | siter s p => exact hne j _ b hj (.inl rfl) (hb (.inl rfl))
  · exact h1.dis
  · exact h1.gho
  · exact ⟨hw.os.trans h1.env.1, hw.tape.trans h1.env.2.1, hw.output.trans h1.env.2.2.1, h1.env.2.2.2.mono hw.drawn⟩
  · intro b o ho
    rw [hw.block b ?_]; exact h1.frm b o ho
    intro he
    have := h.frd k so b hk hown he.symm
    rw [ho] at this; cases this
  · exact h1.frd
  · exact h1.scp
  · exact h1.sci
  · exact h1.hpf
  · exact h1.hpo
  · exact h1.hpc
theorem keep_freeze (w : World) (b n : Nat) : KeepBut (some b) w (w.freeze ⟨b, 0, none⟩ n) := by
  unfold World.freeze
  split
  · exact ⟨rfl, rfl, rfl, Nat.le_refl _, fun _ _ => rfl⟩
  · refine ⟨rfl, rfl, rfl, Nat.le_refl _, fun k hk => ?_⟩
    simp only [Array.getElem?_modify]
    rw [if_neg (fun e => hk (by rw [e]))]
end Go.V

namespace Go.V
open Go Go.RowKit Go.Proofs Go.Lib
set_option linter.unusedSectionVars false

/-! ### strings.Builder's String: a row of bytes from a place on -/
section
variable {P : Program} (w : World)
theorem liesAt_from {e : TypeId} (hc : P.cellsOf e = 1) (count off n : Nat) (hn : off + n ≤ count) : liesAt P P.depth e count off e n = true := by
  have hd : P.depth = (2 * (P.types.size + Made.depth) + 1) + 1 := rfl
  rw [hd]
  simp only [liesAt, Bool.or_eq_true]
  left
  rw [hd]
  simp [rowAt, hc, hn, sameLayout, Nat.div_one, Nat.mod_one]
theorem run_string_from (pt it ty e : TypeId) (hp : P.underlying pt = some (.pointer e)) (hc : P.cellsOf e = 1) (g o cells : Nat) (hsh : w.shape? g = some (e, cells)) (l : List UInt8) (h0 : l ≠ []) (hn : o + l.length ≤ cells) (h63 : l.length ≤ 9223372036854775807)
    (hcell : ∀ j x, l[j]? = some x → w.cell? ((⟨g, o, none⟩ : Addr).add j) = some (.int .u8 x.toNat)) :
    (Builtin.unsafeString_ #[pt, it] ty #[.pointer (some ⟨g, o, none⟩), .int .i64 l.length]).run P w = .ok (.string ⟨l.toArray⟩) (w.freeze ⟨g, o, none⟩ l.length) := by
  have hl : l.length ≠ 0 := by simpa using h0
  have hlb := run_loadBytes (P := P) w l ⟨g, o, none⟩ .empty hcell
  have hlies := liesAt_from (P := P) hc (cells / P.cellsOf e) o l.length (by rw [hc]; simpa using hn)
  have h63' : ¬ (9223372036854775807 : Int) < (l.length : Int) := by omega
  have hdef : Builtin.unsafeString_ #[pt, it] ty #[.pointer (some ⟨g, o, none⟩), .int .i64 l.length] =
      (do
        let n ← asInt (.int .i64 l.length)
        if n < 0 then runtimePanic (.error "unsafe.String: len out of range")
        if n > IntKind.i64.max then unsupported (.unsafePointer "String: a length above the largest int")
        if n = 0 then pure (.string .empty)
        else if ← variablesAt ⟨g, o, none⟩ (← elemOf pt) n.toNat then do
          let s ← loadBytes ⟨g, o, none⟩ .empty n.toNat
          freeze ⟨g, o, none⟩ n.toNat
          pure (.string s)
        else unsupported (.unsafePointer "String: not so many bytes at ptr")) := rfl
  rw [hdef]
  have hmax : IntKind.i64.max = 9223372036854775807 := rfl
  have hneg : ¬ (l.length : Int) < 0 := by omega
  simp [asInt, asIntOf, hmax, h63', hneg, hl, variablesAt, hsh, elemOf, run_underlying hp, hlies, hlb]
end
theorem keep_freeze' (w : World) (b o n : Nat) : KeepBut (some b) w (w.freeze ⟨b, o, none⟩ n) := by
  unfold World.freeze
  split
  · exact ⟨rfl, rfl, rfl, Nat.le_refl _, fun _ _ => rfl⟩
  · refine ⟨rfl, rfl, rfl, Nat.le_refl _, fun k hk => ?_⟩
    simp only [Array.getElem?_modify]
    rw [if_neg (fun e => hk (by rw [e]))]
end Go.V

namespace Go.V
open Go Go.Proofs
set_option linter.unusedSectionVars false
variable [Mode]

/-! ### slices.Sort at strings, by the library's law -/
def leS (x y : List UInt8) : Bool := decide (x ≤ y)
abbrev stcl (l : List UInt8) : List Value := [encStr l]
omit [Mode] in
theorem putCells_str (off : Nat) (m : List (List UInt8)) (c : Array Value) : Sort.putCells encStr off m.toArray c = Sort.putCells id off (m.flatMap stcl).toArray c := by
  have hfm : m.flatMap stcl = m.map encStr := by induction m with
    | nil => rfl
    | cons x m ih => rw [List.flatMap_cons, ih]; rfl
  rw [hfm]
  unfold Sort.putCells
  apply Array.ext_getElem?
  intro i
  simp only [Array.getElem?_mapIdx, List.size_toArray, List.length_map, id]
  cases hc : c[i]? with
  | none => rfl
  | some x =>
    simp only [Option.map_some]
    by_cases h : off ≤ i ∧ i < off + m.length
    · rw [if_pos h, if_pos h]
      have h1 : i - off < m.length := by omega
      rw [getElem!_pos m.toArray (i - off) (by simpa using h1), getElem!_pos (m.map encStr).toArray (i - off) (by simpa using h1)]
      simp
    · rw [if_neg h, if_neg h]
/-- slices.Sort: the row is sorted. -/
theorem sortS_ctr {P : Program} {r : Shelf.Ren} (L : Lays.n190 P r) {H : List SO} {j off cap : Nat} {xs : List Value} {e : TypeId} (hj : H[j]? = some (.arr xs e)) (d : List (List UInt8)) (hd : (xs.drop off).take d.length = d.flatMap stcl) (hlen : off + d.length ≤ xs.length) (hsz : d.length < 4611686018427387904) :
    Ctr P (r.f 190) [.sl j off d.length cap] H (fun v H' => v = .tup [] ∧ H' = H.set j (.arr (rowSet xs off ((d.mergeSort fun x y => decide (x ≤ y)).flatMap stcl)) e)) := by
  intro ρ g w hS hb
  have hjl := (List.getElem?_eq_some_iff.1 hj).1
  have hent := hS.ent j _ hj
  have hk : ∀ x, (stcl x).length = 1 := fun _ => rfl
  have hfl := flatMap_len hk d
  have hfl' := flatMap_len hk (d.mergeSort fun x y => decide (x ≤ y))
  have hml : (d.mergeSort fun x y => decide (x ≤ y)).length = d.length := List.length_mergeSort _
  simp only [valL, V.val]
  rcases hent with ⟨hn, hx⟩ | ⟨b, fr, hρ, hwb, hfr⟩
  · subst hx
    have hd0 : d = [] := by
      cases d with
      | nil => rfl
      | cons x d => simp at hlen
    subst hd0
    refine Calls.mono (Any.slices_Sort_string_none L _ _ w) ?_
    rintro e' w' ⟨rfl, rfl⟩
    refine ⟨ρ, .tup [], H, rfl, hS, fun _ _ => rfl, Nat.le_refl _, rfl, rfl, ?_⟩
    have : rowSet [] off (List.flatMap stcl (([] : List (List UInt8)).mergeSort fun x y => decide (x ≤ y))) = [] := by simp [rowSet]
    rw [this]
    apply List.ext_getElem?
    intro i
    by_cases hij : j = i
    · subst hij; rw [List.getElem?_set_self hjl, hj]
    · simp [hij]
  · have hHold : Sort.Holds encStr w b off d.toArray := by
      intro i hi
      have hi : i < d.length := by simpa using hi
      have hg : xs[off + i]? = some (encStr d.toArray[i]!) := by
        have h3 : ((xs.drop off).take d.length)[i]? = (d.flatMap stcl)[i]? := by rw [hd]
        rw [List.getElem?_take_of_lt hi, List.getElem?_drop] at h3
        rw [h3, flatMap_get hk d i (by simpa using hi)]
        simp [Nat.div_one, Nat.mod_one]
      constructor
      · rw [cell_of hwb]; simpa using hg
      · have := (List.getElem?_eq_some_iff.1 hg).1
        simp only [World.frozen?, hwb]
        rcases hfr with h5 | h5
        · simp; omega
        · simp; omega
    have hblk : b < w.heap.size := (Array.getElem?_eq_some_iff.1 hwb).1
    rw [show (ρ j).map (fun b => (⟨b, off, none⟩ : Addr)) = some ⟨b, off, none⟩ by rw [hρ]; rfl]
    refine Calls.mono (Any.slices_Sort_string L b off cap d w hHold hblk hsz) ?_
    rintro e' w' ⟨rfl, n, os, rfl⟩
    generalize hm : (d.mergeSort fun x y => decide (x ≤ y)) = m at *
    refine ⟨ρ, .tup [], H.set j (.arr (rowSet xs off (m.flatMap stcl)) e), rfl, ?_, fun _ _ => rfl, by simp, rfl, rfl, rfl⟩
    have hw1 : HeapIs w (Sort.putRow encStr (Sort.ahead w n) b off m.toArray) (w.heap.setIfInBounds b (.cells (rowSet xs off (m.flatMap stcl)).toArray e fr)) := by
      refine ⟨?_, rfl, rfl, rfl, Nat.le_add_right _ _⟩
      simp only [Sort.putRow, Sort.mapBlock, Sort.ahead]
      apply Array.ext_getElem?
      intro i
      by_cases hi : b = i
      · subst hi
        rw [Array.getElem?_modify, if_pos rfl, hwb]
        simp only [Option.map_some, Sort.onCells, Array.getElem?_setIfInBounds, if_pos hblk]
        rw [putCells_str, putCells_rowSet (by omega)]
        simp
      · rw [Array.getElem?_modify, if_neg hi, Array.getElem?_setIfInBounds_ne hi]
    have hS1 := hS.set (so' := .arr (rowSet xs off (m.flatMap stcl)) e) hj rfl rfl hρ hw1
      (.inr ⟨b, fr, hρ, by rw [hw1.1]; simp [hblk], by rw [rowSet_len (by omega)]; exact hfr⟩) (by simp) (by simp)
    exact hS1.grow (os := os) ⟨rfl, rfl, rfl, rfl, Nat.le_refl _⟩
end Go.V

