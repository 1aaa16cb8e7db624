/- Part of the proof that the statement named in the last file holds: lemmas of the prover's own. No conditions. -/
import Derived.Test.YtmidamdjpabpbaaVB
import Derived.RangeFuncSeq
import Derived.RangeFuncLeaves
namespace Go.V
open Go

section
variable {P : Program} {ρ : Rho} {H : List SO} {g : Fr} {w : World} {t : List SV} {a : Act} {ops : Array Oper} {Q : Exit → Act → World → Prop}

/-- A fence that asks nothing. -/
def Asks0 (F : Fence) : Prop := (∀ f, F.fn f) ∧ F.depth = none
theorem asks0_wide : Asks0 Fence.wide := ⟨fun _ => trivial, rfl⟩
theorem asks0_round (l : Nat) : Asks0 (Fence.wide.inRound l) := ⟨fun _ => trivial, rfl⟩

theorem callsIn0 {F : Fence} (hF : F = Fence.wide ∨ ∃ l, F = Fence.wide.inRound l) {n : Nat} {f : FuncId} {args : Array Value} {R : Ending → World → Prop} (h : Calls P f args w R) : CallsIn F n P f args w R := by
  rcases hF with rfl | ⟨l, rfl⟩
  · exact callsIn_wide.2 h
  · exact (callsIn_wide (n := n)).2 h
theorem asks0_of {F : Fence} (hF : F = Fence.wide ∨ ∃ l, F = Fence.wide.inRound l) : Asks0 F := by
  rcases hF with rfl | ⟨l, rfl⟩
  · exact asks0_wide
  · exact asks0_round l

/-- 'Nxt' with deferred calls kept. -/
def NxtD (dd : List Deferred) (P : Program) (ρ : Rho) (H : List SO) (g : Fr) (K : List SV → List SO → Prop) (a' : Act) (w' : World) : Prop :=
  ∃ ρ' t' H', At P ρ' H' g w' t' a' ∧ a'.defers = dd ∧ (∀ k, k < H.length → ρ' k = ρ k) ∧ H.length ≤ H'.length ∧ K t' H'
theorem Res.nextD {dd : List Deferred} {K : List SV → List SO → Prop} (h : At P ρ H g w t a) (hd : a.defers = dd) {d : Option Nat} {v : Value} {w' : World} (hr : Res ρ H g (fun sv H' => K (put t d sv) H') v w') : NxtD dd P ρ H g K (a.put d v) w' := by
  obtain ⟨ρ', sv, H', rfl, hS, hρ, hl, hb, hk⟩ := hr
  refine ⟨ρ', put t d sv, H', ⟨(h.f.ext hρ h.b).put d sv, belowL_put (belowL_mono hl t h.b) d hb, hS⟩, ?_, hρ, hl, hk⟩
  cases d <;> exact hd
theorem NxtD.here {dd : List Deferred} {K : List SV → List SO → Prop} (h : At P ρ H g w t a) (hd : a.defers = dd) (d : Option Nat) {sv : SV} (hb : below H.length sv = true) (hk : K (put t d sv) H) : NxtD dd P ρ H g K (a.put d (val ρ sv)) w :=
  (Res.here (K := fun sv H' => K (put t d sv) H') h.s hb hk).nextD h hd

theorem wpIn_of_good {F : Fence} (hF : F = Fence.wide ∨ ∃ l, F = Fence.wide.inRound l) {n : Nat} {dd : List Deferred} {K : List SV → List SO → Prop} (h : At P ρ H g w t a) (hd : a.defers = dd) {o : Oper} (hnd : ∀ c, o.op ≠ .defer c)
    (hg : GoodRes P ρ H g (fun sv H' => K (put t o.dst sv) H') ((execOp a.eval o).run P w)) : o.wpIn F n P a w (NxtD dd P ρ H g K) Q := by
  obtain ⟨hf, hdep⟩ := asks0_of hF
  refine ⟨fun f _ => hf f, ?_⟩
  rw [Oper.semAt_eq _ _ _ hnd]
  generalize (execOp a.eval o).run P w = r at *
  cases r with
  | halt x w' => simp [GoodRes] at hg
  | ok n w' =>
    cases n <;> simp only [GoodRes] at hg <;> simp only [Oper.uponIn]
    case value v => exact hg.nextD h hd
    case skip => exact hg.nextD h hd
    case enter f args =>
      refine ⟨fun hs => (by rw [hdep] at hs; cases hs), callsIn0 hF (Calls.mono hg ?_)⟩
      rintro e w'' ⟨v, rfl, hr⟩
      exact hr.nextD h hd

theorem not_defer {o : Oper} {op : VOp} (hc : cOp P o = some op) : ∀ c, o.op ≠ .defer c := by
  intro c e
  simp [cOp, e] at hc

theorem vcReg_soundIn {F : Fence} (hF : F = Fence.wide ∨ ∃ l, F = Fence.wide.inRound l) {n : Nat} {dd : List Deferred} {Q' : List SV → List SO → Prop} (hQ : ∀ a w, NxtD dd P ρ H g Q' a w → Q .normal a w) : ∀ (l : List VIns) (k : Nat), (∀ j : Nat, (ops.toList.drop k)[j]?.bind (cIns P ops) = l[j]?) → k + l.length = ops.size →
    ∀ {ρ1 : Rho} {H1 : List SO} {w1 : World} {t1 : List SV} {a1 : Act}, At P ρ1 H1 g w1 t1 a1 → a1.defers = dd → (∀ k, k < H.length → ρ1 k = ρ k) → H.length ≤ H1.length →
    vcReg P l t1 H1 Q' → wpOpsIn F n P ops Q (List.range' k l.length) a1 w1
  | [], k, _, _, ρ1, H1, w1, t1, a1, h, hd, hρ, hl, hv => by
    simp only [List.length_nil, List.range', wpOpsIn]
    exact hQ _ _ ⟨ρ1, t1, H1, h, hd, hρ, hl, hv⟩
  | x :: l, k, hc, hn, ρ1, H1, w1, t1, a1, h, hd, hρ, hl, hv => by
    have h0 := hc 0
    simp only [List.getElem?_cons_zero, List.getElem?_drop, Nat.add_zero] at h0
    cases ho : ops[k]? with
    | none => simp [ho] at h0
    | some o =>
      simp [ho] at h0
      simp only [List.length_cons, List.range']
      rw [vcReg_cons] at hv
      have step : ∀ {ρ' : Rho} {H' : List SO} {w' : World} {t' : List SV} {a' : Act}, At P ρ' H' g w' t' a' → a'.defers = dd → (∀ k, k < H1.length → ρ' k = ρ1 k) → H1.length ≤ H'.length → vcReg P l t' H' Q' →
          wpOpsIn F n P ops Q (List.range' (k + 1) l.length) a' w' := by
        intro ρ' H' w' t' a' h1 h2 h3 h4 h5
        refine vcReg_soundIn hF hQ l (k + 1) (fun j => ?_) (by simp at hn; omega) h1 h2 (fun k hk => (h3 k (by omega)).trans (hρ k hk)) (by omega) h5
        have := hc (j + 1)
        simp only [List.getElem?_drop, List.getElem?_cons_succ] at this ⊢
        rw [← this]; congr 2; omega
      have mono : ∀ a' w', NxtD dd P ρ1 H1 g (fun t' H' => vcReg P l t' H' Q') a' w' → wpOpsIn F n P ops Q (List.range' (k + 1) l.length) a' w' := by
        rintro a' w' ⟨ρ', t', H', h1, h2, h3, h4, h5⟩
        exact step h1 h2 h3 h4 h5
      obtain ⟨t', h', hcase⟩ := vcIns_cases h0 h hv
      simp only [wpOpsIn, ho]
      rcases hcase with ⟨hw, hop, _⟩ | ⟨hw, hk⟩
      · rw [if_pos hw]
        have hco := (cIns_spec h0).1
        have := wpIn_of_good (Q := Q) hF (n := n) (K := fun t' H' => vcReg P l t' H' Q') h' hd (not_defer hco) (vcOp_sound h' hco hop).1
        obtain ⟨u1, u2⟩ := this
        refine ⟨u1, ?_⟩
        generalize (o.semAt F.round a1.eval).run P w1 = r at *
        cases r with
        | halt x w' => cases x <;> exact u2
        | ok m w' =>
          cases m <;> simp only [Oper.uponIn] at u2 ⊢
          case value v => exact mono _ _ u2
          case skip => exact mono _ _ u2
          case defer d => exact mono _ _ u2
          case enter f args => exact ⟨u2.1, CallsIn.mono u2.2 fun e w'' he => by cases e <;> first | exact mono _ _ he | exact he⟩
          case row row args => exact ⟨u2.1, RowsIn.mono u2.2 fun _ _ he => mono _ _ he⟩
          case round l f tmps assign body => exact ⟨u2.1, RoundIn.mono u2.2 fun e w'' he => by cases e <;> first | exact mono _ _ he | exact he⟩
      · rw [if_neg (by rw [hw]; simp)]
        exact ⟨fun f _ => (asks0_of hF).1 f, mono _ _ (NxtD.here h' hd o.dst (sv := un) rfl hk)⟩

theorem vcReg_regionIn {F : Fence} (hF : F = Fence.wide ∨ ∃ l, F = Fence.wide.inRound l) {n : Nat} {dd : List Deferred} {id : Nat} {l : List VIns} (hc : ops.toList.mapM (cIns P ops) = some l) {Q' : List SV → List SO → Prop} (hQ : ∀ a w, NxtD dd P ρ H g Q' a w → Q .normal a w)
    (h : At P ρ H g w t a) (hd : a.defers = dd) (hv : vcReg P l t H Q') : (Code.region id ops false).wpIn F n P Q a w := by
  obtain ⟨h1, h2⟩ := mapM_get hc
  refine wpIn_region ?_
  have := vcReg_soundIn (ops := ops) (Q := Q) (n := n) hF hQ l 0 (by simpa using h2) (by simpa using h1) h hd (fun _ _ => rfl) (Nat.le_refl _) hv
  rw [List.range_eq_range', ← Array.length_toList, ← h1]
  exact this
end
end Go.V

namespace Go.V
open Go

/-! ### Ranges over a function -/
def Cov (W : World) (g : Fr) : Prop := (W.os = g.os ∧ W.tape = g.tape ∧ W.output = g.out ∧ g.dr ≤ W.drawn) ∧ ∀ b o, g.f b = some o → W.heap[b]? = some o
/-- What lies outside both frames stays. -/
def ExtF (g : Fr) (W : World) (g' : Fr) (W' : World) : Prop := ∀ b o, W.heap[b]? = some o → g.f b = none → W'.heap[b]? = some o ∧ g'.f b = none

/-- A round, as the iterator sees it. -/
def RoundC {α : Type} (P : Program) (l : Nat) (enc : α → Value) (J : List α → Fr → Prop) (N : Nat) : Prop :=
  ∀ (pre : List α) (x : α) (g : Fr) (W : World) (m : Nat), J pre g → pre.length < N → Cov W g →
    YieldAt Fence.wide m P l #[enc x] W fun e W' => e = .returned (.bool true) ∧ ∃ g', J (pre ++ [x]) g' ∧ Cov W' g' ∧ ExtF g W g' W'

/-- What an iterator gives: function g with what it has captured; H: its own blocks. -/
def Gives {α : Type} (P : Program) (f : FuncId) (caps : List SV) (H : List SO) (enc : α → Value) (S : List α → Prop) (N : Nat) : Prop :=
  ∀ (l : Nat) (J : List α → Fr → Prop) (ρ : Rho) (g : Fr) (W : World), St ρ H g W → belowL H.length caps = true → J [] g → RoundC P l enc J N →
    Calls P f (#[.func (.yield l) #[] #[]] ++ (valL ρ caps).toArray) W fun e W' => (∃ v, e = .returned v) ∧ ∃ xs g', S xs ∧ J xs g' ∧ St ρ H g' W'

section
variable {P : Program} {ρ : Rho} {H : List SO} {g : Fr} {w : World}

/-- Entries that are owned, or nothing. -/
def plainH : List SO → Bool
  | [] => true
  | .gone :: r => plainH r
  | o :: r => o.owned && plainH r
theorem plainH_spec : ∀ {H : List SO}, plainH H = true → ∀ (i : Nat) s, H[i]? = some s → s.owned = true ∨ s = .gone
  | [], _, i, s, h => by simp at h
  | o :: r, hp, i, s, h => by
    have hr : plainH r = true ∧ (o.owned = true ∨ o = .gone) := by
      cases o <;> simp_all [plainH, SO.owned]
    cases i with
    | zero => simp at h; subst h; exact hr.2
    | succ i => exact plainH_spec hr.1 i s (by simpa using h)

def Fr.at (g : Fr) (l : Nat) (o : Option Obj) : Fr := { g with f := fun b => if b = l then o else g.f b }
def Fr.all (W : World) (no : Nat → Prop) [DecidablePred no] : Fr := ⟨fun b => if no b then none else W.heap[b]?, W.os, W.tape, W.output, W.drawn⟩

/-- A block of the frame is turned. -/
theorem St.outside (h : St ρ H g w) (hp : plainH H = true) {l : Nat} {o o' : Obj} (hl : g.f l = some o) : St ρ H (g.at l (some o')) (w.putObj l o') := by
  have hlt : l < w.heap.size := (Array.getElem?_eq_some_iff.1 (h.frm l o hl)).1
  constructor
  · intro k s hk
    refine entryOK_congr (n := H.length) (List.getElem?_eq_some_iff.1 hk).1 (h.ent k s hk) (fun _ _ => rfl) ?_ ?_ ?_
    · rintro l e rfl; exact h.scp k l e hk
    · rintro m s' seen st rfl; exact h.sci k m s' seen st hk
    · intro b ob hng hb hor hgh
      rcases plainH_spec hp k s hk with ho | ho
      · have hne : b ≠ l := by
          rintro rfl
          have := h.frd k s b hk ho (hor (.inl ho))
          rw [this] at hl; cases hl
        rw [World.putObj_heap_other hne]; exact hb
      · exact absurd ho hng
  · exact h.dis
  · exact h.gho
  · exact h.env
  · intro b ob hb
    simp only [Fr.at] at hb
    split at hb
    · rename_i e; subst e; cases hb; exact World.putObj_heap_same hlt
    · rename_i e; rw [World.putObj_heap_other e]; exact h.frm b ob hb
  · intro i si b hi ho hb
    have hn := h.frd i si b hi ho hb
    simp only [Fr.at]
    split
    · rename_i e; subst e; rw [hn] at hl; cases hl
    · exact hn
  · exact h.scp
  · exact h.sci

/-- How elements are written. -/
structure Elem (P : Program) {α : Type} (tE : TypeId) (n : Option Nat) (sz by' : Nat) (zs : List Value) (sv : α → SV) (cells : α → List Value) : Prop where
  shape : shapeT P tE = some n
  size : sizeT P tE = some sz
  bytes : bytesT P tE = some by'
  zero : zeroCellsT P tE = some zs
  zlen : zs.length = sz
  pos : sz ≠ 0 ∧ by' ≠ 0
  sv_cells : ∀ x, (n = none ∧ ∃ v, sv x = .raw v ∧ cells x = [v]) ∨ (∃ m, n = some m ∧ sv x = .agg ((cells x).map .raw))
  len : ∀ x, (cells x).length = sz
  ok : ∀ x, cellsOK (cells x) = true

theorem paste_all {α : Type} : ∀ (l ys : List α), l.length = ys.length → paste l 0 ys = some ys
  | [], [], _ => by simp [paste]
  | x :: l, y :: ys, h => by
    simp only [List.length_cons, Nat.add_right_cancel_iff] at h
    simp only [paste, paste_all l ys h]
  | [], _ :: _, h => by simp at h
  | _ :: _, [], h => by simp at h
theorem plainL_raws : ∀ (l : List Value), plainL (l.map .raw) = some l
  | [] => rfl
  | x :: l => by simp [plainL, plain, plainL_raws l]
theorem cut_all {α : Type} : ∀ (l : List α), cut l 0 l.length = some l
  | [] => by simp [cut]
  | x :: l => by simp [cut, cut_all l]
theorem oneL_raws : ∀ {l : List Value}, cellsOK l = true → oneL (l.map .raw) = true
  | [], _ => rfl
  | x :: l, h => by
    have h2 : (one (.raw x) = true) ∧ cellsOK l = true := by
      cases x <;> simp_all [cellsOK, one]
    simp [oneL, h2.1, oneL_raws h2.2]
theorem Elem.stored {α : Type} {tE : TypeId} {n : Option Nat} {sz by' : Nat} {zs : List Value} {sv : α → SV} {cells : α → List Value} (h : Elem P tE n sz by' zs sv cells) (x : α) : stored n (sv x) = some ((cells x).map .raw) := by
  have hok := h.ok x
  rcases h.sv_cells x with ⟨rfl, v, e1, e2⟩ | ⟨m, rfl, e1⟩
  · rw [e1, e2]
    have : one (.raw v) = true := by
      rw [e2] at hok
      cases v <;> simp_all [cellsOK, one]
    simp [V.stored, this, nkb]
  · rw [e1]
    have hm : m = sz := by
      have := (shape_some h.shape).2
      rw [h.size] at this; exact (Option.some.inj this).symm
    simp [V.stored, oneL_raws hok, h.len x, hm]
theorem Elem.partCells {α : Type} {tE : TypeId} {n : Option Nat} {sz by' : Nat} {zs : List Value} {sv : α → SV} {cells : α → List Value} (h : Elem P tE n sz by' zs sv cells) (x : α) : partCells (sv x) = some ((cells x).map .raw) := by
  have hok := h.ok x
  rcases h.sv_cells x with ⟨rfl, v, e1, e2⟩ | ⟨m, rfl, e1⟩
  · rw [e1, e2]
    have : one (.raw v) = true := by
      rw [e2] at hok
      cases v <;> simp_all [cellsOK, one]
    simp [V.partCells, this]
  · rw [e1]; simp [V.partCells]
end
end Go.V

namespace Go.V
open Go

section
variable {P : Program} {α : Type} {tS tE : TypeId} {n : Option Nat} {sz by' : Nat} {zs zsl : List Value} {sv : α → SV} {cells : α → List Value}

theorem ap_assign (h : Elem P tE n sz by' zs sv cells) (x : α) (u0 u1 u2 u3 u4 u5 u6 u8 u9 u10 u11 u12 : SV) (H : List SO) :
    vcReg P [⟨some 5, none, .new tE zs⟩, ⟨none, none, .store n (.t 5) (.t 7)⟩] [u0, u1, u2, u3, u4, u5, u6, sv x, u8, u9, u10, u11, u12] H
      (fun t' H' => t' = [u0, u1, u2, u3, u4, .ptr H.length 0, u6, sv x, u8, u9, u10, u11, u12] ∧ H' = H ++ [.cells ((cells x).map .raw) tE]) := by
  simp only [vcReg, vcIns, vcOp, rawsK_eq, newHK_eq, putK_eq, put, List.set_cons_succ, List.set_cons_zero, evK, getK, vcStore, h.stored x, objK_eq]
  have e : obj (H ++ [SO.cells (zs.map .raw) tE]) H.length = .cells (zs.map .raw) tE := by simp [obj]
  rw [e]
  simp only [paste_all (zs.map SV.raw) ((cells x).map SV.raw) (by simp [h.len x, h.zlen]), setHK_eq]
  exact ⟨trivial, by simp⟩

theorem ap_body (h : Elem P tE n sz by' zs sv cells) (hzl : zsl.length = sz) (x : α) (u0 u1 u3 u4 u6 u7 u8 u9 u10 u11 u12 : SV) (o c len : Nat) (xs : List Value)
    (hx : len ≤ c ∧ o + c * sz ≤ xs.length) (hb : (len + 1) * by' ≤ 1099511627776) :
    vcReg P [⟨some 8, none, .load none (.t 2)⟩, ⟨some 9, none, .load n (.t 5)⟩, ⟨some 10, none, .bslice tE 1 zsl [(0, sz, .t 9)]⟩, ⟨some 11, none, .append tE sz by' zs (.t 8) (.t 10)⟩, ⟨none, none, .store none (.t 2) (.t 11)⟩]
      [u0, u1, .ptr 0 0, u3, u4, .ptr 2 0, u6, u7, u8, u9, u10, u11, u12] [.cells [.sl 1 o len c] tS, .arr xs tE, .cells ((cells x).map .raw) tE]
      (fun _ H' => ∃ o' c' xs', H' = [.cells [.sl 4 o' (len + 1) c'] tS, .gone, .cells ((cells x).map .raw) tE, .arr (cells x) tE, .arr xs' tE] ∧
        len + 1 ≤ c' ∧ o' + c' * sz ≤ xs'.length ∧ (xs'.drop o').take ((len + 1) * sz) = (xs.drop o).take (len * sz) ++ cells x) := by
  have hload : ∀ K : SV → Prop, K (sv x) → vcLoad n (.ptr 2 0) [.cells [.sl 1 o len c] tS, .arr xs tE, .cells ((cells x).map .raw) tE] K := by
    intro K hK
    rcases h.sv_cells x with ⟨rfl, v, e1, e2⟩ | ⟨m, rfl, e1⟩
    · rw [e1] at hK
      simp only [vcLoad, objK, e2, List.map_cons, List.map_nil, List.getElem?_cons_zero]
      exact hK
    · have hm : m = ((cells x).map SV.raw).length := by
        have := (shape_some h.shape).2
        rw [h.size] at this
        simp [h.len x, (Option.some.inj this).symm]
      rw [e1] at hK
      simp only [vcLoad, objK, hm, cut_all]
      exact hK
  simp only [vcReg, vcIns, vcOp, putK_eq, put, evK, getK]
  have hl0 : ∀ K : SV → Prop, K (.sl 1 o len c) → vcLoad none (.ptr 0 0) [.cells [.sl 1 o len c] tS, .arr xs tE, .cells ((cells x).map .raw) tE] K := fun K hK => hK
  refine hl0 _ ?_
  simp only [List.set_cons_succ, List.set_cons_zero, getK]
  refine hload _ ?_
  simp only [getK, rawsK_eq, pasteK, evK, h.partCells x, List.length_map, h.len x, beq_self_eq_true, cond_true,
    paste_all (zsl.map SV.raw) ((cells x).map SV.raw) (by simp [h.len x, hzl]), plainL_raws, newHK_eq, List.length_cons, List.length_nil, List.cons_append, List.nil_append, Nat.reduceAdd]
  have hsl : slElems [.cells [.sl 1 o len c] tS, .arr xs tE, .cells ((cells x).map .raw) tE, .arr (cells x) tE] sz (.sl 3 0 1 1) = some (cells x, 1) := by
    simp only [slElems, obj, List.getD_cons_succ, List.getD_cons_zero, List.drop_zero, Nat.one_mul]
    rw [List.take_of_length_le (by rw [h.len x]; exact Nat.le_refl _)]
  unfold vcAppend
  rw [hsl]
  simp only [objK, setHK_eq, newHK_eq, List.set_cons_succ, List.set_cons_zero, List.length_cons, List.length_nil, Nat.reduceAdd, List.cons_append, List.nil_append]
  refine ⟨⟨⟨hx.1, hx.2, trivial⟩, ⟨by rw [h.len x, Nat.one_mul], h.ok x⟩, hb⟩, ?_⟩
  intro zs' o' c' ⟨q1, q2, q3⟩
  simp only [vcStore, stored, nkb, one, cond_true, objK, paste, setHK_eq, List.set_cons_zero]
  exact ⟨o', c', zs', rfl, q1, q2, q3⟩
end
end Go.V

namespace Go.V
open Go

/-- The state of a collecting loop between two rounds, as a frame. -/
structure ApJ {α : Type} (tS tE : TypeId) (sz : Nat) (cells : α → List Value) (g0 : Fr) (Bs D l : Nat) (rec : Loop) (pre : List α) (g : Fr) : Prop where
  env : g.os = g0.os ∧ g.tape = g0.tape ∧ g.out = g0.out ∧ g0.dr = g.dr
  keep : ∀ b o, g0.f b = some o → g.f b = some o
  lrec : g.f l = some (.loop rec)
  dd : g.f D = some (.deferred (some []))
  own : g0.f Bs = none ∧ g0.f l = none ∧ g0.f D = none
  row : ∃ (r : Option Nat) (o c : Nat) (xs : List Value), g.f Bs = some (.cells #[.slice (r.map fun b => ⟨b, o, none⟩) pre.length c] tS (0, 0)) ∧
    (pre.length ≤ c ∧ o + c * sz ≤ xs.length ∧ (xs.drop o).take (pre.length * sz) = pre.flatMap cells) ∧
    ((r = none ∧ xs = []) ∨ ∃ b fr, r = some b ∧ g.f b = some (.cells xs.toArray tE fr) ∧ (fr.1 = fr.2 ∨ xs.length ≤ fr.1) ∧ b ≠ Bs ∧ g0.f b = none)

section
variable {P : Program} {α : Type} {tS tE : TypeId} {n : Option Nat} {sz by' : Nat} {zs zsl : List Value} {sv : α → SV} {cells : α → List Value}

theorem Elem.val (h : Elem P tE n sz by' zs sv cells) (x : α) (ρ ρ' : Rho) : V.val ρ (sv x) = V.val ρ' (sv x) := by
  rcases h.sv_cells x with ⟨_, v, e1, _⟩ | ⟨m, _, e1⟩
  · rw [e1]; rfl
  · rw [e1]; simp [V.val, valL_eq, Function.comp_def]
theorem Elem.below (h : Elem P tE n sz by' zs sv cells) (x : α) (m : Nat) : V.below m (sv x) = true := by
  rcases h.sv_cells x with ⟨_, v, e1, _⟩ | ⟨m, _, e1⟩
  · rw [e1]; rfl
  · rw [e1]; simpa [V.below] using below_raws _ _

/-- The blocks of the loop's own state, as a state. -/
theorem ap_st {W : World} {Bs : Nat} {r : Option Nat} {o len c : Nat} {xs : List Value} (hB : W.heap[Bs]? = some (.cells #[.slice (r.map fun b => ⟨b, o, none⟩) len c] tS (0, 0)))
    (hr : (r = none ∧ xs = []) ∨ ∃ b fr, r = some b ∧ W.heap[b]? = some (.cells xs.toArray tE fr) ∧ (fr.1 = fr.2 ∨ xs.length ≤ fr.1) ∧ b ≠ Bs) :
    St (fun k => if k = 0 then some Bs else if k = 1 then r else none) [.cells [.sl 1 o len c] tS, .arr xs tE] (Fr.all W fun b => b = Bs ∨ r = some b) W := by
  have two : ∀ (i : Nat) s, ([SO.cells [.sl 1 o len c] tS, .arr xs tE] : List SO)[i]? = some s → (i = 0 ∧ s = .cells [.sl 1 o len c] tS) ∨ (i = 1 ∧ s = .arr xs tE) := by
    intro i s h
    match i with
    | 0 => simp at h; exact .inl ⟨rfl, h.symm⟩
    | 1 => simp at h; exact .inr ⟨rfl, h.symm⟩
    | i + 2 => simp at h
  constructor
  · intro i s h
    rcases two i s h with ⟨rfl, rfl⟩ | ⟨rfl, rfl⟩
    · exact ⟨Bs, rfl, by simpa [valL, val] using hB⟩
    · rcases hr with ⟨h1, h2⟩ | ⟨b, fr, h1, h2, h3, _⟩
      · exact .inl ⟨h1, h2⟩
      · exact .inr ⟨b, fr, h1, h2, h3⟩
  · intro i j si sj b hij hi hj _ _ hb
    have hne : ∀ b, r = some b → b ≠ Bs := by
      intro b hb
      rcases hr with ⟨h1, _⟩ | ⟨b', fr, h1, _, _, h4⟩
      · rw [h1] at hb; cases hb
      · rw [h1] at hb; cases hb; exact h4
    rcases two i si hi with ⟨rfl, rfl⟩ | ⟨rfl, rfl⟩ <;> rcases two j sj hj with ⟨rfl, rfl⟩ | ⟨rfl, rfl⟩
    · exact absurd rfl hij
    · simp at hb ⊢; subst hb; exact fun e => hne _ e rfl
    · simp at hb ⊢; exact fun e => hne _ hb e.symm
    · exact absurd rfl hij
  · intro i j si gh b _ _ hj
    rcases two j _ hj with ⟨_, h⟩ | ⟨_, h⟩ <;> cases h
  · exact ⟨rfl, rfl, rfl, Nat.le_refl _⟩
  · intro b ob hb
    simp only [Fr.all] at hb
    split at hb
    · cases hb
    · exact hb
  · intro i si b hi _ hb
    simp only [Fr.all]
    rcases two i si hi with ⟨rfl, _⟩ | ⟨rfl, _⟩
    · simp at hb; simp [hb]
    · simp at hb; simp [hb]
  · intro i l e hi
    rcases two i _ hi with ⟨_, h⟩ | ⟨_, h⟩
    · cases h; simp [belowL, below]
    · cases h
  · intro i m s seen st hi
    rcases two i _ hi with ⟨_, h⟩ | ⟨_, h⟩ <;> cases h

def apL2 (tE : TypeId) (n : Option Nat) (zs : List Value) : List VIns := [⟨some 5, none, .new tE zs⟩, ⟨none, none, .store n (.t 5) (.t 7)⟩]
def apL3 (tE : TypeId) (n : Option Nat) (sz by' : Nat) (zs zsl : List Value) : List VIns :=
  [⟨some 8, none, .load none (.t 2)⟩, ⟨some 9, none, .load n (.t 5)⟩, ⟨some 10, none, .bslice tE 1 zsl [(0, sz, .t 9)]⟩, ⟨some 11, none, .append tE sz by' zs (.t 8) (.t 10)⟩, ⟨none, none, .store none (.t 2) (.t 11)⟩]

theorem ap_round (h : Elem P tE n sz by' zs sv cells) (hzl : zsl.length = sz) {ops2 ops3 : Array Oper} {i2 i3 b1 : Nat} (h2 : ops2.toList.mapM (cIns P ops2) = some (apL2 tE n zs)) (h3 : ops3.toList.mapM (cIns P ops3) = some (apL3 tE n sz by' zs zsl))
    {g0 : Fr} {Bs D l : Nat} {rec : Loop} (hst : rec.state = .ready) (hpe : rec.pending = none) (hpa : rec.params = #[7]) (has : rec.assign = .region i2 ops2 false) (hbo : rec.body = .block b1 (.region i3 ops3 false))
    {v0 v1 v6 : Value} (htm : rec.tmps = #[v0, v1, .pointer (some ⟨Bs, 0, none⟩), undef, .slice none 0 0, undef, v6, undef, undef, undef, undef, undef, undef]) {N : Nat} (hN : N * by' ≤ 1099511627776) :
    RoundC P l (fun x => V.val (fun _ => none) (sv x)) (ApJ tS tE sz cells g0 Bs D l rec) N := by
  intro pre x gf W m hJ hlt hC
  obtain ⟨r, o, c, xs, hBs, hlen, hrow⟩ := hJ.row
  have hWl : W.heap[l]? = some (.loop rec) := hC.2 _ _ hJ.lrec
  have hWB := hC.2 _ _ hBs
  have hlB : l ≠ Bs := by
    rintro rfl
    have := hJ.lrec; rw [hBs] at this; cases this
  have hlr : r ≠ some l := by
    rintro rfl
    rcases hrow with ⟨e, _⟩ | ⟨b, fr, e, e2, _⟩
    · cases e
    · cases e
      have := hJ.lrec; rw [e2] at this; cases this
  have hS := ap_st (tS := tS) (tE := tE) (xs := xs) hWB (hrow.imp id fun ⟨b, fr, e1, e2, e3, e4, _⟩ => ⟨b, fr, e1, hC.2 _ _ e2, e3, e4⟩)
  refine ⟨rec.fn, _, rec.assign, rec.body, run_yield hWl (by rw [hpa]; rfl), roundIn_of_wpIn trivial ?_⟩
  rw [has, hbo, hpa, htm]
  refine vcReg_regionIn (.inr ⟨l, rfl⟩) h2 (t := [.raw v0, .raw v1, .ptr 0 0, un, .raw (.slice none 0 0), un, .raw v6, sv x, un, un, un, un, un]) ?_ ⟨?_, ?_, hS⟩ rfl (ap_assign h x _ _ _ _ _ _ _ _ _ _ _ _ _)
  rotate_left 1
  · simp only [Frm]
    apply Array.toList_inj.1
    simp [valL, V.val, undef, h.val x (fun k => if k = 0 then some Bs else if k = 1 then r else none) (fun _ => none)]
  · simp [belowL, V.below, h.below x]
  rintro a1 w1 ⟨ρ1, t1, H1, hA1, hd1, hρ1, _, rfl, rfl⟩
  have hgl : (Fr.all W fun b => b = Bs ∨ r = some b).f l = some (.loop rec) := by
    simp only [Fr.all]
    rw [if_neg (by simp [hlB, hlr])]; exact hWl
  have hw1 : w1.heap[l]? = some (.loop rec) := hA1.s.frm l _ hgl
  refine ⟨_, run_beginRound hw1 hst, wpIn_block ?_⟩
  have hS2 := hA1.s.outside (by simp [plainH, SO.owned]) (o' := .loop { rec with state := .busy }) hgl
  have hbnd : (pre.length + 1) * by' ≤ 1099511627776 := Nat.le_trans (Nat.mul_le_mul_right _ hlt) hN
  refine vcReg_regionIn (.inr ⟨l, rfl⟩) h3 ?_ ⟨hA1.f, hA1.b, hS2⟩ hd1 (ap_body h hzl x _ _ _ _ _ _ _ _ _ _ _ o c pre.length xs ⟨hlen.1, hlen.2.1⟩ hbnd)
  rintro a3 w3 ⟨ρ3, t3, H3, hA3, hd3, hρ3, _, o', c', xs', rfl, q1, q2, q3⟩
  have hS3 := hA3.s
  have hw3 : w3.heap[l]? = some (.loop { rec with state := .busy }) := hS3.frm l _ (by simp [Fr.at])
  have hfin : ({ ({ rec with state := .busy } : Loop) with state := if (none : Option Code).isNone then LoopState.ready else .done, pending := none } : Loop) = rec := by
    cases rec
    simp only at hst hpe
    subst hst hpe
    rfl
  have hend := run_endRound (P := P) none hw3
  rw [hfin] at hend
  refine ⟨_, _, hend, by simp, ?_⟩
  -- the blocks behind the round
  have e0 : ρ3 0 = some Bs := by rw [hρ3 0 (by simp), hρ1 0 (by simp)]; rfl
  have hB3 : w3.heap[Bs]? = some (.cells #[.slice ((ρ3 4).map fun b => ⟨b, o', none⟩) (pre.length + 1) c'] tS (0, 0)) := by
    obtain ⟨b, b1, b2⟩ := hS3.ent 0 _ rfl
    rw [e0] at b1; cases b1
    simpa [valL, V.val] using b2
  have hne0 : xs' ≠ [] := by
    intro e
    rw [e] at q2
    have h1 : c' * sz = 0 := by simp at q2; omega
    rcases Nat.mul_eq_zero.1 h1 with h1 | h1
    · omega
    · exact h.pos.1 h1
  obtain ⟨rb, fr, er, hr3, hfr⟩ : ∃ rb fr, ρ3 4 = some rb ∧ w3.heap[rb]? = some (.cells xs'.toArray tE fr) ∧ (fr.1 = fr.2 ∨ xs'.length ≤ fr.1) := by
    rcases hS3.ent 4 _ rfl with ⟨_, h2⟩ | ⟨b, fr, h1, h2, h3⟩
    · exact absurd h2 hne0
    · exact ⟨b, fr, h1, h2, h3⟩
  have hrB : rb ≠ Bs := fun e => hS3.dis 4 0 _ _ rb (by decide) rfl rfl rfl (.inl rfl) er (by rw [e0, e])
  have hgr : ((Fr.all W fun b => b = Bs ∨ r = some b).at l (some (.loop { rec with state := .busy }))).f rb = none := hS3.frd 4 _ rb rfl rfl er
  have hrl : rb ≠ l := by
    rintro rfl
    simp [Fr.at] at hgr
  -- what is neither the box, nor the row, nor the record lies as it lay
  have kept : ∀ b ob, W.heap[b]? = some ob → b ≠ Bs → r ≠ some b → b ≠ l → w3.heap[b]? = some ob ∧ b ≠ rb := by
    intro b ob hb k1 k2 k3
    have hf : ((Fr.all W fun b => b = Bs ∨ r = some b).at l (some (.loop { rec with state := .busy }))).f b = some ob := by
      simp only [Fr.at, Fr.all]
      rw [if_neg k3, if_neg (by simp [k1, k2])]; exact hb
    exact ⟨hS3.frm b ob hf, by rintro rfl; rw [hgr] at hf; cases hf⟩
  have hlt3 : l < w3.heap.size := (Array.getElem?_eq_some_iff.1 hw3).1
  let g' : Fr := ⟨fun b => if b = l then some (.loop rec) else if b = Bs then w3.heap[Bs]? else if b = rb then w3.heap[rb]? else if r = some b then none else gf.f b, gf.os, gf.tape, gf.out, gf.dr⟩
  have hfar : ∀ b ob, gf.f b = some ob → r ≠ some b → b ≠ Bs → b ≠ l → g'.f b = some ob := by
    intro b ob hb k1 k2 k3
    have := (kept b ob (hC.2 b ob hb) k2 k1 k3).2
    simp only [g']
    rw [if_neg k3, if_neg k2, if_neg this, if_neg k1]; exact hb
  have hrg0 : ∀ b, r = some b → g0.f b = none := by
    intro b hb
    rcases hrow with ⟨e, _⟩ | ⟨b', fr', e, _, _, _, e5⟩
    · rw [e] at hb; cases hb
    · rw [e] at hb; cases hb; exact e5
  have hDne : r ≠ some D ∧ D ≠ Bs ∧ D ≠ l := by
    refine ⟨?_, ?_, ?_⟩
    · intro e
      rcases hrow with ⟨e', _⟩ | ⟨b', fr', e', e2, _⟩
      · rw [e'] at e; cases e
      · rw [e'] at e; cases e
        have := hJ.dd; rw [e2] at this; cases this
    · rintro rfl
      have := hJ.dd; rw [hBs] at this; cases this
    · rintro rfl
      have := hJ.dd; rw [hJ.lrec] at this; cases this
  refine ⟨g', ⟨hJ.env, ?_, by simp [g'], hfar D _ hJ.dd hDne.1 hDne.2.1 hDne.2.2, hJ.own, some rb, o', c', xs', ?_, ?_, .inr ⟨rb, fr, rfl, ?_, hfr, hrB, ?_⟩⟩, ⟨?_, ?_⟩, ?_⟩
  · intro b ob hb
    have hgb := hJ.keep b ob hb
    refine hfar b ob hgb ?_ ?_ ?_
    · intro e; have := hrg0 b e; rw [hb] at this; cases this
    · rintro rfl; have := hJ.own.1; rw [hb] at this; cases this
    · rintro rfl; have := hJ.own.2.1; rw [hb] at this; cases this
  · simp only [g']
    rw [if_neg (Ne.symm hlB)]
    simp only [if_true, hB3, er, List.length_append, List.length_cons, List.length_nil]
  · refine ⟨by simpa using q1, q2, ?_⟩
    simp only [List.length_append, List.length_cons, List.length_nil, List.flatMap_append, List.flatMap_cons, List.flatMap_nil, List.append_nil]
    rw [q3, hlen.2.2]
  · simp only [g']
    rw [if_neg hrl, if_neg hrB]
    simp [hr3]
  · cases hg : g0.f rb with
    | none => rfl
    | some ob =>
      exfalso
      have hgb := hJ.keep rb ob hg
      have hnr : r ≠ some rb := fun e => by have := hrg0 rb e; rw [hg] at this; cases this
      exact (kept rb ob (hC.2 rb ob hgb) hrB hnr hrl).2 rfl
  · have he := hS3.env
    refine ⟨?_, ?_, ?_, ?_⟩
    · exact he.1.trans hC.1.1
    · exact he.2.1.trans hC.1.2.1
    · exact he.2.2.1.trans hC.1.2.2.1
    · exact Nat.le_trans hC.1.2.2.2 he.2.2.2
  · intro b ob hb
    simp only [g'] at hb
    by_cases k3 : b = l
    · subst k3
      simp at hb; subst hb
      exact World.putObj_heap_same hlt3
    · rw [World.putObj_heap_other k3]
      rw [if_neg k3] at hb
      by_cases k1 : b = Bs
      · subst k1; simpa using hb
      · rw [if_neg k1] at hb
        by_cases k4 : b = rb
        · subst k4; simpa using hb
        · rw [if_neg k4] at hb
          by_cases k2 : r = some b
          · rw [if_pos k2] at hb; cases hb
          · rw [if_neg k2] at hb
            exact (kept b ob (hC.2 b ob hb) k1 k2 k3).1
  · intro b ob hb hgb
    have k1 : b ≠ Bs := by rintro rfl; rw [hgb] at hBs; cases hBs
    have k3 : b ≠ l := by
      rintro rfl
      have := hJ.lrec; rw [hgb] at this; cases this
    have k2 : r ≠ some b := by
      intro e
      rcases hrow with ⟨e', _⟩ | ⟨b', fr', e', e2, _⟩
      · rw [e'] at e; cases e
      · rw [e'] at e; cases e
        rw [hgb] at e2; cases e2
    obtain ⟨m1, m2⟩ := kept b ob hb k1 k2 k3
    refine ⟨by rw [World.putObj_heap_other k3]; exact m1, ?_⟩
    simp only [g']
    rw [if_neg k3, if_neg k1, if_neg m2, if_neg k2]; exact hgb
end
end Go.V

namespace Go.V
open Go

section
variable {P : Program} {ρ : Rho} {H : List SO} {g : Fr} {w : World}

/-- A new block, for the frame. -/
theorem St.allocFrame (h : St ρ H g w) (o : Obj) : St ρ H (g.at w.heap.size (some o)) (w.alloc o) := by
  have hold : ∀ (b : Nat) (o' : Obj), w.heap[b]? = some o' → (w.alloc o).heap[b]? = some o' := by
    intro b o' hb
    have hlt := (Array.getElem?_eq_some_iff.1 hb).1
    show (w.heap.push o)[b]? = some o'
    rw [Array.getElem?_push_lt hlt]; simpa [hlt] using hb
  constructor
  · intro k s hk
    refine entryOK_congr (n := H.length) (List.getElem?_eq_some_iff.1 hk).1 (h.ent k s hk) (fun _ _ => rfl) ?_ ?_ (fun b o' _ hb _ _ => hold b o' hb)
    · rintro l e rfl; exact h.scp k l e hk
    · rintro m s' seen st rfl; exact h.sci k m s' seen st hk
  · exact h.dis
  · exact h.gho
  · exact h.env
  · intro b o' hb
    simp only [Fr.at] at hb
    split at hb
    · rename_i e; subst e; cases hb; exact World.alloc_heap_new w _
    · exact hold b o' (h.frm b o' hb)
  · intro i si b hi ho hb
    have hlt := entryOK_lt (h.ent i si hi) (.inl ho) hb
    simp only [Fr.at]
    rw [if_neg (by omega)]
    exact h.frd i si b hi ho hb
  · exact h.scp
  · exact h.sci

/-- Another frame that the heap meets. -/
theorem St.cov (h : St ρ H g w) {g' : Fr} (hc : Cov w g') (h2 : ∀ (i : Nat) si b, H[i]? = some si → si.owned = true → ρ i = some b → g'.f b = none) : St ρ H g' w := h.other hc.1 hc.2 h2

theorem St.isCov (h : St ρ H g w) : Cov w g := ⟨h.env, h.frm⟩

variable {α : Type} {tS tE : TypeId} {n : Option Nat} {sz by' : Nat} {zs zsl : List Value} {sv : α → SV} {cells : α → List Value}

/-- Behind the rounds: the iterator's blocks, the box, the row. -/
theorem ap_join (hp : plainH H = true) {g0 : Fr} {Bs D l : Nat} {rec : Loop} {xs : List α} {gf : Fr} {W : World} (hS : St ρ H gf W) (hJ : ApJ tS tE sz cells g0 Bs D l rec xs gf) :
    ∃ (r : Option Nat) (o c : Nat) (ys : List Value), (xs.length ≤ c ∧ o + c * sz ≤ ys.length ∧ (ys.drop o).take (xs.length * sz) = xs.flatMap cells) ∧
      St (upd (upd ρ H.length (some Bs)) (H.length + 1) r) (H ++ [.cells [.sl (H.length + 1) o xs.length c] tS, .arr ys tE]) g0 W := by
  obtain ⟨r, o, c, ys, hBs, hlen, hrow⟩ := hJ.row
  refine ⟨r, o, c, ys, hlen, ?_⟩
  have hcov := hS.isCov
  have hρ : ∀ k, k < H.length → upd (upd ρ H.length (some Bs)) (H.length + 1) r k = ρ k := by
    intro k hk
    rw [upd_lt _ _ (by omega), upd_lt _ _ hk]
  have e0 : upd (upd ρ H.length (some Bs)) (H.length + 1) r H.length = some Bs := by rw [upd_lt _ _ (by omega), upd_same]
  have e1 : upd (upd ρ H.length (some Bs)) (H.length + 1) r (H.length + 1) = r := upd_same _ _ _
  have hget : ∀ (i : Nat) s, (H ++ [SO.cells [.sl (H.length + 1) o xs.length c] tS, .arr ys tE])[i]? = some s → (i < H.length ∧ H[i]? = some s) ∨ (i = H.length ∧ s = .cells [.sl (H.length + 1) o xs.length c] tS) ∨ (i = H.length + 1 ∧ s = .arr ys tE) := by
    intro i s hi
    by_cases h1 : i < H.length
    · rw [List.getElem?_append_left h1] at hi; exact .inl ⟨h1, hi⟩
    · rw [List.getElem?_append_right (by omega)] at hi
      match hj : i - H.length with
      | 0 => rw [hj] at hi; simp at hi; exact .inr (.inl ⟨by omega, hi.symm⟩)
      | 1 => rw [hj] at hi; simp at hi; exact .inr (.inr ⟨by omega, hi.symm⟩)
      | j + 2 => rw [hj] at hi; simp at hi
  have hrB : ∀ b, r = some b → b ≠ Bs ∧ gf.f b ≠ none ∧ g0.f b = none := by
    intro b hb
    rcases hrow with ⟨e, _⟩ | ⟨b', fr, e, e2, _, e4, e5⟩
    · rw [e] at hb; cases hb
    · rw [e] at hb; cases hb; exact ⟨e4, by rw [e2]; simp, e5⟩
  have hBn : gf.f Bs ≠ none := by rw [hBs]; simp
  -- blocks of H are in neither frame
  have hHo : ∀ (i : Nat) s b, H[i]? = some s → s.owned = true → ρ i = some b → b ≠ Bs ∧ r ≠ some b ∧ g0.f b = none := by
    intro i s b hi ho hb
    have hn := hS.frd i s b hi ho hb
    refine ⟨by rintro rfl; exact hBn hn, fun e => (hrB b e).2.1 hn, ?_⟩
    cases hg : g0.f b with
    | none => rfl
    | some ob => rw [hJ.keep b ob hg] at hn; cases hn
  have own : ∀ {s : SO} {i : Nat}, H[i]? = some s → (s.owned = true ∨ s.isRo = true) → s.owned = true := by
    intro s i hi ho
    rcases plainH_spec hp i s hi with h1 | h1
    · exact h1
    · subst h1; simp [SO.owned, SO.isRo] at ho
  constructor
  · intro i s hi
    rcases hget i s hi with ⟨h1, h2⟩ | ⟨rfl, rfl⟩ | ⟨rfl, rfl⟩
    · refine entryOK_congr h1 (hS.ent i s h2) hρ ?_ ?_ (fun b o' _ hb _ _ => hb)
      · rintro l e rfl; exact hS.scp i l e h2
      · rintro m s' seen st rfl; exact hS.sci i m s' seen st h2
    · refine ⟨Bs, e0, ?_⟩
      have := hcov.2 Bs _ hBs
      simpa [valL, val, e1] using this
    · rcases hrow with ⟨e, e2⟩ | ⟨b', fr, e, e2, e3, _, _⟩
      · exact .inl ⟨by rw [e1, e], e2⟩
      · exact .inr ⟨b', fr, by rw [e1, e], hcov.2 _ _ e2, e3⟩
  · intro i j si sj b hij hi hj ho hoj hb
    rcases hget i si hi with ⟨h1, h2⟩ | ⟨rfl, rfl⟩ | ⟨rfl, rfl⟩ <;> rcases hget j sj hj with ⟨h3, h4⟩ | ⟨rfl, rfl⟩ | ⟨rfl, rfl⟩
    · rw [hρ i h1] at hb; rw [hρ j h3]; exact hS.dis i j si sj b hij h2 h4 ho hoj hb
    · rw [hρ i h1] at hb; rw [e0]
      exact fun e => (hHo i si b h2 ho hb).1 (Option.some.inj e).symm
    · rw [hρ i h1] at hb; rw [e1]
      exact (hHo i si b h2 ho hb).2.1
    · rw [e0] at hb; cases hb; rw [hρ j h3]
      exact fun e => (hHo j sj Bs h4 (own h4 hoj) e).1 rfl
    · exact absurd rfl hij
    · rw [e0] at hb; cases hb; rw [e1]
      exact fun e => (hrB Bs e).1 rfl
    · rw [e1] at hb; rw [hρ j h3]
      exact fun e => (hHo j sj b h4 (own h4 hoj) e).2.1 hb
    · rw [e1] at hb; rw [e0]
      exact fun e => (hrB b hb).1 (Option.some.inj e).symm
    · exact absurd rfl hij
  · intro i j si gh b _ _ hj
    rcases hget j _ hj with ⟨_, h4⟩ | ⟨_, h4⟩ | ⟨_, h4⟩
    · rcases plainH_spec hp j _ h4 with h5 | h5
      · cases h5
      · cases h5
    · cases h4
    · cases h4
  · exact ⟨hcov.1.1.trans hJ.env.1, hcov.1.2.1.trans hJ.env.2.1, hcov.1.2.2.1.trans hJ.env.2.2.1, hJ.env.2.2.2 ▸ hcov.1.2.2.2⟩
  · intro b ob hb; exact hcov.2 b ob (hJ.keep b ob hb)
  · intro i si b hi ho hb
    rcases hget i si hi with ⟨h1, h2⟩ | ⟨rfl, rfl⟩ | ⟨rfl, rfl⟩
    · rw [hρ i h1] at hb; exact (hHo i si b h2 ho hb).2.2
    · rw [e0] at hb; cases hb; exact hJ.own.1
    · rw [e1] at hb; exact (hrB b hb).2.2
  · intro i l e hi
    rcases hget i _ hi with ⟨h1, h2⟩ | ⟨_, h2⟩ | ⟨_, h2⟩
    · exact belowL_mono (by simp) l (hS.scp i l e h2)
    · cases h2; simp [belowL, below]
    · cases h2
  · intro i m s seen st hi
    rcases hget i _ hi with ⟨h1, h2⟩ | ⟨_, h2⟩ | ⟨_, h2⟩
    · have := hS.sci i m s seen st h2; simp; omega
    · cases h2
    · cases h2
end
end Go.V

namespace Go.V
open Go

section
variable {P : Program} {ρ : Rho} {H : List SO} {g : Fr} {w : World}

/-- The last entry goes over to the frame. -/
theorem St.toFrame {ρ1 : Rho} {l : List SV} {tS : TypeId} {W : World} (h0 : St ρ H g w) (h : St ρ1 (H ++ [.cells l tS]) g W) (hρ : ∀ k, k < H.length → ρ1 k = ρ k) {Bs : Nat} (hB : ρ1 H.length = some Bs) {o : Obj} (ho : W.heap[Bs]? = some o) :
    St ρ H (g.at Bs (some o)) W := by
  have hget : ∀ (i : Nat) s, H[i]? = some s → (H ++ [SO.cells l tS])[i]? = some s := fun i s hi => by
    rw [List.getElem?_append_left (List.getElem?_eq_some_iff.1 hi).1]; exact hi
  have hlast : (H ++ [SO.cells l tS])[H.length]? = some (.cells l tS) := by rw [List.getElem?_append_right (Nat.le_refl _)]; simp
  have hlt : ∀ {i : Nat} {s : SO}, H[i]? = some s → i < H.length := fun hi => (List.getElem?_eq_some_iff.1 hi).1
  constructor
  · intro k s hk
    refine entryOK_congr (ρ := ρ1) (hlt hk) (h.ent k s (hget k s hk)) (fun j hj => (hρ j hj).symm) ?_ ?_ (fun b o' _ hb _ _ => hb)
    · rintro l e rfl; exact h0.scp k l e hk
    · rintro m s' seen st rfl; exact h0.sci k m s' seen st hk
  · intro i j si sj b hij hi hj ho hoj hb
    rw [← hρ i (hlt hi)] at hb
    rw [← hρ j (hlt hj)]
    exact h.dis i j si sj b hij (hget i si hi) (hget j sj hj) ho hoj hb
  · intro i j si gh b hi ho hj hb
    rw [← hρ i (hlt hi)] at hb
    exact h.gho i j si gh b (hget i si hi) ho (hget j _ hj) hb
  · exact h.env
  · intro b ob hb
    simp only [Fr.at] at hb
    split at hb
    · rename_i e; subst e; cases hb; exact ho
    · exact h.frm b ob hb
  · intro i si b hi hos hb
    simp only [Fr.at]
    rw [← hρ i (hlt hi)] at hb
    split
    · rename_i e; subst e
      exact absurd hB (h.dis i H.length si _ b (by have := hlt hi; omega) (hget i si hi) hlast hos (.inl rfl) hb)
    · exact h.frd i si b (hget i si hi) hos hb
  · exact h0.scp
  · exact h0.sci

variable {α : Type} {tS tE : TypeId} {n : Option Nat} {sz by' : Nat} {zs zsl : List Value} {sv : α → SV} {cells : α → List Value}

theorem ApJ.turn {g0 gf : Fr} {Bs D l : Nat} {rec : Loop} {xs : List α} (h : ApJ tS tE sz cells g0 Bs D l rec xs gf) (rec' : Loop) : ApJ tS tE sz cells g0 Bs D l rec' xs (gf.at l (some (.loop rec'))) := by
  obtain ⟨r, o, c, ys, hBs, hlen, hrow⟩ := h.row
  have hlB : Bs ≠ l := by
    rintro rfl
    have := h.lrec; rw [hBs] at this; cases this
  have hlD : D ≠ l := by
    rintro rfl
    have := h.lrec; rw [h.dd] at this; cases this
  refine ⟨h.env, ?_, by simp [Fr.at], ?_, h.own, r, o, c, ys, ?_, hlen, ?_⟩
  · intro b ob hb
    simp only [Fr.at]
    rw [if_neg (by rintro rfl; rw [h.own.2.1] at hb; cases hb)]; exact h.keep b ob hb
  · simp only [Fr.at]; rw [if_neg hlD]; exact h.dd
  · simp only [Fr.at]; rw [if_neg hlB]; exact hBs
  · rcases hrow with h1 | ⟨b, fr, e1, e2, e3⟩
    · exact .inl h1
    · refine .inr ⟨b, fr, e1, ?_, e3⟩
      simp only [Fr.at]
      rw [if_neg (by rintro rfl; rw [h.lrec] at e2; cases e2)]; exact e2

theorem owned_not_deferred {i b : Nat} {so : SO} {ds : Option (List Deferred)} (h : entryOK ρ w i so) (ho : so.owned = true) (hr : ρ i = some b) (hb : w.heap[b]? = some (.deferred ds)) : False := by
  cases so <;> simp only [entryOK, SO.owned] at h ho
  case cells l e => obtain ⟨b', h1, h2⟩ := h; rw [hr] at h1; cases h1; rw [hb] at h2; cases h2
  case arr xs e =>
    rcases h with ⟨h1, _⟩ | ⟨b', fr, h1, h2, _⟩
    · rw [hr] at h1; cases h1
    · rw [hr] at h1; cases h1; rw [hb] at h2; cases h2
  case map es c => obtain ⟨b', h1, h2⟩ := h; rw [hr] at h1; cases h1; rw [hb] at h2; cases h2
  case iter m s seen st => obtain ⟨b', h1, h2⟩ := h; rw [hr] at h1; cases h1; rw [hb] at h2; cases h2
  case siter s p => obtain ⟨b', h1, h2⟩ := h; rw [hr] at h1; cases h1; rw [hb] at h2; cases h2
  all_goals cases ho

/-- Function f is slices.AppendSeq at these types. -/
def IsAp (P : Program) (f : FuncId) (tS tE : TypeId) (n : Option Nat) (sz by' : Nat) (zs zsl : List Value) : Prop :=
  ∃ (fn : Func) (i0 i1 i2 i3 i4 b0 b1 : Nat) (ops0 ops1 ops2 ops3 ops4 : Array Oper), P.funcs[f]? = some fn ∧
    fn.body = some (.seq (.region i0 ops0 false) (.seq (.seq (.region i1 ops1 false) (.block b0 (.rangeFunc (.tmp 6) #[7] (.region i2 ops2 false) (.block b1 (.region i3 ops3 false))))) (.seq (.region i4 ops4 false) .ret))) ∧
    ops0.toList.mapM (cIns P ops0) = some [⟨some 2, none, .box tS (.t 0)⟩, ⟨some 4, none, .mov (.c (.raw (.slice none 0 0)))⟩] ∧
    ops1.toList.mapM (cIns P ops1) = some [⟨some 6, none, .mov (.t 1)⟩] ∧
    ops2.toList.mapM (cIns P ops2) = some (apL2 tE n zs) ∧ ops3.toList.mapM (cIns P ops3) = some (apL3 tE n sz by' zs zsl) ∧
    ops4.toList.mapM (cIns P ops4) = some [⟨some 12, none, .load none (.t 2)⟩, ⟨some 4, none, .mov (.t 12)⟩] ∧ fn.ntmps = 13 ∧ fn.results = #[.tmp 4]
end
end Go.V

namespace Go.V
open Go

section
variable {P : Program} {α : Type} {tS tE : TypeId} {n : Option Nat} {sz by' : Nat} {zs zsl : List Value} {sv : α → SV} {cells : α → List Value}

theorem ap_ctr {f gq : FuncId} {caps : List SV} {H : List SO} {S : List α → Prop} {N : Nat} (h : Elem P tE n sz by' zs sv cells) (hzl : zsl.length = sz) (hap : IsAp P f tS tE n sz by' zs zsl)
    (hg : Gives P gq caps H (fun x => V.val (fun _ => none) (sv x)) S N) (he : enters P gq = true) (hN : N * by' ≤ 1099511627776) (hp : plainH H = true) :
    Ctr P f [.raw (.slice none 0 0), .fn gq caps] H (fun x H' => ∃ order o c ys, S order ∧ x = .sl (H.length + 1) o order.length c ∧ H' = H ++ [.gone, .arr ys tE] ∧
      order.length ≤ c ∧ o + c * sz ≤ ys.length ∧ (ys.drop o).take (order.length * sz) = order.flatMap cells) := by
  obtain ⟨fn, i0, i1, i2, i3, i4, b0, b1, ops0, ops1, ops2, ops3, ops4, hf, hbody, c0, c1, c2, c3, c4, hnt, hres⟩ := hap
  intro ρ g w hS hb
  have hbc : belowL H.length caps = true := by simpa [belowL, below] using hb
  refine (callsIn_wide (n := 0)).1 (callsIn_of_wp_marks (F := Fence.wide) (n := 0) hf hbody trivial ?_ rfl)
  have hA : At P ρ H g w [.raw (.slice none 0 0), .fn gq caps, un, un, un, un, un, un, un, un, un, un, un]
      { tmps := (valL ρ [.raw (.slice none 0 0), .fn gq caps]).toArray ++ Array.replicate (fn.ntmps - (valL ρ [.raw (.slice none 0 0), .fn gq caps]).toArray.size) undef, defers := [] } := by
    refine ⟨?_, by simp [belowL, below, hbc], hS⟩
    simp only [Frm, hnt]
    apply Array.toList_inj.1
    simp [valL, val, undef, List.replicate]
  refine wpIn_seq (vcReg_regionIn (.inl rfl) c0 (Q' := fun t' H' => t' = [.raw (.slice none 0 0), .fn gq caps, .ptr H.length 0, un, .raw (.slice none 0 0), un, un, un, un, un, un, un, un] ∧ H' = H ++ [.cells [.raw (.slice none 0 0)] tS]) ?_ hA rfl ?_)
  rotate_left 1
  · simp [vcReg, vcIns, vcOp, evK, getK, putK_eq, put, newHK_eq, one]
  rintro a1 w1 ⟨ρ1, t1, H1, hA1, hd1, hρ1, _, rfl, rfl⟩
  refine wpIn_seq (wpIn_seq (vcReg_regionIn (.inl rfl) c1 (Q' := fun t' H' => t' = [.raw (.slice none 0 0), .fn gq caps, .ptr H.length 0, un, .raw (.slice none 0 0), un, .fn gq caps, un, un, un, un, un, un] ∧ H' = H ++ [.cells [.raw (.slice none 0 0)] tS]) ?_ hA1 hd1 ?_))
  rotate_left 1
  · simp [vcReg, vcIns, vcOp, evK, getK, putK_eq, put]
  rintro a2 w2 ⟨ρ2, t2, H2, hA2, hd2, hρ2, _, rfl, rfl⟩
  have hρ : ∀ k, k < H.length → ρ2 k = ρ k := fun k hk => (hρ2 k (by simp; omega)).trans (hρ1 k hk)
  refine wpIn_block (wpIn_rangeFunc ?_)
  intro fn' _
  obtain ⟨Bs, hBρ, hBh⟩ := hA2.s.ent H.length (.cells [.raw (.slice none 0 0)] tS) (by simp)
  have hBh' : w2.heap[Bs]? = some (.cells #[.slice none 0 0] tS (0, 0)) := by simpa [valL, val] using hBh
  have hBlt : Bs < w2.heap.size := (Array.getElem?_eq_some_iff.1 hBh').1
  let D := w2.heap.size
  let l := w2.heap.size + 1
  let rec' : Loop := { state := .ready, pending := none, fn := fn', tmps := a2.tmps, params := #[7], assign := .region i2 ops2 false, body := .block b1 (.region i3 ops3 false), defers := D }
  let capsV := (valL ρ2 caps).toArray
  have hcaps : valL ρ2 caps = valL ρ caps := valL_congr hρ caps hbc
  have hev : a2.eval (.tmp 6) = .func (.func gq) #[] capsV := by
    rw [hA2.eq (y := .t 6) rfl]; simp [ev, val, capsV]
  -- the state that the iterator sees
  have s1 : St ρ H (g.at Bs (some (.cells #[.slice none 0 0] tS (0, 0)))) w2 := hS.toFrame hA2.s hρ hBρ hBh'
  have s2 := s1.allocFrame (.deferred (some []))
  have s3 := s2.allocFrame (.loop rec')
  have hsz : (w2.alloc (.deferred (some []))).heap.size = l := by simp [l]
  rw [hsz] at s3
  have hDl : D ≠ l := by simp [D, l]
  have hBD : Bs ≠ D := by simp only [D]; omega
  have hBl : Bs ≠ l := by simp only [l]; omega
  have hgB : g.f Bs = none := hA2.s.frd H.length (.cells [.raw (.slice none 0 0)] tS) Bs (by simp) rfl hBρ
  have hgN : ∀ b, w2.heap.size ≤ b → g.f b = none := by
    intro b hb
    cases hx : g.f b with
    | none => rfl
    | some o =>
      have := (Array.getElem?_eq_some_iff.1 (hA2.s.frm b o hx)).1
      omega
  have hJ0 : ApJ tS tE sz cells g Bs D l rec' ([] : List α) (((g.at Bs (some (.cells #[.slice none 0 0] tS (0, 0)))).at D (some (.deferred (some [])))).at l (some (.loop rec'))) := by
    refine ⟨⟨rfl, rfl, rfl, rfl⟩, ?_, by simp [Fr.at], by simp [Fr.at, hDl], ⟨hgB, hgN l (by simp [l]), hgN D (by simp [D])⟩, none, 0, 0, [], ?_, by simp, .inl ⟨rfl, rfl⟩⟩
    · intro b o hb
      have k1 : b ≠ Bs := by rintro rfl; rw [hgB] at hb; cases hb
      have k2 : b ≠ D := by rintro rfl; rw [hgN D (by simp [D])] at hb; cases hb
      have k3 : b ≠ l := by rintro rfl; rw [hgN l (by simp [l])] at hb; cases hb
      simp only [Fr.at]
      rw [if_neg k3, if_neg k2, if_neg k1]; exact hb
    · simp only [Fr.at]
      rw [if_neg hBl, if_neg hBD]; simp
  have htm : a2.tmps = #[.slice none 0 0, .func (.func gq) #[] capsV, .pointer (some ⟨Bs, 0, none⟩), undef, .slice none 0 0, undef, .func (.func gq) #[] capsV, undef, undef, undef, undef, undef, undef] := by
    rw [hA2.f]
    simp [valL, val, undef, hBρ, capsV]
  have hround := ap_round (tS := tS) (Bs := Bs) (g0 := g) (D := D) (l := l) (rec := rec') h hzl c2 c3 rfl rfl rfl rfl rfl htm hN
  refine ⟨l, [{ target := .collected D, args := #[] }], (w2.alloc (.deferred (some []))).alloc (.loop rec'), { target := .fn (.func gq) capsV, args := #[.func (.yield l) #[] #[]] }, (w2.alloc (.deferred (some []))).alloc (.loop rec'), gq, #[.func (.yield l) #[] #[]] ++ capsV, (w2.alloc (.deferred (some []))).alloc (.loop rec'),
    run_enterLoop_outer fn' a2.tmps #[7] (.region i2 ops2 false) (.block b1 (.region i3 ops3 false)), ?_, fun _ _ => trivial, ?_, (fun hh => (by cases hh)), ?_⟩
  · have ha : (#[Operand.const (.func (.yield l) #[] #[])] : Array Operand).map a2.eval = #[.func (.yield l) #[] #[]] := by simp [Act.eval]
    simp only [resolve, hev, ha, Deferred.ofValue, Sem.run_pure]
    simp
  · simp only [invoke]; exact run_enters he _
  refine callsIn_wide.2 ?_
  have hcall := hg l _ ρ _ _ s3 hbc hJ0 hround
  rw [show (#[.func (.yield l) #[] #[]] ++ capsV : Array Value) = #[.func (.yield l) #[] #[]] ++ (valL ρ caps).toArray by simp only [capsV, hcaps]]
  refine Calls.mono hcall ?_
  rintro e w3 ⟨⟨v, rfl⟩, order, gf, hSo, hJ3, hS3⟩
  have hcov3 := hS3.isCov
  have hl3 : w3.heap[l]? = some (.loop rec') := hcov3.2 _ _ hJ3.lrec
  have hend := run_endLoop (P := P) hl3 (by simp [rec'])
  refine ⟨_, _, hend, ?_⟩
  -- behind the loop
  have hS4 := hS3.outside hp (o' := .loop { rec' with state := .exhausted }) hJ3.lrec
  have hJ4 := hJ3.turn { rec' with state := .exhausted }
  have hD4 := hS4.isCov.2 D _ hJ4.dd
  obtain ⟨r, o, c, ys, hlen, hS5⟩ := ap_join hp hS4 hJ4
  have hS6 : St _ _ (g.at D (some (.deferred (some [])))) _ := hS5.cov (g' := g.at D (some (.deferred (some [])))) ⟨hS5.env, fun b ob hb => by
    simp only [Fr.at] at hb
    split at hb
    · rename_i e; subst e; cases hb; exact hD4
    · exact hS5.frm b ob hb⟩ (fun i si b hi ho hb => by
      simp only [Fr.at]
      split
      · rename_i e; subst e; exact (owned_not_deferred (hS5.ent i si hi) ho hb hD4).elim
      · exact hS5.frd i si b hi ho hb)
  have e0 : upd (upd ρ H.length (some Bs)) (H.length + 1) r H.length = some Bs := by rw [upd_lt _ _ (by omega), upd_same]
  have hA5 : At P (upd (upd ρ H.length (some Bs)) (H.length + 1) r) (H ++ [.cells [.sl (H.length + 1) o order.length c] tS, .arr ys tE]) (g.at D (some (.deferred (some [])))) (w3.putObj l (.loop { rec' with state := .exhausted }))
      [.raw (.slice none 0 0), .fn gq caps, .ptr H.length 0, un, .raw (.slice none 0 0), un, .fn gq caps, un, un, un, un, un, un] { a2 with defers := [{ target := .collected D, args := #[] }] ++ a2.defers } := by
    refine ⟨?_, ?_, hS6⟩
    · simp only [Frm, htm]
      have hc5 : valL (upd (upd ρ H.length (some Bs)) (H.length + 1) r) caps = valL ρ caps := valL_congr (fun k hk => by rw [upd_lt _ _ (by omega), upd_lt _ _ hk]) caps hbc
      apply Array.toList_inj.1
      simp [valL, val, undef, e0, capsV, hcaps, hc5]
    · have := belowL_mono (show H.length ≤ (H ++ [SO.cells [.sl (H.length + 1) o order.length c] tS, .arr ys tE]).length by simp) caps hbc
      simp [belowL, below] at this ⊢
      exact this
  refine wpIn_seq (vcReg_regionIn (.inl rfl) c4 (Q' := fun t' H' => t' = [.raw (.slice none 0 0), .fn gq caps, .ptr H.length 0, un, .sl (H.length + 1) o order.length c, un, .fn gq caps, un, un, un, un, un, .sl (H.length + 1) o order.length c] ∧ H' = H ++ [.cells [.sl (H.length + 1) o order.length c] tS, .arr ys tE]) ?_ hA5 rfl ?_)
  rotate_left 1
  · have ho : obj (H ++ [SO.cells [.sl (H.length + 1) o order.length c] tS, .arr ys tE]) H.length = .cells [.sl (H.length + 1) o order.length c] tS := by simp [obj]
    simp [vcReg, vcIns, vcOp, evK, getK, putK_eq, put, vcLoad, objK_eq, ho]
  rintro a6 w6 ⟨ρ6, t6, H6, hA6, hd6, hρ6, _, rfl, rfl⟩
  refine wpIn_ret ?_
  have hD6 : w6.heap[D]? = some (.deferred (some [])) := hA6.s.frm D _ (by simp [Fr.at])
  show LeavesInM Fence.wide 0 P fn a6.tmps _ a6.defers .returning w6
  rw [hd6, hd2]
  refine ⟨by simp, .inl ⟨D, _, rfl, run_takeDeferred hD6, ?_⟩⟩
  have hres6 : (results fn a6.tmps).run P (w6.putObj D (.deferred none)) = .ok (val ρ6 (.sl (H.length + 1) o order.length c)) (w6.putObj D (.deferred none)) := by
    have ht6 : a6.tmps.getD 4 undef = val ρ6 (.sl (H.length + 1) o order.length c) := by
      rw [hA6.f]; exact val_getD ρ6 _ 4
    unfold results
    rw [hres, Array.mapM_eq_mapM_toList]
    simp only [List.mapM_cons, List.mapM_nil, Sem.run_bind, Sem.run_map, Sem.run_pure, Result.andThen_ok, ht6]
    simp
  show LeavesIn Fence.wide 0 P fn a6.tmps _ [] .returning _
  refine ⟨_, hres6, ρ6, _, H ++ [.gone, .arr ys tE], rfl, ?_, ?_, by simp, by simp [below], order, o, c, ys, hSo, rfl, rfl, hlen.1, hlen.2.1, hlen.2.2⟩
  · have hS7 := hA6.s.outside (o' := .deferred none) (l := D) (o := .deferred (some [])) ?_ (by simp [Fr.at])
    · have hS8 := hS7.cov (g' := g) ⟨hS7.env, fun b ob hb => hS7.frm b ob (by
        simp only [Fr.at]
        have k2 : b ≠ D := by rintro rfl; rw [hgN D (by simp [D])] at hb; cases hb
        rw [if_neg k2, if_neg k2]; exact hb)⟩ (fun i si b hi ho hb => by
          have := hS7.frd i si b hi ho hb
          simp only [Fr.at] at this
          split at this
          · cases this
          · exact this)
      have := hS8.giveUp H.length
      simpa using this
    · have : ∀ (H : List SO), plainH H = true → ∀ l, plainH l = true → plainH (H ++ l) = true := by
        intro H
        induction H with
        | nil => intro _ l hl; exact hl
        | cons s H ih =>
          intro hs l hl
          cases s <;> simp [plainH, SO.owned] at hs ⊢ <;> exact ih hs l hl
      exact this H hp _ (by simp [plainH, SO.owned])
  · intro k hk
    rw [hρ6 k (by simp; omega), upd_lt _ _ (by omega), upd_lt _ _ hk]
end
end Go.V

namespace Go.V
open Go

section
variable {P : Program} {ρ : Rho} {H : List SO} {g : Fr} {w : World} {t : List SV} {a : Act} {ops : Array Oper} {Q : Exit → Act → World → Prop}

theorem callv_inv {o : Oper} {y : Opd} {l : List Opd} (hc : cOp P o = some (.callv y l)) : ∃ x args ats, o.op = .call { callee := .value x, args := args, argTypes := ats } ∧ cOpd x = some y ∧ cOpds args = some l := by
  unfold cOp at hc
  split at hc
  case h_32 x args ats _ ho =>
    simp only [Option.bind_eq_bind, Option.bind_eq_some_iff, Option.pure_def, Option.some.injEq, VOp.callv.injEq] at hc
    obtain ⟨y', hx, l', hl, rfl, rfl⟩ := hc
    exact ⟨x, args, ats, ho, hx, hl⟩
  all_goals
    exfalso
    revert hc
    repeat' split
    all_goals simp [Option.bind_eq_some_iff]

/-- One operation of a region, in the In-calculus. -/
theorem ins_in {F : Fence} (hF : F = Fence.wide ∨ ∃ l, F = Fence.wide.inRound l) {n : Nat} {dd : List Deferred} {i : Nat} {rest : List Nat} {o : Oper} {x : VIns} (ho : ops[i]? = some o) (hc : cIns P ops o = some x) {K : List SV → List SO → Prop}
    (h : At P ρ H g w t a) (hd : a.defers = dd) (hv : vcIns P x t H K) (hr : ∀ a' w', NxtD dd P ρ H g K a' w' → wpOpsIn F n P ops Q rest a' w') : wpOpsIn F n P ops Q (i :: rest) a w := by
  obtain ⟨t', h', hcase⟩ := vcIns_cases hc h hv
  simp only [wpOpsIn, ho]
  rcases hcase with ⟨hw, hop, _⟩ | ⟨hw, hk⟩
  · rw [if_pos hw]
    have hco := (cIns_spec hc).1
    have := wpIn_of_good (Q := Q) hF (n := n) (K := K) h' hd (not_defer hco) (vcOp_sound h' hco hop).1
    obtain ⟨u1, u2⟩ := this
    refine ⟨u1, ?_⟩
    generalize (o.semAt F.round a.eval).run P w = r at *
    cases r with
    | halt x w' => cases x <;> exact u2
    | ok m w' =>
      cases m <;> simp only [Oper.uponIn] at u2 ⊢
      case value v => exact hr _ _ u2
      case skip => exact hr _ _ u2
      case defer d => exact hr _ _ u2
      case enter f args => exact ⟨u2.1, CallsIn.mono u2.2 fun e w'' he => by cases e <;> first | exact hr _ _ he | exact he⟩
      case row row args => exact ⟨u2.1, RowsIn.mono u2.2 fun _ _ he => hr _ _ he⟩
      case round l f tmps assign body => exact ⟨u2.1, RoundIn.mono u2.2 fun e w'' he => by cases e <;> first | exact hr _ _ he | exact he⟩
  · rw [if_neg (by rw [hw]; simp)]
    exact ⟨fun f _ => (asks0_of hF).1 f, hr _ _ (NxtD.here h' hd o.dst (sv := un) rfl hk)⟩

/-- A call of yield. -/
theorem yield_in {l : Nat} {i : Nat} {rest : List Nat} {o : Oper} {y : Opd} {y2 : Opd} {dst : Option Nat} (ho : ops[i]? = some o) (hc : cIns P ops o = some ⟨dst, none, .callv y [y2]⟩)
    (h : At P ρ H g w t a) (hy : ev t y = .raw (.func (.yield l) #[] #[])) {R : Ending → World → Prop} (hY : YieldAt Fence.wide 0 P l #[val ρ (ev t y2)] w R)
    (hr : ∀ e w', R e w' → ∃ v, e = .returned v ∧ wpOpsIn Fence.wide 0 P ops Q rest (a.put dst v) w') : wpOpsIn Fence.wide 0 P ops Q (i :: rest) a w := by
  obtain ⟨hco, hdst, hgd⟩ := cIns_spec hc
  obtain ⟨x, args, ats, hop, hx, hargs⟩ := callv_inv hco
  have hgn : o.guard = none := by
    rcases hgd with ⟨h1, _⟩ | ⟨j, gd, want, _, _, h3⟩
    · exact h1
    · cases h3
  simp only [wpOpsIn, ho]
  rw [if_pos (by simp [Region.wanted, hgn])]
  refine ⟨fun _ _ => trivial, ?_⟩
  rw [Oper.semAt_eq _ _ _ (not_defer hco)]
  obtain ⟨fn, tmps, assign, body, hrun, hround⟩ := hY
  have e1 : a.eval x = .func (.yield l) #[] #[] := by rw [h.eq hx, hy]; rfl
  have e2 : args.map a.eval = #[val ρ (ev t y2)] := by
    obtain ⟨h1, _⟩ := evL_map h hargs
    apply Array.toList_inj.1
    simpa [evL, valL] using h1
  have hex : (execOp a.eval o).run P w = .ok (.round l fn tmps assign body) w := by
    simp only [execOp, hop, resolve, e1, e2, Deferred.ofValue, Sem.run_bind, Sem.run_pure, Result.andThen_ok, invoke]
    simpa using hrun
  rw [hex]
  refine ⟨fun hh => (by cases hh), RoundIn.mono hround fun e w' he => ?_⟩
  obtain ⟨v, rfl, hv⟩ := hr e w' he
  rw [← hdst]; exact hv
end
end Go.V

namespace Go.V
open Go

/-- Function f is maps.Keys's (which = 0) or maps.Values's (which = 1) iterator. -/
def itL2 (tE : TypeId) (n : Option Nat) (zs : List Value) (which : Nat) : List VIns := [⟨some 8, none, .entry (.t 5)⟩, ⟨some 9, none, .extr (.t 8) which⟩, ⟨some 3, none, .new tE zs⟩, ⟨none, none, .store n (.t 3) (.t 9)⟩]
def itL3 (n : Option Nat) : List VIns := [⟨some 10, none, .mov (.t 0)⟩, ⟨some 11, none, .load n (.t 3)⟩, ⟨some 12, none, .callv (.t 10) [.t 11]⟩, ⟨some 13, none, .un .not (.t 12)⟩]
def IsIt (P : Program) (f : FuncId) (tE : TypeId) (n : Option Nat) (zs : List Value) (which : Nat) : Prop :=
  ∃ (fn : Func) (i0 i1 i2 i3 b0 b1 : Nat) (ops0 ops1 ops2 ops3 : Array Oper), P.funcs[f]? = some fn ∧
    fn.body = some (.seq (.region i0 ops0 false) (.block b0 (.loop (.seq (.region i1 ops1 false) (.seq (.cond (.tmp 7) .skip (.exit b0)) (.block b1 (.seq (.region i2 ops2 false) (.seq (.region i3 ops3 false) (.cond (.tmp 13) .ret .skip))))))))) ∧
    ops0.toList.mapM (cIns P ops0) = some [⟨some 4, none, .load none (.t 1)⟩, ⟨some 5, none, .range false (.t 4)⟩] ∧
    ops1.toList.mapM (cIns P ops1) = some [⟨some 6, none, .next false (.t 5)⟩, ⟨some 7, none, .extr (.t 6) 0⟩] ∧
    ops2.toList.mapM (cIns P ops2) = some (itL2 tE n zs which) ∧ ops3.toList.mapM (cIns P ops3) = some (itL3 n) ∧ fn.ntmps = 14 ∧ fn.results = #[]

section
variable {P : Program} {α : Type} {tE : TypeId} {n : Option Nat} {sz by' : Nat} {zs : List Value} {sv : α → SV} {cells : α → List Value}

/-- A round keeps what the iterator owns. -/
theorem St.round {ρ : Rho} {H : List SO} {g g' : Fr} {W W' : World} (h : St ρ H g W) (hp : plainH H = true) (hc : Cov W' g') (he : ExtF g W g' W') : St ρ H g' W' := by
  have ow : ∀ (i : Nat) si b, H[i]? = some si → si.owned = true → ρ i = some b → ∀ o, W.heap[b]? = some o → W'.heap[b]? = some o ∧ g'.f b = none :=
    fun i si b hi ho hb o hw => he b o hw (h.frd i si b hi ho hb)
  constructor
  · intro k s hk
    rcases plainH_spec hp k s hk with h1 | h1
    · refine entryOK_congr (n := H.length) (List.getElem?_eq_some_iff.1 hk).1 (h.ent k s hk) (fun _ _ => rfl) ?_ ?_ ?_
      · rintro l e rfl; exact h.scp k l e hk
      · rintro m s' seen st rfl; exact h.sci k m s' seen st hk
      · intro b o _ hb hor _
        exact (ow k s b hk h1 (hor (.inl h1)) o hb).1
    · subst h1; trivial
  · exact h.dis
  · exact h.gho
  · exact hc.1
  · exact hc.2
  · intro i si b hi ho hb
    have hlt := entryOK_lt (h.ent i si hi) (.inl ho) hb
    exact (ow i si b hi ho hb _ (Array.getElem?_eq_getElem hlt)).2
  · exact h.scp
  · exact h.sci

theorem it_l2 (h : Elem P tE n sz by' zs sv cells) {tB : TypeId} {es : List MapEntry} {c s : Nat} {seen : List Nat} {which : Nat} {e : MapEntry} (x : α)
    (hlast : seen.getLast? = some s) (hfind : es.find? (·.born == s) = some e) (hx : [svConst e.key, svConst e.val][which]? = some (sv x)) (u0 u1 u2 u3 u4 u6 u7 u8 u9 u10 u11 u12 u13 : SV) :
    vcReg P (itL2 tE n zs which) [u0, u1, u2, u3, u4, .ptr 2 0, u6, u7, u8, u9, u10, u11, u12, u13] [.cells [.mp 1] tB, .map es c, .iter (some 1) c seen c]
      (fun t' H' => (∃ v8, t' = [u0, u1, u2, .ptr 3 0, u4, .ptr 2 0, u6, u7, v8, sv x, u10, u11, u12, u13]) ∧ H' = [.cells [.mp 1] tB, .map es c, .iter (some 1) c seen c, .cells ((cells x).map .raw) tE]) := by
  simp only [itL2, vcReg, vcIns, vcOp, putK_eq, put, evK, getK, vcEntry, objK]
  refine ⟨s, e, hlast, hfind, trivial, ?_⟩
  simp only [List.set_cons_succ, List.set_cons_zero, getK, hx, rawsK_eq, newHK_eq, List.length_cons, List.length_nil, Nat.reduceAdd, List.cons_append, List.nil_append, vcStore, h.stored x, objK]
  simp only [paste_all (zs.map SV.raw) ((cells x).map SV.raw) (by simp [h.len x, h.zlen]), setHK_eq, List.set_cons_succ, List.set_cons_zero]
  exact ⟨⟨_, rfl⟩, trivial⟩
end
end Go.V

namespace Go.V
open Go

theorem born_inj {es : List MapEntry} (hnd : (es.map (·.born)).Nodup) : ∀ {x y : MapEntry}, x ∈ es → y ∈ es → x.born = y.born → x = y := by
  induction es with
  | nil => intro x y hx; simp at hx
  | cons z es ih =>
    simp only [List.map_cons, List.nodup_cons] at hnd
    intro x y hx hy hxy
    rcases List.mem_cons.1 hx with h1 | h1 <;> rcases List.mem_cons.1 hy with h2 | h2
    · rw [h1, h2]
    · exact absurd (List.mem_map.2 ⟨y, h2, by rw [← hxy, h1]⟩) hnd.1
    · exact absurd (List.mem_map.2 ⟨x, h1, by rw [hxy, h2]⟩) hnd.1
    · exact ih hnd.2 h1 h2 hxy
theorem nodup_len {A : Type} [DecidableEq A] : ∀ {l m : List A}, l.Nodup → l ⊆ m → l.length ≤ m.length
  | [], _, _, _ => by simp
  | x :: l, m, hn, hs => by
    have hx : x ∈ m := hs (by simp)
    simp only [List.nodup_cons] at hn
    have h1 : l ⊆ m.erase x := by
      intro y hy
      have : y ≠ x := by rintro rfl; exact hn.1 hy
      exact (List.mem_erase_of_ne this).2 (hs (by simp [hy]))
    have h2 := nodup_len hn.2 h1
    have h3 := List.length_pos_of_mem hx
    rw [List.length_erase_of_mem hx] at h2
    simp only [List.length_cons]; omega
theorem nodup_of_map {A B : Type} (f : A → B) : ∀ {l : List A}, (l.map f).Nodup → l.Nodup
  | [], _ => List.nodup_nil
  | x :: l, h => by
    simp only [List.map_cons, List.nodup_cons] at h
    exact List.nodup_cons.2 ⟨fun hx => h.1 (List.mem_map.2 ⟨x, hx, rfl⟩), nodup_of_map f h.2⟩
theorem perm_born {es pre : List MapEntry} (hnd : (es.map (·.born)).Nodup) (hndp : (pre.map (·.born)).Nodup) (hsub : ∀ e, e ∈ pre → e ∈ es) (hall : ∀ e, e ∈ es → e.born ∈ pre.map (·.born)) : pre.Perm es := by
  refine (List.perm_ext_iff_of_nodup (nodup_of_map _ hndp) (nodup_of_map _ hnd)).2 fun e => ⟨hsub e, fun he => ?_⟩
  obtain ⟨p, hp, hpe⟩ := List.mem_map.1 (hall e he)
  rw [← born_inj hnd (hsub p hp) he hpe]; exact hp
theorem find_born {es : List MapEntry} (hnd : (es.map (·.born)).Nodup) {e : MapEntry} (he : e ∈ es) : es.find? (·.born == e.born) = some e := by
  cases hf : es.find? (·.born == e.born) with
  | none =>
    have := List.find?_eq_none.1 hf e he
    simp at this
  | some x =>
    have h1 := List.find?_some hf
    have h2 := List.mem_of_find?_eq_some hf
    rw [born_inj hnd h2 he (by simpa using h1)]
theorem len_born {es pre : List MapEntry} (hndp : (pre.map (·.born)).Nodup) (hsub : ∀ e, e ∈ pre → e ∈ es) {e : MapEntry} (he : e ∈ es) (hne : e.born ∉ pre.map (·.born)) : pre.length < es.length := by
  have hn : (pre ++ [e]).Nodup := by
    rw [List.nodup_append]
    refine ⟨nodup_of_map _ hndp, by simp, fun x hx y hy => ?_⟩
    simp at hy; subst hy
    rintro rfl; exact hne (List.mem_map.2 ⟨x, hx, rfl⟩)
  have hs : (pre ++ [e]) ⊆ es := by
    intro x hx
    rcases List.mem_append.1 hx with h1 | h1
    · exact hsub x h1
    · simp at h1; exact h1 ▸ he
  classical
  have := nodup_len hn hs
  simp only [List.length_append, List.length_cons, List.length_nil] at this; omega

section
variable {P : Program} {α : Type} {tE : TypeId} {n : Option Nat} {sz by' : Nat} {zs : List Value} {sv : α → SV} {cells : α → List Value}

theorem St.names {ρ ρ' : Rho} {H : List SO} {g : Fr} {w : World} (h : St ρ H g w) (hr : ∀ k, k < H.length → ρ' k = ρ k) : St ρ' H g w := by
  have hlt : ∀ {i : Nat} {s : SO}, H[i]? = some s → i < H.length := fun hi => (List.getElem?_eq_some_iff.1 hi).1
  constructor
  · intro k s hk
    refine entryOK_congr (hlt hk) (h.ent k s hk) hr ?_ ?_ (fun b o _ hb _ _ => hb)
    · rintro l e rfl; exact h.scp k l e hk
    · rintro m s' seen st rfl; exact h.sci k m s' seen st hk
  · intro i j si sj b hij hi hj ho hoj hb
    rw [hr i (hlt hi)] at hb; rw [hr j (hlt hj)]
    exact h.dis i j si sj b hij hi hj ho hoj hb
  · intro i j si gh b hi ho hj hb
    rw [hr i (hlt hi)] at hb
    exact h.gho i j si gh b hi ho hj hb
  · exact h.env
  · exact h.frm
  · intro i si b hi ho hb
    rw [hr i (hlt hi)] at hb
    exact h.frd i si b hi ho hb
  · exact h.scp
  · exact h.sci

theorem it_gives {f : FuncId} {which : Nat} (h : Elem P tE n sz by' zs sv cells) (hit : IsIt P f tE n zs which) {tB : TypeId} {es : List MapEntry} {c : Nat} (elt : MapEntry → α)
    (hel : ∀ e, e ∈ es → [svConst e.key, svConst e.val][which]? = some (sv (elt e))) (hborn : ∀ e, e ∈ es → e.born < c) (hnd : (es.map (·.born)).Nodup) :
    Gives P f [.ptr 0 0] [.cells [.mp 1] tB, .map es c] (fun x => V.val (fun _ => none) (sv x)) (fun xs => ∃ order : List MapEntry, order.Perm es ∧ xs = order.map elt) es.length := by
  obtain ⟨fn, i0, i1, i2, i3, b0, b1, ops0, ops1, ops2, ops3, hf, hbody, c0, c1, c2, c3, hnt, hres⟩ := hit
  intro l J ρ g W hS hb hJ hR
  refine (callsIn_wide (n := 0)).1 (callsIn_of_wp hf hbody trivial ?_ rfl)
  have hA : At P ρ [.cells [.mp 1] tB, .map es c] g W [.raw (.func (.yield l) #[] #[]), .ptr 0 0, un, un, un, un, un, un, un, un, un, un, un, un]
      { tmps := (#[Value.func (.yield l) #[] #[]] ++ (valL ρ [.ptr 0 0]).toArray) ++ Array.replicate (fn.ntmps - (#[Value.func (.yield l) #[] #[]] ++ (valL ρ [.ptr 0 0]).toArray).size) undef, defers := [] } := by
    refine ⟨?_, by simp [belowL, below], hS⟩
    simp only [Frm, hnt]
    apply Array.toList_inj.1
    simp [valL, val, undef, List.replicate]
  refine wpIn_seq (vcReg_regionIn (.inl rfl) c0 (Q' := fun t' H' => t' = [.raw (.func (.yield l) #[] #[]), .ptr 0 0, un, un, .mp 1, .ptr 2 0, un, un, un, un, un, un, un, un] ∧ H' = [.cells [.mp 1] tB, .map es c, .iter (some 1) c [] c]) ?_ hA rfl ?_)
  rotate_left 1
  · simp [vcReg, vcIns, vcOp, evK, getK, putK_eq, put, newHK_eq, vcLoad, objK]
  rintro a1 w1 ⟨ρ1, t1, H1, hA1, hd1, hρ1, _, rfl, rfl⟩
  refine wpIn_block ((wpIn_wide (n := 0)).2 ?_)
  let live : List (Nat × SV) := [(0, .raw (.func (.yield l) #[] #[])), (1, .ptr 0 0), (4, .mp 1), (5, .ptr 2 0)]
  let t0 : List SV := [un, un, un, un, un, un, un, un, un, un, un, un, un, un]
  let Hit : List MapEntry → List SO := fun pre => [.cells [.mp 1] tB, .map es c, .iter (some 1) c (pre.map (·.born)) c]
  refine wp_loop_ghost (X := List MapEntry) (fun pre a w => (∀ e, e ∈ pre → e ∈ es) ∧ (pre.map (·.born)).Nodup ∧ ∃ gf gv, J (pre.map elt) gf ∧ Sat P 2 ρ gf (fun t' H' => t' = headT gv 0 t0 live ∧ H' = Hit pre) a w)
    (fun pre => es.length - pre.length) [] ⟨by simp, by simp, g, ?_⟩ ?_
  · obtain ⟨gv, hs⟩ := fits_sat (n0 := 2) (ρ0 := ρ) (t0 := t0) (σ := [0, 1, 2]) (live := live) (H0 := Hit []) ⟨rfl, rfl, rfl⟩ hA1 hd1 (fun k hk => hρ1 k (by simpa using hk))
    exact ⟨gv, hJ, hs⟩
  rintro pre a2 w2 ⟨hsub, hndp, gf, gv, hJ2, ρ2, t2, H2, hA2, hd2, hρ2, _, rfl, rfl⟩
  refine (wpIn_wide (n := 0)).1 ?_
  let T : SV → SV → List SV := fun v6 v7 => [.raw (.func (.yield l) #[] #[]), .ptr 0 0, .raw (gv 2), .raw (gv 3), .mp 1, .ptr 2 0, v6, v7, .raw (gv 8), .raw (gv 9), .raw (gv 10), .raw (gv 11), .raw (gv 12), .raw (gv 13)]
  refine wpIn_seq (vcReg_regionIn (.inl rfl) c1 (Q' := fun t' H' => ((∀ e, e ∈ es → e.born ∈ pre.map (·.born)) ∧ (∃ v6, t' = T v6 (.kb false)) ∧ H' = Hit pre) ∨ ∃ e, e ∈ es ∧ e.born ∉ pre.map (·.born) ∧ (∃ v6, t' = T v6 (.kb true)) ∧ H' = Hit (pre ++ [e])) ?_ hA2 hd2 ?_)
  rotate_left 1
  · show vcReg P _ (T (.raw (gv 6)) (.raw (gv 7))) (Hit pre) _
    simp only [T, Hit, vcReg, vcIns, vcOp, evK, getK, putK_eq, put, vcNext, objK]
    refine ⟨⟨hborn, Nat.le_refl _⟩, fun hall => ?_, fun e he hne => ?_⟩
    · exact .inl ⟨hall, ⟨_, rfl⟩, trivial⟩
    · rw [setHK_eq]
      exact .inr ⟨e, he, hne, ⟨_, rfl⟩, by simp⟩
  rintro a3 w3 ⟨ρ3, t3, H3, hA3, hd3, hρ3, _, hcase⟩
  have hnames : ∀ k, k < 2 → ρ3 k = ρ k := fun k hk => (hρ3 k (by simp [Hit]; omega)).trans (hρ2 k hk)
  rcases hcase with ⟨hall, ⟨v6, rfl⟩, rfl⟩ | ⟨e, he, hne, ⟨v6, rfl⟩, rfl⟩
  · refine wpIn_seq (wpIn_cond_false (by rw [hA3.eq (y := .t 7) rfl]; rfl) (wpIn_exit ?_))
    simp only [Exit.then, Exit.inBlock, if_true]
    refine ⟨hd3, .tuple #[], by simp [results, hres], ⟨_, rfl⟩, pre.map elt, gf, ⟨pre, ?_, rfl⟩, hJ2, ?_⟩
    · exact perm_born hnd hndp hsub hall
    · have := hA3.s.pick (σ := [0, 1]) (H0 := [.cells [.mp 1] tB, .map es c]) rfl rfl
      exact this.names fun k hk => by
        match k, hk with
        | 0, _ => exact (hnames 0 (by omega)).symm
        | 1, _ => exact (hnames 1 (by omega)).symm
  · refine wpIn_seq (wpIn_cond_true (by rw [hA3.eq (y := .t 7) rfl]; rfl) (wpIn_skip ?_))
    have hlast : (pre.map (·.born) ++ [e.born]).getLast? = some e.born := by simp
    have hfind : es.find? (·.born == e.born) = some e := find_born hnd he
    have hA3' : At P ρ3 [.cells [.mp 1] tB, .map es c, .iter (some 1) c (pre.map (·.born) ++ [e.born]) c] gf w3 (T v6 (.kb true)) a3 := by
      simpa [Hit] using hA3
    refine wpIn_block (wpIn_seq (vcReg_regionIn (.inl rfl) c2 ?_ hA3' hd3 (it_l2 h (elt e) hlast hfind (hel e he) _ _ _ _ _ _ _ _ _ _ _ _ _)))
    rintro a4 w4 ⟨ρ4, t4, H4, hA4, hd4, hρ4, _, ⟨v8, rfl⟩, rfl⟩
    obtain ⟨m1, m2⟩ := mapM_get c3
    have hsz : ops3.size = 4 := by simpa [itL3] using m1.symm
    have hop : ∀ (j : Nat) x, (itL3 n)[j]? = some x → ∃ o, ops3[j]? = some o ∧ cIns P ops3 o = some x := by
      intro j x hx
      have := m2 j
      rw [hx] at this
      obtain ⟨o, h1, h2⟩ := Option.bind_eq_some_iff.1 this
      exact ⟨o, by simpa using h1, h2⟩
    obtain ⟨o0, p0, q0⟩ := hop 0 _ rfl
    obtain ⟨o1, p1, q1⟩ := hop 1 _ rfl
    obtain ⟨o2, p2, q2⟩ := hop 2 _ rfl
    obtain ⟨o3, p3, q3⟩ := hop 3 _ rfl
    refine wpIn_seq (wpIn_region ?_)
    rw [hsz]
    show wpOpsIn Fence.wide 0 P ops3 _ [0, 1, 2, 3] a4 w4
    let T4 : SV → SV → SV → List SV := fun v10 v11 v12 => [.raw (.func (.yield l) #[] #[]), .ptr 0 0, .raw (gv 2), .ptr 3 0, .mp 1, .ptr 2 0, v6, .kb true, v8, sv (elt e), v10, v11, v12, .raw (gv 13)]
    let H4 : List SO := [.cells [.mp 1] tB, .map es c, .iter (some 1) c (pre.map (·.born) ++ [e.born]) c, .cells ((cells (elt e)).map .raw) tE]
    have hload : ∀ K : SV → Prop, K (sv (elt e)) → vcLoad n (.ptr 3 0) H4 K := by
      intro K hK
      rcases h.sv_cells (elt e) with ⟨rfl, v, e1, e2⟩ | ⟨m, rfl, e1⟩
      · rw [e1] at hK
        simp only [H4, vcLoad, objK, e2, List.map_cons, List.map_nil, List.getElem?_cons_zero]
        exact hK
      · have hm : m = ((cells (elt e)).map SV.raw).length := by
          have := (shape_some h.shape).2
          rw [h.size] at this
          simp [h.len (elt e), (Option.some.inj this).symm]
        rw [e1] at hK
        simp only [H4, vcLoad, objK, hm, cut_all]
        exact hK
    refine ins_in (.inl rfl) p0 q0 (K := fun t' H' => t' = T4 (.raw (.func (.yield l) #[] #[])) (.raw (gv 11)) (.raw (gv 12)) ∧ H' = H4) hA4 hd4 ?_ ?_
    · simp [vcIns, vcOp, evK, getK, putK_eq, put, T4, H4]
    rintro a5 w5 ⟨ρ5, t5, H5, hA5, hd5, hρ5, _, rfl, rfl⟩
    refine ins_in (.inl rfl) p1 q1 (K := fun t' H' => t' = T4 (.raw (.func (.yield l) #[] #[])) (sv (elt e)) (.raw (gv 12)) ∧ H' = H4) hA5 hd5 ?_ ?_
    · simp only [vcIns, vcOp, evK, getK, putK_eq, T4]
      exact hload _ ⟨rfl, trivial⟩
    rintro a6 w6 ⟨ρ6, t6, H6, hA6, hd6, hρ6, _, rfl, rfl⟩
    have hlen : (pre.map elt).length < es.length := by
      rw [List.length_map]; exact len_born hndp hsub he hne
    have hY := hR (pre.map elt) (elt e) gf w6 0 hJ2 hlen hA6.s.isCov
    refine yield_in p2 q2 hA6 rfl (by rw [show V.val ρ6 (ev (T4 (.raw (.func (.yield l) #[] #[])) (sv (elt e)) (.raw (gv 12))) (.t 11)) = V.val (fun _ => none) (sv (elt e)) from h.val _ _ _]; exact hY) ?_
    rintro _ w7 ⟨rfl, gf', hJ', hcov, hext⟩
    refine ⟨_, rfl, ?_⟩
    have hS7 := hA6.s.round (by simp [H4, plainH, SO.owned]) hcov hext
    have hA7 : At P ρ6 H4 gf' w7 (T4 (.raw (.func (.yield l) #[] #[])) (sv (elt e)) (.kb true)) (a6.put (some 12) (.bool true)) := ⟨hA6.f.put (some 12) (.kb true), belowL_put hA6.b (some 12) rfl, hS7⟩
    refine ins_in (.inl rfl) p3 q3 (K := fun t' H' => t' = (T4 (.raw (.func (.yield l) #[] #[])) (sv (elt e)) (.kb true)).set 13 (.kb false) ∧ H' = H4) hA7 hd6 ?_ ?_
    · simp [vcIns, vcOp, evK, getK, putK_eq, put, T4, vcUn]
    rintro a8 w8 ⟨ρ8, t8, H8, hA8, hd8, hρ8, _, rfl, rfl⟩
    show Exit.then _ _ .normal a8 w8
    refine wpIn_cond_false (by rw [hA8.eq (y := .t 13) rfl]; rfl) (wpIn_skip ?_)
    have hn8 : ∀ k, k < 2 → ρ8 k = ρ k := by
      intro k hk
      rw [hρ8 k (by simp [H4]; omega), hρ6 k (by simp [H4]; omega), hρ5 k (by simp; omega), hρ4 k (by simp; omega), hnames k hk]
    obtain ⟨gv', hs⟩ := fits_sat (n0 := 2) (ρ0 := ρ) (t0 := t0) (σ := [0, 1, 2]) (live := live) (H0 := Hit (pre ++ [e])) ⟨rfl, by simp [Hit, H4, pickH, renH, asked, obj, SO.ren, renL, ren, sub], rfl⟩ hA8 hd8 hn8
    refine ⟨pre ++ [e], ⟨?_, ?_, gf', gv', by simpa using hJ', hs⟩, ?_⟩
    · intro x hx
      rcases List.mem_append.1 hx with h1 | h1
      · exact hsub x h1
      · simp at h1; exact h1 ▸ he
    · rw [List.map_append, List.nodup_append]
      refine ⟨hndp, by simp, fun x hx y hy => ?_⟩
      simp at hy; subst hy
      rintro rfl; exact hne hx
    · have : pre.length < es.length := by simpa using hlen
      simp; omega
end
end Go.V

