/- Part of the proof that the statement named in the last file holds: lemmas of the prover's own. No conditions. -/
import Derived.Test.YtmidamdjpabpbaaV25
namespace Go.V
open Go

/-- The state of a collecting loop between two rounds, as a frame. -/
structure ApJ {α : Type} (tS tE : TypeId) (sz : Nat) (cells : α → List Value) (g0 : Fr) (Bs D l : Nat) (rec : Loop) (pre : List α) (g : Fr) : Prop where
  env : g.os = g0.os ∧ g.tape = g0.tape ∧ g.out = g0.out ∧ g0.dr = g.dr
  keep : ∀ b o, g0.f b = some o → g.f b = some o
  lrec : g.f l = some (.loop rec)
  dd : g.f D = some (.deferred (some []))
  own : g0.f Bs = none ∧ g0.f l = none ∧ g0.f D = none
  row : ∃ (r : Option Nat) (o c : Nat) (xs : List Value), g.f Bs = some (.cells #[.slice (r.map fun b => ⟨b, o, none⟩) pre.length c] tS (0, 0)) ∧
    (pre.length ≤ c ∧ o + c * sz ≤ xs.length ∧ (xs.drop o).take (pre.length * sz) = pre.flatMap cells) ∧
    ((r = none ∧ xs = []) ∨ ∃ b fr, r = some b ∧ g.f b = some (.cells xs.toArray tE fr) ∧ (fr.1 = fr.2 ∨ xs.length ≤ fr.1) ∧ b ≠ Bs ∧ g0.f b = none)

section
variable {P : Program} {α : Type} {tS tE : TypeId} {n : Option Nat} {sz by' : Nat} {zs zsl : List Value} {sv : α → SV} {cells : α → List Value}

theorem Elem.val (h : Elem P tE n sz by' zs sv cells) (x : α) (ρ ρ' : Rho) : V.val ρ (sv x) = V.val ρ' (sv x) := by
  rcases h.sv_cells x with ⟨_, v, e1, _⟩ | ⟨m, _, e1⟩
  · rw [e1]; rfl
  · rw [e1]; simp [V.val, valL_eq, Function.comp_def]
theorem Elem.below (h : Elem P tE n sz by' zs sv cells) (x : α) (m : Nat) : V.below m (sv x) = true := by
  rcases h.sv_cells x with ⟨_, v, e1, _⟩ | ⟨m, _, e1⟩
  · rw [e1]; rfl
  · rw [e1]; simpa [V.below] using below_raws _ _

/-- The blocks of the loop's own state, as a state. -/
theorem ap_st {W : World} {Bs : Nat} {r : Option Nat} {o len c : Nat} {xs : List Value} (hB : W.heap[Bs]? = some (.cells #[.slice (r.map fun b => ⟨b, o, none⟩) len c] tS (0, 0)))
    (hr : (r = none ∧ xs = []) ∨ ∃ b fr, r = some b ∧ W.heap[b]? = some (.cells xs.toArray tE fr) ∧ (fr.1 = fr.2 ∨ xs.length ≤ fr.1) ∧ b ≠ Bs) :
    St (fun k => if k = 0 then some Bs else if k = 1 then r else none) [.cells [.sl 1 o len c] tS, .arr xs tE] (Fr.all W fun b => b = Bs ∨ r = some b) W := by
  have two : ∀ (i : Nat) s, ([SO.cells [.sl 1 o len c] tS, .arr xs tE] : List SO)[i]? = some s → (i = 0 ∧ s = .cells [.sl 1 o len c] tS) ∨ (i = 1 ∧ s = .arr xs tE) := by
    intro i s h
    match i with
    | 0 => simp at h; exact .inl ⟨rfl, h.symm⟩
    | 1 => simp at h; exact .inr ⟨rfl, h.symm⟩
    | i + 2 => simp at h
  constructor
  · intro i s h
    rcases two i s h with ⟨rfl, rfl⟩ | ⟨rfl, rfl⟩
    · exact ⟨Bs, rfl, by simpa [valL, val] using hB⟩
    · rcases hr with ⟨h1, h2⟩ | ⟨b, fr, h1, h2, h3, _⟩
      · exact .inl ⟨h1, h2⟩
      · exact .inr ⟨b, fr, h1, h2, h3⟩
  · intro i j si sj b hij hi hj _ _ hb
    have hne : ∀ b, r = some b → b ≠ Bs := by
      intro b hb
      rcases hr with ⟨h1, _⟩ | ⟨b', fr, h1, _, _, h4⟩
      · rw [h1] at hb; cases hb
      · rw [h1] at hb; cases hb; exact h4
    rcases two i si hi with ⟨rfl, rfl⟩ | ⟨rfl, rfl⟩ <;> rcases two j sj hj with ⟨rfl, rfl⟩ | ⟨rfl, rfl⟩
    · exact absurd rfl hij
    · simp at hb ⊢; subst hb; exact fun e => hne _ e rfl
    · simp at hb ⊢; exact fun e => hne _ hb e.symm
    · exact absurd rfl hij
  · intro i j si gh b _ _ hj
    rcases two j _ hj with ⟨_, h⟩ | ⟨_, h⟩ <;> cases h
  · exact ⟨rfl, rfl, rfl, Nat.le_refl _⟩
  · intro b ob hb
    simp only [Fr.all] at hb
    split at hb
    · cases hb
    · exact hb
  · intro i si b hi _ hb
    simp only [Fr.all]
    rcases two i si hi with ⟨rfl, _⟩ | ⟨rfl, _⟩
    · simp at hb; simp [hb]
    · simp at hb; simp [hb]
  · intro i l e hi
    rcases two i _ hi with ⟨_, h⟩ | ⟨_, h⟩
    · cases h; simp [belowL, below]
    · cases h
  · intro i m s seen st hi
    rcases two i _ hi with ⟨_, h⟩ | ⟨_, h⟩ <;> cases h

def apL2 (tE : TypeId) (n : Option Nat) (zs : List Value) : List VIns := [⟨some 5, none, .new tE zs⟩, ⟨none, none, .store n (.t 5) (.t 7)⟩]
def apL3 (tE : TypeId) (n : Option Nat) (sz by' : Nat) (zs zsl : List Value) : List VIns :=
  [⟨some 8, none, .load none (.t 2)⟩, ⟨some 9, none, .load n (.t 5)⟩, ⟨some 10, none, .bslice tE 1 zsl [(0, sz, .t 9)]⟩, ⟨some 11, none, .append tE sz by' zs (.t 8) (.t 10)⟩, ⟨none, none, .store none (.t 2) (.t 11)⟩]

theorem ap_round (h : Elem P tE n sz by' zs sv cells) (hzl : zsl.length = sz) {ops2 ops3 : Array Oper} {i2 i3 b1 : Nat} (h2 : ops2.toList.mapM (cIns P ops2) = some (apL2 tE n zs)) (h3 : ops3.toList.mapM (cIns P ops3) = some (apL3 tE n sz by' zs zsl))
    {g0 : Fr} {Bs D l : Nat} {rec : Loop} (hst : rec.state = .ready) (hpe : rec.pending = none) (hpa : rec.params = #[7]) (has : rec.assign = .region i2 ops2 false) (hbo : rec.body = .block b1 (.region i3 ops3 false))
    {v0 v1 v6 : Value} (htm : rec.tmps = #[v0, v1, .pointer (some ⟨Bs, 0, none⟩), undef, .slice none 0 0, undef, v6, undef, undef, undef, undef, undef, undef]) {N : Nat} (hN : N * by' ≤ 1099511627776) :
    RoundC P l (fun x => V.val (fun _ => none) (sv x)) (ApJ tS tE sz cells g0 Bs D l rec) N := by
  intro pre x gf W m hJ hlt hC
  obtain ⟨r, o, c, xs, hBs, hlen, hrow⟩ := hJ.row
  have hWl : W.heap[l]? = some (.loop rec) := hC.2 _ _ hJ.lrec
  have hWB := hC.2 _ _ hBs
  have hlB : l ≠ Bs := by
    rintro rfl
    have := hJ.lrec; rw [hBs] at this; cases this
  have hlr : r ≠ some l := by
    rintro rfl
    rcases hrow with ⟨e, _⟩ | ⟨b, fr, e, e2, _⟩
    · cases e
    · cases e
      have := hJ.lrec; rw [e2] at this; cases this
  have hS := ap_st (tS := tS) (tE := tE) (xs := xs) hWB (hrow.imp id fun ⟨b, fr, e1, e2, e3, e4, _⟩ => ⟨b, fr, e1, hC.2 _ _ e2, e3, e4⟩)
  refine ⟨rec.fn, _, rec.assign, rec.body, run_yield hWl (by rw [hpa]; rfl), roundIn_of_wpIn trivial ?_⟩
  rw [has, hbo, hpa, htm]
  refine vcReg_regionIn (.inr ⟨l, rfl⟩) h2 (t := [.raw v0, .raw v1, .ptr 0 0, un, .raw (.slice none 0 0), un, .raw v6, sv x, un, un, un, un, un]) ?_ ⟨?_, ?_, hS⟩ rfl (ap_assign h x _ _ _ _ _ _ _ _ _ _ _ _ _)
  rotate_left 1
  · simp only [Frm]
    apply Array.toList_inj.1
    simp [valL, V.val, undef, h.val x (fun k => if k = 0 then some Bs else if k = 1 then r else none) (fun _ => none)]
  · simp [belowL, V.below, h.below x]
  rintro a1 w1 ⟨ρ1, t1, H1, hA1, hd1, hρ1, _, rfl, rfl⟩
  have hgl : (Fr.all W fun b => b = Bs ∨ r = some b).f l = some (.loop rec) := by
    simp only [Fr.all]
    rw [if_neg (by simp [hlB, hlr])]; exact hWl
  have hw1 : w1.heap[l]? = some (.loop rec) := hA1.s.frm l _ hgl
  refine ⟨_, run_beginRound hw1 hst, wpIn_block ?_⟩
  have hS2 := hA1.s.outside (by simp [plainH, SO.owned]) (o' := .loop { rec with state := .busy }) hgl
  have hbnd : (pre.length + 1) * by' ≤ 1099511627776 := Nat.le_trans (Nat.mul_le_mul_right _ hlt) hN
  refine vcReg_regionIn (.inr ⟨l, rfl⟩) h3 ?_ ⟨hA1.f, hA1.b, hS2⟩ hd1 (ap_body h hzl x _ _ _ _ _ _ _ _ _ _ _ o c pre.length xs ⟨hlen.1, hlen.2.1⟩ hbnd)
  rintro a3 w3 ⟨ρ3, t3, H3, hA3, hd3, hρ3, _, o', c', xs', rfl, q1, q2, q3⟩
  have hS3 := hA3.s
  have hw3 : w3.heap[l]? = some (.loop { rec with state := .busy }) := hS3.frm l _ (by simp [Fr.at])
  have hfin : ({ ({ rec with state := .busy } : Loop) with state := if (none : Option Code).isNone then LoopState.ready else .done, pending := none } : Loop) = rec := by
    cases rec
    simp only at hst hpe
    subst hst hpe
    rfl
  have hend := run_endRound (P := P) none hw3
  rw [hfin] at hend
  refine ⟨_, _, hend, by simp, ?_⟩
  -- the blocks behind the round
  have e0 : ρ3 0 = some Bs := by rw [hρ3 0 (by simp), hρ1 0 (by simp)]; rfl
  have hB3 : w3.heap[Bs]? = some (.cells #[.slice ((ρ3 4).map fun b => ⟨b, o', none⟩) (pre.length + 1) c'] tS (0, 0)) := by
    obtain ⟨b, b1, b2⟩ := hS3.ent 0 _ rfl
    rw [e0] at b1; cases b1
    simpa [valL, V.val] using b2
  have hne0 : xs' ≠ [] := by
    intro e
    rw [e] at q2
    have h1 : c' * sz = 0 := by simp at q2; omega
    rcases Nat.mul_eq_zero.1 h1 with h1 | h1
    · omega
    · exact h.pos.1 h1
  obtain ⟨rb, fr, er, hr3, hfr⟩ : ∃ rb fr, ρ3 4 = some rb ∧ w3.heap[rb]? = some (.cells xs'.toArray tE fr) ∧ (fr.1 = fr.2 ∨ xs'.length ≤ fr.1) := by
    rcases hS3.ent 4 _ rfl with ⟨_, h2⟩ | ⟨b, fr, h1, h2, h3⟩
    · exact absurd h2 hne0
    · exact ⟨b, fr, h1, h2, h3⟩
  have hrB : rb ≠ Bs := fun e => hS3.dis 4 0 _ _ rb (by decide) rfl rfl rfl (.inl rfl) er (by rw [e0, e])
  have hgr : ((Fr.all W fun b => b = Bs ∨ r = some b).at l (some (.loop { rec with state := .busy }))).f rb = none := hS3.frd 4 _ rb rfl rfl er
  have hrl : rb ≠ l := by
    rintro rfl
    simp [Fr.at] at hgr
  -- what is neither the box, nor the row, nor the record lies as it lay
  have kept : ∀ b ob, W.heap[b]? = some ob → b ≠ Bs → r ≠ some b → b ≠ l → w3.heap[b]? = some ob ∧ b ≠ rb := by
    intro b ob hb k1 k2 k3
    have hf : ((Fr.all W fun b => b = Bs ∨ r = some b).at l (some (.loop { rec with state := .busy }))).f b = some ob := by
      simp only [Fr.at, Fr.all]
      rw [if_neg k3, if_neg (by simp [k1, k2])]; exact hb
    exact ⟨hS3.frm b ob hf, by rintro rfl; rw [hgr] at hf; cases hf⟩
  have hlt3 : l < w3.heap.size := (Array.getElem?_eq_some_iff.1 hw3).1
  let g' : Fr := ⟨fun b => if b = l then some (.loop rec) else if b = Bs then w3.heap[Bs]? else if b = rb then w3.heap[rb]? else if r = some b then none else gf.f b, gf.os, gf.tape, gf.out, gf.dr⟩
  have hfar : ∀ b ob, gf.f b = some ob → r ≠ some b → b ≠ Bs → b ≠ l → g'.f b = some ob := by
    intro b ob hb k1 k2 k3
    have := (kept b ob (hC.2 b ob hb) k2 k1 k3).2
    simp only [g']
    rw [if_neg k3, if_neg k2, if_neg this, if_neg k1]; exact hb
  have hrg0 : ∀ b, r = some b → g0.f b = none := by
    intro b hb
    rcases hrow with ⟨e, _⟩ | ⟨b', fr', e, _, _, _, e5⟩
    · rw [e] at hb; cases hb
    · rw [e] at hb; cases hb; exact e5
  have hDne : r ≠ some D ∧ D ≠ Bs ∧ D ≠ l := by
    refine ⟨?_, ?_, ?_⟩
    · intro e
      rcases hrow with ⟨e', _⟩ | ⟨b', fr', e', e2, _⟩
      · rw [e'] at e; cases e
      · rw [e'] at e; cases e
        have := hJ.dd; rw [e2] at this; cases this
    · rintro rfl
      have := hJ.dd; rw [hBs] at this; cases this
    · rintro rfl
      have := hJ.dd; rw [hJ.lrec] at this; cases this
  refine ⟨g', ⟨hJ.env, ?_, by simp [g'], hfar D _ hJ.dd hDne.1 hDne.2.1 hDne.2.2, hJ.own, some rb, o', c', xs', ?_, ?_, .inr ⟨rb, fr, rfl, ?_, hfr, hrB, ?_⟩⟩, ⟨?_, ?_⟩, ?_⟩
  · intro b ob hb
    have hgb := hJ.keep b ob hb
    refine hfar b ob hgb ?_ ?_ ?_
    · intro e; have := hrg0 b e; rw [hb] at this; cases this
    · rintro rfl; have := hJ.own.1; rw [hb] at this; cases this
    · rintro rfl; have := hJ.own.2.1; rw [hb] at this; cases this
  · simp only [g']
    rw [if_neg (Ne.symm hlB)]
    simp only [if_true, hB3, er, List.length_append, List.length_cons, List.length_nil]
  · refine ⟨by simpa using q1, q2, ?_⟩
    simp only [List.length_append, List.length_cons, List.length_nil, List.flatMap_append, List.flatMap_cons, List.flatMap_nil, List.append_nil]
    rw [q3, hlen.2.2]
  · simp only [g']
    rw [if_neg hrl, if_neg hrB]
    simp [hr3]
  · cases hg : g0.f rb with
    | none => rfl
    | some ob =>
      exfalso
      have hgb := hJ.keep rb ob hg
      have hnr : r ≠ some rb := fun e => by have := hrg0 rb e; rw [hg] at this; cases this
      exact (kept rb ob (hC.2 rb ob hgb) hrB hnr hrl).2 rfl
  · have he := hS3.env
    refine ⟨?_, ?_, ?_, ?_⟩
    · exact he.1.trans hC.1.1
    · exact he.2.1.trans hC.1.2.1
    · exact he.2.2.1.trans hC.1.2.2.1
    · exact Nat.le_trans hC.1.2.2.2 he.2.2.2
  · intro b ob hb
    simp only [g'] at hb
    by_cases k3 : b = l
    · subst k3
      simp at hb; subst hb
      exact World.putObj_heap_same hlt3
    · rw [World.putObj_heap_other k3]
      rw [if_neg k3] at hb
      by_cases k1 : b = Bs
      · subst k1; simpa using hb
      · rw [if_neg k1] at hb
        by_cases k4 : b = rb
        · subst k4; simpa using hb
        · rw [if_neg k4] at hb
          by_cases k2 : r = some b
          · rw [if_pos k2] at hb; cases hb
          · rw [if_neg k2] at hb
            exact (kept b ob (hC.2 b ob hb) k1 k2 k3).1
  · intro b ob hb hgb
    have k1 : b ≠ Bs := by rintro rfl; rw [hgb] at hBs; cases hBs
    have k3 : b ≠ l := by
      rintro rfl
      have := hJ.lrec; rw [hgb] at this; cases this
    have k2 : r ≠ some b := by
      intro e
      rcases hrow with ⟨e', _⟩ | ⟨b', fr', e', e2, _⟩
      · rw [e'] at e; cases e
      · rw [e'] at e; cases e
        rw [hgb] at e2; cases e2
    obtain ⟨m1, m2⟩ := kept b ob hb k1 k2 k3
    refine ⟨by rw [World.putObj_heap_other k3]; exact m1, ?_⟩
    simp only [g']
    rw [if_neg k3, if_neg k1, if_neg m2, if_neg k2]; exact hgb
end
end Go.V
