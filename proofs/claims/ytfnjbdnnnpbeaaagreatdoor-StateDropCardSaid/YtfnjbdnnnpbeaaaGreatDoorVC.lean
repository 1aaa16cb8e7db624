/- Part of the proof that the statement named in the last file holds: lemmas of the prover's own. No conditions. -/
import Derived.Test.YtfnjbdnnnpbeaaaGreatDoorVB
import Derived.IntWalk
namespace Go.V
open Go
set_option linter.unusedSectionVars false
variable [Mode]

section
variable {P : Program} {ρ : Rho} {H : List SO} {g : Fr} {w : World} {t : List SV} {a : Act} {ops : Array Oper} {Q : Exit → Act → World → Prop}

/-- The state behind an instruction. -/
def Nxt (P : Program) (ρ : Rho) (H : List SO) (g : Fr) (K : List SV → List SO → Prop) (a' : Act) (w' : World) : Prop :=
  ∃ ρ' t' H', At P ρ' H' g w' t' a' ∧ a'.defers = [] ∧ (∀ k, k < H.length → ρ' k = ρ k) ∧ H.length ≤ H'.length ∧ K t' H'

theorem Res.next {K : List SV → List SO → Prop} (h : At P ρ H g w t a) (hd : a.defers = []) {d : Option Nat} {v : Value} {w' : World} (hr : Res ρ H g (fun sv H' => K (put t d sv) H') v w') : Nxt P ρ H g K (a.put d v) w' := by
  obtain ⟨ρ', sv, H', rfl, hS, hρ, hl, hb, hk⟩ := hr
  refine ⟨ρ', put t d sv, H', ⟨(h.f.ext hρ h.b).put d sv, belowL_put (belowL_mono hl t h.b) d hb, hS⟩, ?_, hρ, hl, hk⟩
  cases d <;> exact hd

theorem wp_of_good {K : List SV → List SO → Prop} (h : At P ρ H g w t a) (hd : a.defers = []) {o : Oper}
    (hg : GoodRes P ρ H g (fun sv H' => K (put t o.dst sv) H') ((execOp a.eval o).run P w)) : o.wp P a w (Nxt P ρ H g K) Q := by
  unfold Oper.wp
  generalize (execOp a.eval o).run P w = r at *
  cases r with
  | halt x w' => simp [GoodRes] at hg
  | ok n w' =>
    cases n <;> simp only [GoodRes] at hg <;> simp only [Oper.upon]
    case value v => exact hg.next h hd
    case skip => exact hg.next h hd
    case enter f args =>
      refine Calls.mono hg ?_
      rintro e w'' ⟨v, rfl, hr⟩
      exact hr.next h hd

theorem yielded_val {t : List SV} (hf : Frm ρ t a) {j gd : Nat} (hj : (ops[j]?).bind (·.dst) = some gd) {b : Bool} (hv : val ρ (t.getD gd un) = .bool b) : yielded ops a.tmps j = some b := by
  have hlt : gd < t.length := by
    rcases Nat.lt_or_ge gd t.length with h | h
    · exact h
    · rw [List.getD_eq_getElem?_getD, List.getElem?_eq_none h] at hv
      simp [val] at hv
  have : a.tmps[gd]? = some (.bool b) := by
    rw [hf, ← hv]
    simp [valL_eq, List.getElem?_eq_getElem hlt]
  simp [yielded, hj, this]

theorem yielded_un {t : List SV} (hf : Frm ρ t a) {j gd : Nat} (hj : (ops[j]?).bind (·.dst) = some gd) {tv : Array Value} (hv : val ρ (t.getD gd un) = .tuple tv) : yielded ops a.tmps j = none := by
  rcases Nat.lt_or_ge gd t.length with hlt | hge
  · have : a.tmps[gd]? = some (.tuple tv) := by
      rw [hf, ← hv]
      simp [valL_eq, List.getElem?_eq_getElem hlt]
    simp [yielded, hj, this]
  · have : a.tmps[gd]? = none := by
      rw [hf]
      simp [valL_eq, hge]
    simp [yielded, hj, this]

theorem Frm.same {t : List SV} (hf : Frm ρ t a) {j : Nat} {v : SV} (hv : val ρ (t.getD j un) = val ρ v) : Frm ρ (t.set j v) a := by
  unfold Frm at *
  rw [hf]
  congr 1
  rw [valL_eq, valL_eq]
  apply List.ext_getElem?
  intro i
  by_cases hij : j = i
  · subst hij
    by_cases hlt : j < t.length
    · simp [hlt] at hv ⊢; exact hv
    · simp [hlt]
  · simp [List.getElem?_set_ne hij]

theorem cIns_spec {o : Oper} {x : VIns} (hc : cIns P ops o = some x) : cOp P o = some x.op ∧ x.dst = o.dst ∧
    ((o.guard = none ∧ x.guard = none) ∨ ∃ j gd want, o.guard = some (j, want) ∧ (ops[j]?).bind (·.dst) = some gd ∧ x.guard = some (gd, want)) := by
  unfold cIns at hc
  simp only [Option.bind_eq_bind, Option.bind_eq_some_iff] at hc
  obtain ⟨op, h1, hc⟩ := hc
  split at hc
  · rename_i hg
    simp at hc; subst hc
    exact ⟨h1, rfl, .inl ⟨hg, rfl⟩⟩
  · rename_i j want hg
    simp only [Option.bind_eq_some_iff, Option.pure_def, Option.some.injEq] at hc
    obtain ⟨gd, h2, rfl⟩ := hc
    exact ⟨h1, rfl, .inr ⟨j, gd, want, hg, Option.bind_eq_some_iff.2 h2, rfl⟩⟩

/-- An instruction's two ways: it is carried out, or its guard says no; the table may have learned what the guard is. -/
theorem vcIns_cases {o : Oper} {x : VIns} (hc : cIns P ops o = some x) {K : List SV → List SO → Prop} (h : At P ρ H g w t a) (hv : vcIns P x t H K) :
    ∃ t', At P ρ H g w t' a ∧
      ((Region.wanted o (yielded ops a.tmps) = true ∧ vcOp P x.op t' H (fun v H' => K (put t' o.dst v) H') ∧
          (x.guard = none ∨ ∃ gd want, x.guard = some (gd, want) ∧ t'.getD gd un = .kb want)) ∨
       (Region.wanted o (yielded ops a.tmps) = false ∧ K (put t' o.dst un) H)) := by
  obtain ⟨_, hdst, hg⟩ := cIns_spec hc
  unfold vcIns at hv
  rcases hg with ⟨g1, g2⟩ | ⟨j, gd, want, g1, g2, g3⟩
  · rw [g2] at hv
    simp only [putK_eq, hdst] at hv
    exact ⟨t, h, .inl ⟨by simp [Region.wanted, g1], hv, .inl g2⟩⟩
  · rw [g3] at hv
    simp only [getK_eq] at hv
    have hw : ∀ b, val ρ (t.getD gd un) = .bool b → Region.wanted o (yielded ops a.tmps) = (b == want) := by
      intro b hb
      simp only [Region.wanted, g1, yielded_val h.f g2 hb]
      cases b <;> cases want <;> rfl
    have hset : ∀ b : Bool, val ρ (t.getD gd un) = .bool b → At P ρ H g w (t.set gd (.kb b)) a := fun b hb =>
      ⟨h.f.same (by rw [hb]; rfl), belowL_set h.b gd rfl, h.s⟩
    have hget : ∀ b : Bool, val ρ (t.getD gd un) = .bool b → (t.set gd (.kb b)).getD gd un = .kb b := by
      intro b hb
      have hlt : gd < t.length := by
        rcases Nat.lt_or_ge gd t.length with h | h
        · exact h
        · rw [List.getD_eq_getElem?_getD, List.getElem?_eq_none h] at hb
          simp [val] at hb
      simp [hlt]
    split at hv
    · rename_i b e
      have hb : val ρ (t.getD gd un) = .bool b := by rw [e]; rfl
      have := hw b hb
      cases hbw : b == want with
      | true =>
        simp only [hbw, cond_true, putK_eq, hdst] at hv
        exact ⟨t, h, .inl ⟨by rw [this, hbw], hv, .inr ⟨gd, want, g3, by rw [e]; simp at hbw; rw [hbw]⟩⟩⟩
      | false =>
        simp only [hbw, cond_false, putK_eq, hdst] at hv
        exact ⟨t, h, .inr ⟨by rw [this, hbw], hv⟩⟩
    · rename_i b e
      have hb : val ρ (t.getD gd un) = .bool b := by rw [e]; rfl
      have hwb := hw b hb
      simp only [setK_eq, putK_eq, hdst] at hv
      by_cases hbw : b = want
      · subst hbw
        exact ⟨t.set gd (.kb b), hset b hb, .inl ⟨by rw [hwb]; simp, hv.1 rfl, .inr ⟨gd, b, g3, hget b hb⟩⟩⟩
      · have hbw' : b = !want := by cases b <;> cases want <;> simp_all
        have h2 : K (put (t.set gd (.kb b)) o.dst un) H := by
          have := hv.2 hbw'
          subst hbw'; cases want <;> exact this
        exact ⟨t.set gd (.kb b), hset b hb, .inr ⟨by rw [hwb]; simp [hbw], h2⟩⟩
    · rename_i tv e
      simp only [putK_eq, hdst] at hv
      refine ⟨t, h, .inr ⟨?_, hv⟩⟩
      simp only [Region.wanted, g1, yielded_un h.f g2 (by rw [e]; rfl : V.val ρ (t.getD gd un) = .tuple tv)]
      rfl
    · exact hv.elim

theorem Nxt.here {K : List SV → List SO → Prop} (h : At P ρ H g w t a) (hd : a.defers = []) (d : Option Nat) {sv : SV} (hb : below H.length sv = true) (hk : K (put t d sv) H) : Nxt P ρ H g K (a.put d (val ρ sv)) w :=
  (Res.here (K := fun sv H' => K (put t d sv) H') h.s hb hk).next h hd

theorem vcIns_sound {i : Nat} {o : Oper} {x : VIns} (hi : ops[i]? = some o) (hc : cIns P ops o = some x) {K : List SV → List SO → Prop} (h : At P ρ H g w t a) (hd : a.defers = [])
    (hv : vcIns P x t H K) : wpOp P ops Q i (Nxt P ρ H g K) a w := by
  obtain ⟨t', h', h1 | h1⟩ := vcIns_cases hc h hv
  · obtain ⟨hw, hop, _⟩ := h1
    unfold wpOp
    simp only [hi, hw, if_true]
    exact .inl (wp_of_good h' hd (vcOp_sound h' (cIns_spec hc).1 hop).1)
  · obtain ⟨hw, hk⟩ := h1
    unfold wpOp
    simp only [hi, hw]
    exact Nxt.here h' hd o.dst (sv := un) rfl hk

theorem Nxt.mono {K K' : List SV → List SO → Prop} (hK : ∀ t H', K t H' → K' t H') {a' : Act} {w' : World} (h : Nxt P ρ H g K a' w') : Nxt P ρ H g K' a' w' := by
  obtain ⟨ρ', t', H', h1, h2, h3, h4, h5⟩ := h
  exact ⟨ρ', t', H', h1, h2, h3, h4, hK _ _ h5⟩

theorem vcReg_sound {Q' : List SV → List SO → Prop} (hQ : ∀ a w, Nxt P ρ H g Q' a w → Q .normal a w) : ∀ (l : List VIns) (k : Nat), (∀ j : Nat, (ops.toList.drop k)[j]?.bind (cIns P ops) = l[j]?) → k + l.length = ops.size →
    ∀ {ρ1 : Rho} {H1 : List SO} {w1 : World} {t1 : List SV} {a1 : Act}, At P ρ1 H1 g w1 t1 a1 → a1.defers = [] → (∀ k, k < H.length → ρ1 k = ρ k) → H.length ≤ H1.length →
    vcReg P l t1 H1 Q' → wpOps P ops Q (List.range' k l.length) a1 w1
  | [], k, _, _, ρ1, H1, w1, t1, a1, h, hd, hρ, hl, hv => by
    simp only [List.length_nil, List.range', wpOps]
    exact hQ _ _ ⟨ρ1, t1, H1, h, hd, hρ, hl, hv⟩
  | x :: l, k, hc, hn, ρ1, H1, w1, t1, a1, h, hd, hρ, hl, hv => by
    have h0 := hc 0
    simp only [List.getElem?_cons_zero, List.getElem?_drop, Nat.add_zero] at h0
    cases ho : ops[k]? with
    | none => simp [ho] at h0
    | some o =>
      simp [ho] at h0
      simp only [List.length_cons, List.range', wpOps_cons]
      rw [vcReg_cons] at hv
      refine wpOp_mono ?_ (vcIns_sound ho h0 h hd hv)
      rintro a' w' ⟨ρ', t', H', h1, h2, h3, h4, h5⟩
      refine vcReg_sound hQ l (k + 1) (fun j => ?_) (by simp at hn; omega) h1 h2 (fun k hk => (h3 k (by omega)).trans (hρ k hk)) (by omega) h5
      have := hc (j + 1)
      simp only [List.getElem?_drop, List.getElem?_cons_succ] at this ⊢
      rw [← this]; congr 2; omega

theorem mapM_get {α β : Type} {f : α → Option β} : ∀ {l : List α} {m : List β}, l.mapM f = some m → m.length = l.length ∧ ∀ (j : Nat), (l[j]?).bind f = m[j]?
  | [], m, h => by simp at h; subst h; exact ⟨rfl, by simp⟩
  | x :: l, m, h => by
    simp [List.mapM_cons, Option.bind_eq_some_iff] at h
    obtain ⟨y, hy, m', hm, rfl⟩ := h
    obtain ⟨h1, h2⟩ := mapM_get hm
    refine ⟨by simp [h1], fun j => ?_⟩
    cases j with
    | zero => simp [hy]
    | succ j => simpa using h2 j

theorem vcReg_region {id : Nat} {l : List VIns} (hc : ops.toList.mapM (cIns P ops) = some l) {Q' : List SV → List SO → Prop} (hQ : ∀ a w, Nxt P ρ H g Q' a w → Q .normal a w)
    (h : At P ρ H g w t a) (hd : a.defers = []) (hv : vcReg P l t H Q') : (Code.region id ops false).wp P Q a w := by
  obtain ⟨h1, h2⟩ := mapM_get hc
  refine wp_region ?_
  have := vcReg_sound (ops := ops) (Q := Q) hQ l 0 (by simpa using h2) (by simpa using h1) h hd (fun _ _ => rfl) (Nat.le_refl _) hv
  rw [List.range_eq_range', ← Array.length_toList, ← h1]
  exact this
end
end Go.V

namespace Go.V
open Go
set_option linter.unusedSectionVars false
variable [Mode]

/-! ### Blind operations answer alike in every world -/
section
variable {P : Program} {H : List SO} {t : List SV} {K : SV → Prop}

def Det (A : (SV → Prop) → Prop) : Prop := ∀ K : SV → Prop, A K → ∃ sv, K sv ∧ A (fun v => v = sv)

theorem det_pick (c a b : SV) : Det (vcPick c a b) := by
  intro K
  unfold vcPick
  split
  · exact fun h => ⟨_, h, rfl⟩
  · exact fun h => ⟨_, h, rfl⟩
  · rename_i p
    split
    · exact fun h => ⟨_, h, rfl⟩
    · intro h
      cases p
      · exact ⟨_, h.2 rfl, by simp⟩
      · exact ⟨_, h.1 rfl, by simp⟩
  · exact fun h => h.elim

theorem det_un (op : UnOp) (v : SV) : Det (vcUn op v) := by
  intro K
  unfold vcUn
  split
  all_goals first
    | exact fun h => h.elim
    | exact fun h => ⟨_, h, rfl⟩
    | exact fun ⟨c, h1, h2⟩ => ⟨_, h2, c, h1, rfl⟩

theorem det_field (off : Nat) (n : Option Nat) (v : SV) : Det (vcField off n v) := by
  intro K
  unfold vcField
  split
  · split
    · split
      · exact fun h => ⟨_, h, rfl⟩
      · exact fun h => h.elim
    · split
      · exact fun h => ⟨_, h, rfl⟩
      · exact fun h => h.elim
  · exact fun h => h.elim

theorem det_slice (sz : Option Nat) (v : SV) (lo hi : Option SV) : Det (vcSlice sz v lo hi) := by
  intro K
  unfold vcSlice
  split
  · split
    all_goals first
      | exact fun h => h.elim
      | exact fun h => ⟨_, h, rfl⟩
      | exact fun h => ⟨_, h.2, h.1, rfl⟩
  · split
    all_goals first
      | exact fun h => h.elim
      | exact fun h => ⟨_, h, rfl⟩
      | exact fun h => ⟨_, h.2, h.1, rfl⟩
      | exact fun ⟨h1, o', h2, h3⟩ => ⟨_, h3, h1, o', h2, rfl⟩
  · split
    all_goals first
      | exact fun h => h.elim
      | exact fun h => ⟨_, h, rfl⟩
      | exact fun h => ⟨_, h.2, h.1, rfl⟩
      | exact fun ⟨h1, o', h2, h3⟩ => ⟨_, h3, h1, o', h2, rfl⟩
  · exact fun h => h.elim

theorem det_tassert (ty : TypeId) (ok : Bool) (z : Value) (v : SV) : Det (vcTassert ty ok z v) := by
  intro K
  unfold vcTassert
  split
  · rename_i u v
    cases h1 : u == ty
    · cases ok
      · exact fun h => h.elim
      · exact fun h => ⟨_, h, rfl⟩
    · cases ok
      · exact fun h => ⟨_, h, rfl⟩
      · exact fun h => ⟨_, h, rfl⟩
  · rename_i u v
    cases h1 : u == ty
    · cases ok
      · exact fun h => h.elim
      · exact fun h => ⟨_, h, rfl⟩
    · cases ok
      · exact fun h => ⟨_, h, rfl⟩
      · exact fun h => ⟨_, h, rfl⟩
  · cases ok
    · exact fun h => h.elim
    · exact fun h => ⟨_, h, rfl⟩
  · exact fun h => h.elim

theorem det_eq (op : BinOp) (b : Bool) : Det (vcEq op b) := by
  intro K
  unfold vcEq
  split
  all_goals first
    | exact fun h => h.elim
    | exact fun h => ⟨_, h, rfl⟩
theorem det_eqB (op : BinOp) (b : Bool) : Det (vcEqB op b) := by
  intro K
  unfold vcEqB
  split
  all_goals first
    | exact fun h => h.elim
    | exact fun h => ⟨_, h, rfl⟩
theorem det_int (op : BinOp) (k : IntKind) (a b : Int) : Det (vcInt op k a b) := by
  intro K
  unfold vcInt
  split
  all_goals first
    | exact fun h => h.elim
    | exact fun h => ⟨_, h, rfl⟩
    | exact fun ⟨c, h1, h2⟩ => ⟨_, h2, c, h1, rfl⟩
    | exact fun ⟨h0, c, h1, h2⟩ => ⟨_, h2, h0, c, h1, rfl⟩
theorem det_bin (op : BinOp) (k : BK) (x y : SV) (hk : k ≠ .sl ∧ k ≠ .mp) : Det (fun K => vcBin op k x y H K) := by
  intro K
  simp only
  unfold vcBin
  cases k with
  | sl => exact absurd rfl hk.1
  | mp => exact absurd rfl hk.2
  | no =>
    simp only
    split
    · rename_i k a k' b
      split
      · exact fun ⟨h0, c, h1, h2⟩ => ⟨_, h2, h0, c, h1, rfl⟩
      · exact fun ⟨h0, c, h1, h2⟩ => ⟨_, h2, h0, c, h1, rfl⟩
      · by_cases hkk : k = k'
        · simp only [hkk, if_true]; exact det_int _ _ _ _ K
        · simp only [hkk, if_false]; exact fun h => h.elim
    · split
      all_goals first
        | exact fun h => h.elim
        | exact fun h => ⟨_, h, rfl⟩
        | exact fun h => ⟨_, h.2, h.1, rfl⟩
    · exact fun h => h.elim
  | b =>
    simp only
    split
    · exact det_eqB _ _ K
    · exact fun h => h.elim
  | p =>
    simp only
    split
    · exact det_eq _ _ K
    · exact det_eq _ _ K
    · exact det_eq _ _ K
    · rename_i k o k' o'
      cases hk : k == k'
      · exact fun h => h.elim
      · exact det_eq _ _ K
    · exact det_eq _ _ K
    · exact det_eq _ _ K
    · exact fun h => h.elim
  | agg cl =>
    simp only
    split
    · split
      · exact det_eqB _ _ K
      · exact fun h => h.elim
    · exact fun h => h.elim
  | ifn =>
    simp only
    split
    all_goals first
      | exact fun h => h.elim
      | exact det_eq _ _ K

theorem vcBin_any (op : BinOp) (k : BK) (x y : SV) (hk : k ≠ .sl ∧ k ≠ .mp) (H2 : List SO) : vcBin op k x y H K = vcBin op k x y H2 K := by
  cases k <;> first | rfl | exact absurd rfl hk.1 | exact absurd rfl hk.2

theorem blind_det {op : VOp} (hb : blind op = true) (hv : vcOp P op t H (fun v _ => K v)) : ∃ sv, K sv ∧ ∀ H2, vcOp P op t H2 (fun v _ => v = sv) := by
  cases op with
  | mov x => simp only [vcOp, evK_eq] at *; exact ⟨_, hv, fun _ => rfl⟩
  | pick c a b => simp only [vcOp, evK_eq] at *; obtain ⟨sv, h1, h2⟩ := det_pick _ _ _ K hv; exact ⟨sv, h1, fun _ => h2⟩
  | bin op k x y =>
    simp only [vcOp, evK_eq] at *
    have hk : k ≠ .sl ∧ k ≠ .mp := ⟨fun e => (by subst e; cases hb), fun e => (by subst e; cases hb)⟩
    obtain ⟨sv, h1, h2⟩ := det_bin op k _ _ hk K hv
    exact ⟨sv, h1, fun H2 => by rw [← vcBin_any op k _ _ hk]; exact h2⟩
  | un op x => simp only [vcOp, evK_eq] at *; obtain ⟨sv, h1, h2⟩ := det_un _ _ K hv; exact ⟨sv, h1, fun _ => h2⟩
  | conv c x =>
    simp only [vcOp, evK_eq] at *
    revert hv hb
    generalize ev t x = v
    unfold vcConv
    split
    · exact fun _ ⟨m, h1, h2⟩ => ⟨_, h2, fun _ => ⟨m, h1, rfl⟩⟩
    · exact fun _ h => ⟨_, h, fun _ => rfl⟩
    all_goals intro hb; first | cases hb; done | exact fun h => h.elim
  | mkif ty x => simp only [vcOp, evK_eq] at *; exact ⟨_, hv, fun _ => rfl⟩
  | mkfn f caps => simp only [vcOp, evLK_eq] at *; exact ⟨_, hv, fun _ => rfl⟩
  | slice sz x lo hi => simp only [vcOp, evK_eq, optK_eq] at *; obtain ⟨sv, h1, h2⟩ := det_slice _ _ _ _ K hv; exact ⟨sv, h1, fun _ => h2⟩
  | faddr off x =>
    simp only [vcOp, evK_eq] at *
    revert hv
    generalize ev t x = v
    split
    · exact fun h => ⟨_, h, fun _ => rfl⟩
    · exact fun h => ⟨_, h, fun _ => rfl⟩
    · exact fun h => ⟨_, h, fun _ => rfl⟩
    · exact fun h => h.elim
  | field off n x => simp only [vcOp, evK_eq] at *; obtain ⟨sv, h1, h2⟩ := det_field _ _ _ K hv; exact ⟨sv, h1, fun _ => h2⟩
  | sindex x i =>
    simp only [vcOp, evK_eq] at *
    revert hv
    generalize ev t x = v
    generalize ev t i = iv
    split
    · exact fun ⟨b, h1, h2⟩ => ⟨_, h2, fun _ => ⟨b, h1, rfl⟩⟩
    · exact fun h => h.elim
  | extr x i =>
    simp only [vcOp, evK_eq] at *
    revert hv
    generalize ev t x = v
    split
    · split
      · exact fun h => ⟨_, h, fun _ => rfl⟩
      · exact fun h => h.elim
    · exact fun h => h.elim
  | cap x =>
    simp only [vcOp, evK_eq] at *
    revert hv
    generalize ev t x = v
    split
    · exact fun h => ⟨_, h, fun _ => rfl⟩
    · exact fun h => ⟨_, h, fun _ => rfl⟩
    · exact fun h => h.elim
  | min x y =>
    simp only [vcOp, evK_eq] at *
    revert hv
    generalize ev t x = v
    generalize ev t y = v'
    split
    · exact fun h => ⟨_, h, fun _ => rfl⟩
    · exact fun h => h.elim
  | max x y =>
    simp only [vcOp, evK_eq] at *
    revert hv
    generalize ev t x = v
    generalize ev t y = v'
    split
    · exact fun h => ⟨_, h, fun _ => rfl⟩
    · exact fun h => h.elim
  | tassert ty ok z x => simp only [vcOp, evK_eq] at *; obtain ⟨sv, h1, h2⟩ := det_tassert _ _ _ _ K hv; exact ⟨sv, h1, fun _ => h2⟩
  | len k x =>
    simp only [vcOp, evK_eq] at *
    revert hv hb
    generalize ev t x = v
    unfold vcLen
    split
    · exact fun _ h => ⟨_, h, fun _ => rfl⟩
    · exact fun _ h => ⟨_, h, fun _ => rfl⟩
    · exact fun _ h => ⟨_, h, fun _ => rfl⟩
    all_goals intro hb; first | cases hb; done | exact fun h => h.elim
  | _ => simp [blind] at hb

theorem blind_still {op : VOp} (h : blind op = true) : still op = true := by
  cases op <;> first | rfl | (simp [blind] at h; done) | skip
  rename_i c x
  cases c <;> simp [blind] at h <;> rfl

/-! ### A state of which nothing is known -/
theorem gones_get (n k : Nat) (s : SO) (h : (List.replicate n SO.gone)[k]? = some s) : s = .gone := by
  have := List.mem_of_getElem? h
  exact (List.mem_replicate.1 this).2
def noFrame [Mode] (w : World) : Fr := ⟨fun _ => none, w.os, w.tape, w.output, Mode.dr w⟩
theorem St.blank (ρ : Rho) (n : Nat) (w : World) : St ρ (List.replicate n .gone) (noFrame w) w := by
  constructor
  · intro k so hk; rw [gones_get _ _ _ hk]; trivial
  · intro i j si sj b _ hi _ ho; rw [gones_get _ _ _ hi] at ho; cases ho
  · intro i j si h b hi ho; rw [gones_get _ _ _ hi] at ho; cases ho
  · exact ⟨rfl, rfl, rfl, Mode.dr_le w, Mode.dr_lax w⟩
  · intro b o h; cases h
  · intro i si b hi ho; rw [gones_get _ _ _ hi] at ho; cases ho
  · intro k l e hk; have := gones_get _ _ _ hk; cases this
  · intro k m s seen st hk; have := gones_get _ _ _ hk; cases this
  · intro j gh b hj; have := gones_get _ _ _ hj; cases this
  · intro j i gh b si hj; have := gones_get _ _ _ hj; cases this
  · intro j i gh b si hj; have := gones_get _ _ _ hj; cases this
end
end Go.V

namespace Go.V
open Go
set_option linter.unusedSectionVars false
variable [Mode]

section
variable {P : Program} {ρ0 : Rho} {H0 : List SO} {g : Fr} {ops : Array Oper} {Q : Exit → Act → World → Prop}

theorem inK_spec : ∀ {t : List SV} {d : Nat} {K : Prop}, inK t d K → d < t.length ∧ K
  | [], _, _, h => h.elim
  | _ :: _, 0, _, h => ⟨by simp, h⟩
  | _ :: l, d + 1, _, h => by
    obtain ⟨h1, h2⟩ := inK_spec (t := l) (d := d) h
    exact ⟨by simp; exact h1, h2⟩
theorem again_spec {pc : List (Nat × (List SO → Prop))} {H : List SO} {K : Prop} : ∀ {rs : List Nat}, again pc H K rs → K ∧ ∀ r ∈ rs, ∃ p, pc.find? (·.1 == r) = some p ∧ p.2 H
  | [], h => ⟨h, by simp⟩
  | r :: rs, h => by
    simp only [again] at h
    split at h
    · rename_i p hp
      obtain ⟨h1, h2⟩ := again_spec h.2
      refine ⟨h1, fun x hx => ?_⟩
      rcases List.mem_cons.1 hx with rfl | hx
      · exact ⟨p, hp, h.1⟩
      · exact h2 x hx
    · exact h.elim
theorem covers_depth : ∀ {p : Pl} {j : Nat}, covers p j = true → 1 ≤ p.depth
  | .done, _, h => by simp [covers] at h
  | .fl _ _, _, h => by simp [covers] at h
  | .fr _ _, _, h => by simp [covers] at h
  | .st _ _ p, _, _ => by simp [Pl.depth]
  | .br p q, j, h => by
    simp only [covers, Bool.or_eq_true] at h
    simp only [Pl.depth]
    rcases h with h | h
    · have := covers_depth h; exact Nat.le_trans this (Nat.le_max_left _ _)
    · have := covers_depth h; exact Nat.le_trans this (Nat.le_max_right _ _)

theorem frm_len {ρ : Rho} {t : List SV} {a : Act} (h : Frm ρ t a) : t.length = a.tmps.size := by
  rw [h]; simp [valL_eq]

/-- What the words for those taken early stand for. -/
def PendOK (g : Fr) (pd : List Nat) (L : Array Bool) (pc : List (Nat × (List SO → Prop))) (pend : Pend) (ρ : Rho) (H : List SO) : Prop :=
  ∀ k S, pend k S → k ∈ pd ∧ L.getD k true = true ∧ ∃ c, pc.find? (·.1 == k) = some c ∧
    ∀ (ρ' : Rho) (H' : List SO) w', St ρ' H' g w' → (∀ j, j < H.length → ρ' j = ρ j) → H.length ≤ H'.length → c.2 H' → S w'

theorem vcDraw_sound {l : List VIns} (hc : ops.toList.mapM (cIns P ops) = some l) (hns : Region.noSelect ops = true) (hQp : ∀ c a w, ¬ Q (.panic c) a w)
    {Q' : List SV → List SO → Prop} (hQ : ∀ a w, Nxt P ρ0 H0 g Q' a w → Q .normal a w) :
    ∀ (p : Pl) (br : Bool) (L : Array Bool) (pd : List Nat) (pc : List (Nat × (List SO → Prop))) (pend : Pend) (ρ : Rho) (H : List SO) (w : World) (t : List SV) (a : Act),
      planOK ops l br p L pd = true → Closed .any ops L → At P ρ H g w t a → a.defers = [] → (∀ k, k < H0.length → ρ k = ρ0 k) → H0.length ≤ H.length →
      PendOK g pd L pc pend ρ H → pend.ok w → vcDraw P l p pc t H Q' →
      (br = false → ∀ fuel, p.depth ≤ fuel → wpAnyR P .any ops Q fuel pend L a w) ∧
      (∀ j, covers p j = true → j ∈ Region.ready .any ops L → ∀ fuel, p.depth ≤ fuel + 1 →
        wpOp P ops Q j (fun a' w' => (pend.after .any ops j).ok w' ∧ wpAnyR P .any ops Q fuel (pend.after .any ops j) (L.setIfInBounds j true) a' w') a w) := by
  obtain ⟨_, hget⟩ := mapM_get hc
  have hops : ∀ {i : Nat} {x : VIns}, l[i]? = some x → ∃ o, ops[i]? = some o ∧ cIns P ops o = some x := by
    intro i x hx
    have := hget i
    rw [hx] at this
    obtain ⟨o, h1, h2⟩ := Option.bind_eq_some_iff.1 this
    exact ⟨o, by simpa using h1, h2⟩
  intro p
  induction p with
  | done =>
    intro br L pd pc pend ρ H w t a hp hcl h hd hρ hl hpd hpo hv
    refine ⟨fun hbr fuel _ => ?_, fun j hj => by simp [covers] at hj⟩
    subst hbr
    simp only [planOK, Bool.not_false, Bool.true_and, List.isEmpty_iff] at hp
    exact wpAnyR_done hp (hQ a w ⟨ρ, t, H, h, hd, hρ, hl, hv⟩) fuel
  | fl i p ih =>
    intro br L pd pc pend ρ H w t a hp hcl h hd hρ hl hpd hpo hv
    refine ⟨fun hbr fuel hf => ?_, fun j hj => by simp [covers] at hj⟩
    subst hbr
    simp only [planOK, Bool.not_false, Bool.true_and, Bool.and_eq_true] at hp
    obtain ⟨⟨⟨h1, h2⟩, h3⟩, h4⟩ := hp
    rw [vcDraw_fl] at hv
    split at hv
    · exact hv.elim
    rename_i x hx
    rw [hx] at h3
    obtain ⟨o, ho, hco⟩ := hops hx
    obtain ⟨fuel, rfl⟩ : ∃ f, fuel = f + 1 := ⟨fuel - 1, by simp only [Pl.depth] at hf; omega⟩
    have hr : i ∈ Region.ready .any ops L := by simpa using h1
    obtain ⟨t1, hA, hcase⟩ := vcIns_cases hco h hv
    have key : ∀ sv, below H.length sv = true → vcDraw P l p pc (put t1 o.dst sv) H Q' → Yields P ops o (val ρ sv) a → wpAnyR P .any ops Q (fuel + 1) pend L a w := by
      intro sv hb hvd hy
      refine wpAnyR_first (S := fun _ => True) ho (Region.noSelect_spec hns) hQp fuel pend L a w hcl (Region.free_spec ho h2) hr hy.yieldsIf trivial hpo ?_
      have := (ih false (L.setIfInBounds i true) pd pc pend ρ H w (put t1 o.dst sv) (a.put o.dst (val ρ sv)) h4 (hcl.set hr) ⟨hA.f.put o.dst sv, belowL_put hA.b o.dst hb, hA.s⟩
        (by cases o.dst <;> exact hd) hρ hl ?_ hpo hvd).1 rfl fuel (by simp only [Pl.depth] at hf; omega)
      · refine wpAnyR_weaken fuel _ _ _ _ _ ?_ this
        rintro k T (hk | ⟨_, rfl⟩)
        · exact .inl hk
        · exact .inr fun _ => trivial
      · intro k S hk
        obtain ⟨e1, e2, e3⟩ := hpd k S hk
        exact ⟨e1, by
          by_cases hik : i = k
          · subst hik; have := (mem_ready.1 hr).1; rw [e2] at this; cases this
          · rw [getD_set_ne true hik]; exact e2, e3⟩
    rcases hcase with ⟨hw, hop, _⟩ | ⟨hw, hk⟩
    · obtain ⟨sv, hk, hall⟩ := blind_det h3 hop
      have hat : ∀ w', At P ρ (List.replicate H.length .gone) (noFrame w') w' t1 a := fun w' => ⟨hA.f, by rw [List.length_replicate]; exact hA.b, St.blank ρ _ w'⟩
      have hrun : ∀ w', below H.length sv = true ∧ (execOp a.eval o).run P w' = .ok (.value (val ρ sv)) w' := by
        intro w'
        obtain ⟨v, e1, sv', rfl, e2, rfl⟩ := (vcOp_sound (hat w') (cIns_spec hco).1 (hall _)).2 (blind_still h3)
        exact ⟨by rw [List.length_replicate] at e2; exact e2, e1⟩
      exact key sv (hrun w).1 hk (.inl ⟨hw, fun w' => (hrun w').2⟩)
    · exact key un rfl hk (.inr ⟨hw, rfl⟩)
  | fr i p ih =>
    intro br L pd pc pend ρ H w t a hp hcl h hd hρ hl hpd hpo hv
    refine ⟨fun hbr fuel hf => ?_, fun j hj => by simp [covers] at hj⟩
    subst hbr
    simp only [planOK, Bool.not_false, Bool.true_and, Bool.and_eq_true] at hp
    obtain ⟨⟨⟨⟨h1, h2⟩, h3⟩, h5⟩, h4⟩ := hp
    simp only [vcDraw] at hv
    split at hv
    · exact hv.elim
    rename_i x hx
    rw [hx] at h3
    obtain ⟨o, ho, hco⟩ := hops hx
    rw [ho] at h5
    split at hv
    · exact hv.elim
    rename_i d hxd
    have hod : o.dst = some d := by rw [← (cIns_spec hco).2.1, hxd]
    simp only [hod, Bool.not_eq_true', List.contains_eq_mem, decide_eq_false_iff_not] at h5
    obtain ⟨fuel, rfl⟩ : ∃ f, fuel = f + 1 := ⟨fuel - 1, by simp only [Pl.depth] at hf; omega⟩
    have hr : i ∈ Region.ready .any ops L := by simpa using h1
    obtain ⟨t1, hA, hcase⟩ := vcIns_cases hco h hv
    have key : ∀ (sv : SV) (S : World → Prop), below H.length sv = true →
        inK (put t1 o.dst sv) d (vcDraw P l p ((i, fun H' => vcIns P x (put t1 o.dst sv) H' fun t'' _ => ev t'' (.t d) = ev (put t1 o.dst sv) (.t d)) :: pc) (put t1 o.dst sv) H Q') →
        YieldsIf P ops S o (val ρ sv) a → S w →
        (∀ (ρ' : Rho) (H' : List SO) w', d < (put t1 o.dst sv).length → St ρ' H' g w' → (∀ j, j < H.length → ρ' j = ρ j) → H.length ≤ H'.length →
          (vcIns P x (put t1 o.dst sv) H' fun t'' _ => ev t'' (.t d) = ev (put t1 o.dst sv) (.t d)) → S w') →
        wpAnyR P .any ops Q (fuel + 1) pend L a w := by
      intro sv S hb hin hy hS hcl2
      obtain ⟨hdl, hvd⟩ := inK_spec hin
      refine wpAnyR_first (S := S) ho (Region.noSelect_spec hns) hQp fuel pend L a w hcl (Region.free_spec ho h2) hr hy hS hpo ?_
      refine (ih false (L.setIfInBounds i true) (i :: pd) _ (pend.with i S) ρ H w (put t1 o.dst sv) (a.put o.dst (val ρ sv)) h4 (hcl.set hr) ⟨hA.f.put o.dst sv, belowL_put hA.b o.dst hb, hA.s⟩
        (by cases o.dst <;> exact hd) hρ hl ?_ ?_ hvd).1 rfl fuel (by simp only [Pl.depth] at hf; omega)
      · rintro k T (hk | ⟨rfl, rfl⟩)
        · obtain ⟨e1, e2, c, e3, e4⟩ := hpd k T hk
          have hik : i ≠ k := by
            rintro rfl
            have := (mem_ready.1 hr).1; rw [e2] at this; cases this
          refine ⟨by simp [e1], by rw [getD_set_ne true hik]; exact e2, c, ?_, e4⟩
          rw [List.find?_cons_of_neg (by simpa using hik)]
          exact e3
        · refine ⟨by simp, ?_, _, List.find?_cons_of_pos (by simp), fun ρ' H' w' a1 a2 a3 a4 => hcl2 ρ' H' w' hdl a1 a2 a3 a4⟩
          have := (listed_lt (mem_ready.1 hr).1).1
          simp [this]
      · rintro k T (hk | ⟨rfl, rfl⟩)
        · exact hpo k T hk
        · exact hS
    rcases hcase with ⟨hw, hop, _⟩ | ⟨hw, hk⟩
    · obtain ⟨v, e1, sv, rfl, e2, e3⟩ := (vcOp_sound hA (cIns_spec hco).1 hop).2 h3
      refine key sv (fun w' => (execOp a.eval o).run P w' = .ok (.value (val ρ sv)) w') e2 e3 (.inl ⟨hw, fun _ h => h⟩) e1 ?_
      intro ρ' H' w' hdl hS' hρ' hl' hcc
      rw [hod] at hdl hcc
      have hA' : At P ρ' H' g w' (put t1 (some d) sv) (a.put (some d) (val ρ sv)) :=
        ⟨(hA.f.put (some d) sv).ext hρ' (belowL_put hA.b (some d) e2), belowL_mono hl' _ (belowL_put hA.b (some d) e2), hS'⟩
      have hlook : ∀ d', some d = some d' → d' ∉ o.looksAt ops := fun d' e => by cases e; exact h5
      obtain ⟨t2, hA2, hc2⟩ := vcIns_cases hco hA' hcc
      rw [wanted_put o a (some d) _ hlook, hw] at hc2
      rcases hc2 with ⟨_, hop2, _⟩ | ⟨hf2, _⟩
      · obtain ⟨v2, f1, sv2, rfl, f2, f3⟩ := (vcOp_sound hA2 (cIns_spec hco).1 hop2).2 h3
        rw [execOp_put o (fun cs b => Region.noSelect_spec hns i o cs b ho) a (some d) _ hlook] at f1
        have hlen : t2.length = (put t1 (some d) sv).length := by rw [frm_len hA2.f, frm_len hA'.f]
        have g1 : ev (put t2 o.dst sv2) (.t d) = sv2 := by
          simp only [hod, ev, put]
          have : d < t2.length := by omega
          simp [this]
        have g2 : ev (put t1 (some d) sv) (.t d) = sv := by
          simp only [ev, put]
          have : d < t1.length := by simpa [put] using hdl
          simp [this]
        rw [g1, g2] at f3
        subst f3
        rw [f1, val_congr hρ' sv2 e2]
      · cases hf2
    · exact key un (fun _ => True) rfl hk (.inr ⟨hw, rfl⟩) trivial (fun _ _ _ _ _ _ _ _ => trivial)
  | st i rs p ih =>
    intro br L pd pc pend ρ H w t a hp hcl h hd hρ hl hpd hpo hv
    simp only [planOK, Bool.and_eq_true] at hp
    obtain ⟨⟨h1, h2⟩, h4⟩ := hp
    rw [vcDraw_st] at hv
    split at hv
    · exact hv.elim
    rename_i x hx
    obtain ⟨o, ho, hco⟩ := hops hx
    have step : i ∈ Region.ready .any ops L → ∀ fuel, p.depth ≤ fuel →
        wpOp P ops Q i (fun a' w' => (pend.after .any ops i).ok w' ∧ wpAnyR P .any ops Q fuel (pend.after .any ops i) (L.setIfInBounds i true) a' w') a w := by
      intro hr fuel hf
      refine wpOp_mono ?_ (vcIns_sound ho hco h hd hv)
      rintro a' w' ⟨ρ', t', H', e1, e2, e3, e4, e5⟩
      obtain ⟨hvd, hag⟩ := again_spec e5
      have hok : (pend.after .any ops i).ok w' := by
        rintro k S ⟨hk, hk2⟩
        obtain ⟨d1, d2, c, d3, d4⟩ := hpd k S hk
        have := List.all_eq_true.1 h2 k d1
        simp only [Bool.or_eq_true, hk2, Bool.false_eq_true, or_false] at this
        obtain ⟨c', d5, d6⟩ := hag k (by simpa using this)
        rw [d3] at d5
        cases d5
        exact d4 ρ' H' w' e1.s e3 e4 d6
      refine ⟨hok, (ih false (L.setIfInBounds i true) _ pc _ ρ' H' w' t' a' h4 (hcl.set hr) e1 e2 (fun k hk => (e3 k (by omega)).trans (hρ k hk)) (by omega) ?_ hok hvd).1 rfl fuel hf⟩
      rintro k S ⟨hk, hk2⟩
      obtain ⟨d1, d2, c, d3, d4⟩ := hpd k S hk
      have hik : i ≠ k := by
        rintro rfl
        have := (mem_ready.1 hr).1; rw [d2] at this; cases this
      refine ⟨List.mem_filter.2 ⟨d1, by rw [hk2]; rfl⟩, by rw [getD_set_ne true hik]; exact d2, c, d3, ?_⟩
      intro ρ2 H2 w2 q1 q2 q3 q4
      exact d4 ρ2 H2 w2 q1 (fun j hj => (q2 j (by omega)).trans (e3 j hj)) (by omega) q4
    refine ⟨fun hbr fuel hf => ?_, fun j hj hr fuel hf => ?_⟩
    · subst hbr
      simp only [Bool.false_or, beq_iff_eq] at h1
      obtain ⟨fuel, rfl⟩ : ∃ f, fuel = f + 1 := ⟨fuel - 1, by simp only [Pl.depth] at hf; omega⟩
      refine ⟨fun h0 => (by rw [h0] at h1; cases h1), fun j hj => ?_⟩
      rw [h1] at hj
      obtain rfl : j = i := by simpa using hj
      exact step (by rw [h1]; simp) fuel (by simp only [Pl.depth] at hf; omega)
    · simp only [covers, beq_iff_eq] at hj
      subst hj
      exact step hr fuel (by simp only [Pl.depth] at hf; omega)
  | br p q ihp ihq =>
    intro br L pd pc pend ρ H w t a hp hcl h hd hρ hl hpd hpo hv
    simp only [planOK, Bool.and_eq_true] at hp
    obtain ⟨⟨h1, h2⟩, h3⟩ := hp
    simp only [vcDraw] at hv
    have Hp := (ihp true L pd pc pend ρ H w t a h2 hcl h hd hρ hl hpd hpo hv.1).2
    have Hq := (ihq true L pd pc pend ρ H w t a h3 hcl h hd hρ hl hpd hpo hv.2).2
    have B : ∀ j, covers (.br p q) j = true → j ∈ Region.ready .any ops L → ∀ fuel, (Pl.br p q).depth ≤ fuel + 1 →
        wpOp P ops Q j (fun a' w' => (pend.after .any ops j).ok w' ∧ wpAnyR P .any ops Q fuel (pend.after .any ops j) (L.setIfInBounds j true) a' w') a w := by
      intro j hj hr fuel hf
      simp only [covers, Bool.or_eq_true] at hj
      simp only [Pl.depth] at hf
      rcases hj with hj | hj
      · exact Hp j hj hr fuel (Nat.le_trans (Nat.le_max_left _ _) hf)
      · exact Hq j hj hr fuel (Nat.le_trans (Nat.le_max_right _ _) hf)
    refine ⟨fun hbr fuel hf => ?_, B⟩
    subst hbr
    simp only [Bool.false_or, Bool.and_eq_true, List.all_eq_true, Bool.not_eq_true', List.isEmpty_eq_false_iff] at h1
    obtain ⟨h1, h1'⟩ := h1
    obtain ⟨j0, hj0⟩ := List.exists_mem_of_ne_nil _ h1'
    have := covers_depth (h1 j0 hj0)
    obtain ⟨fuel, rfl⟩ : ∃ f, fuel = f + 1 := ⟨fuel - 1, by omega⟩
    exact ⟨fun h0 => absurd h0 h1', fun j hj => B j (h1 j hj) hj fuel hf⟩

theorem St.drew {ρ : Rho} {H : List SO} {w : World} (h : St ρ H g w) : St ρ H g { w with drawn := w.drawn + 1 } := h.heap ⟨rfl, rfl, rfl, rfl, Nat.le_succ _⟩

theorem vcDraw_region {id : Nat} {l : List VIns} {p : Pl} {w : World} {t : List SV} {a : Act} (hm : P.follows .mixedOrders = true) (hc : ops.toList.mapM (cIns P ops) = some l) (hp : planFits ops l p = true)
    (hQp : ∀ c a w, ¬ Q (.panic c) a w) {Q' : List SV → List SO → Prop} (hQ : ∀ a w, Nxt P ρ0 H0 g Q' a w → Q .normal a w)
    (h : At P ρ0 H0 g w t a) (hd : a.defers = []) (hv : vcDraw P l p [] t H0 Q') : (Code.region id ops true).wp P Q a w := by
  simp only [planFits, Bool.and_eq_true] at hp
  obtain ⟨⟨h1, h2⟩, h3⟩ := hp
  refine wp_region_any hm (wpAny_of_R ops.size (fun _ _ => False) _ _ _ ?_)
  exact (vcDraw_sound hc h1 hQp hQ p false _ [] [] (fun _ _ => False) ρ0 H0 _ t a h2 (closed_start _) ⟨h.f, h.b, h.s.drew⟩ hd (fun _ _ => rfl) (Nat.le_refl _)
    (fun _ _ h => h.elim) (fun _ _ h => h.elim) hv).1 rfl _ (Nat.le_of_ble_eq_true h3)
end
end Go.V

namespace Go.V
open Go
set_option linter.unusedSectionVars false
variable [Mode]

section
variable {P : Program} {ρ0 : Rho} {g : Fr}

/-- A state of which K holds, the first n0 names as at the start. -/
def Sat (P : Program) (n0 : Nat) (ρ0 : Rho) (g : Fr) (K : List SV → List SO → Prop) (a : Act) (w : World) : Prop :=
  ∃ ρ t H, At P ρ H g w t a ∧ a.defers = [] ∧ (∀ k, k < n0 → ρ k = ρ0 k) ∧ n0 ≤ H.length ∧ K t H
def PostX (P : Program) (n0 : Nat) (ρ0 : Rho) (g : Fr) (Q : Ex → List SV → List SO → Prop) : Exit → Act → World → Prop
  | .normal, a, w => Sat P n0 ρ0 g (Q .normal) a w
  | .ret, a, w => Sat P n0 ρ0 g (Q .ret) a w
  | .exit id, a, w => Sat P n0 ρ0 g (Q (.exit id)) a w
  | _, _, _ => False

theorem head_len (gv : Nat → Value) : ∀ (i : Nat) (t : List SV) (l : List (Nat × SV)), (headT gv i t l).length = t.length
  | _, [], _ => by simp [headT]
  | i, _ :: t, [] => by simp [headT, head_len gv (i + 1) t []]
  | i, _ :: t, (j, v) :: l => by
    simp only [headT]
    cases Nat.beq i j <;> simp [head_len gv (i + 1) t]
theorem head_val {ρ' : Rho} {gv : Nat → Value} {V : Nat → Value} (hg : ∀ i, gv i = V i) : ∀ (i : Nat) (t : List SV) (l : List (Nat × SV)), (∀ p ∈ l, val ρ' p.2 = V p.1) →
    ∀ k, k < t.length → val ρ' ((headT gv i t l).getD k un) = V (i + k)
  | _, [], _, _, k, hk => by simp at hk
  | i, _ :: t, [], h, k, hk => by
    cases k with
    | zero => simp [headT, val, hg]
    | succ k =>
      have := head_val hg (i + 1) t [] h k (by simpa using hk)
      simp only [headT, List.getD_cons_succ, this]; congr 1; omega
  | i, _ :: t, (j, v) :: l, h, k, hk => by
    simp only [headT]
    cases hb : Nat.beq i j with
    | true =>
      have hij : i = j := Nat.eq_of_beq_eq_true hb
      cases k with
      | zero => simp only [List.getD_cons_zero, Nat.add_zero]; rw [h (j, v) (by simp), hij]
      | succ k =>
        have := head_val hg (i + 1) t l (fun p hp => h p (by simp [hp])) k (by simpa using hk)
        simp only [List.getD_cons_succ, this]; congr 1; omega
    | false =>
      cases k with
      | zero => simp [val, hg]
      | succ k =>
        have := head_val hg (i + 1) t ((j, v) :: l) h k (by simpa using hk)
        simp only [List.getD_cons_succ, this]; congr 1; omega
theorem head_below {n : Nat} (gv : Nat → Value) : ∀ (i : Nat) (t : List SV) (l : List (Nat × SV)), (∀ p ∈ l, below n p.2 = true) → belowL n (headT gv i t l) = true
  | _, [], _, _ => by simp [headT, belowL]
  | i, _ :: t, [], h => by simp [headT, belowL, below, head_below gv (i + 1) t [] h]
  | i, _ :: t, (j, v) :: l, h => by
    simp only [headT]
    cases Nat.beq i j with
    | true =>
      have h1 := h (j, v) (by simp)
      simp only [belowL, Bool.and_eq_true]
      exact ⟨h1, head_below gv (i + 1) t l (fun p hp => h p (by simp [hp]))⟩
    | false =>
      simp only [belowL, Bool.and_eq_true]
      exact ⟨rfl, head_below gv (i + 1) t _ h⟩
theorem pickT_spec {s : Nat → Nat} {t : List SV} : ∀ {l : List (Nat × SV)}, pickT t l = renT s l → ∀ p ∈ l, nkb (t.getD p.1 un) = nkb (ren s p.2)
  | [], _ => by simp
  | (i, v) :: l, h => by
    simp only [pickT, renT, List.cons.injEq] at h
    intro p hp
    rcases List.mem_cons.1 hp with rfl | hp
    · exact h.1
    · exact pickT_spec h.2 p hp

theorem preσ_go : ∀ (k i : Nat) (σ : List Nat), preσ.go i k σ = true → ∀ j, j < k → σ[j]? = some (i + j)
  | 0, _, _, _, _, h => by omega
  | k + 1, i, [], h, _, _ => by simp [preσ.go] at h
  | k + 1, i, x :: σ, h, j, hj => by
    simp only [preσ.go, Bool.and_eq_true, beq_iff_eq] at h
    cases j with
    | zero => simp [h.1]
    | succ j =>
      have := preσ_go k (i + 1) σ h.2 j (by omega)
      simp only [List.getElem?_cons_succ, this]; congr 1; omega

/-- The head of a loop: what is known there. -/
theorem sameLen_eq : ∀ {a b : List SV}, sameLen a b = true → a.length = b.length
  | [], [], _ => rfl
  | _ :: a, _ :: b, h => by simp only [List.length_cons, sameLen_eq (a := a) (b := b) h]
  | [], _ :: _, h => by cases h
  | _ :: _, [], h => by cases h
/-- The head of a loop: what is known there. -/
theorem fits_sat {n0 : Nat} {σ : List Nat} {t : List SV} {live : List (Nat × SV)} {H H0 : List SO} {ρ : Rho} {w : World} {a : Act} {t0 : List SV} (hf : Fits n0 t0 σ t H live H0) (h : At P ρ H g w t a) (hd : a.defers = [])
    (hρ : ∀ k, k < n0 → ρ k = ρ0 k) : ∃ gv, Sat P n0 ρ0 g (fun t' H' => t' = headT gv 0 t0 live ∧ H' = H0) a w := by
  obtain ⟨h1, h2, h3⟩ := hf
  simp only [Bool.and_eq_true] at h3
  obtain ⟨⟨hσ, hpre⟩, hsl⟩ := h3
  have hlen := sameLen_eq hsl
  obtain ⟨hl, hnd, hlt⟩ := okσ_spec hσ
  have hS := h.s.pick h2 hσ
  have hpre' : ∀ j, j < n0 → σ[j]? = some j := by
    intro j hj
    have := preσ_go n0 0 σ hpre j hj
    simpa using this
  have hinv : ∀ k, sub σ H0.length H.length k < H.length → k < H0.length := by
    intro k hk
    by_cases hk' : k < H0.length
    · exact hk'
    · rw [sub_ge hl (by omega)] at hk; omega
  have hpt := pickT_spec h1
  have hbl : ∀ p ∈ live, below H0.length p.2 = true := by
    intro p hp
    refine below_of_ren hinv p.2 ?_
    rw [← below_nkb, ← hpt p hp, below_nkb]; exact below_getD h.b _
  refine ⟨fun j => val ρ (t.getD j un), fun i => ρ (sub σ H0.length H.length i), _, H0, ⟨?_, head_below _ 0 t0 live hbl, hS⟩, hd, ?_, ?_, rfl, rfl⟩
  · unfold Frm
    rw [h.f]
    congr 1
    apply List.ext_getElem?
    intro i
    rw [valL_eq, valL_eq, List.getElem?_map, List.getElem?_map]
    by_cases hi : i < t0.length
    · have := head_val (ρ' := fun i => ρ (sub σ H0.length H.length i)) (gv := fun j => val ρ (t.getD j un)) (V := fun j => val ρ (t.getD j un)) (fun _ => rfl) 0 t0 live (by
        intro p hp
        rw [← val_nkb ρ (t.getD p.1 un), hpt p hp, val_nkb, val_ren]) i hi
      have hi2 : i < (headT (fun j => val ρ (t.getD j un)) 0 t0 live).length := by rw [head_len]; exact hi
      rw [List.getElem?_eq_getElem (show i < t.length by omega), List.getElem?_eq_getElem hi2]
      rw [List.getD_eq_getElem?_getD, List.getElem?_eq_getElem hi2, Nat.zero_add, List.getD_eq_getElem?_getD, List.getElem?_eq_getElem (show i < t.length by omega)] at this
      simp only [Option.getD_some] at this
      simp only [Option.map_some, this]
    · rw [List.getElem?_eq_none (show t.length ≤ i by omega), List.getElem?_eq_none (show (headT _ 0 t0 live).length ≤ i by rw [head_len]; omega)]; rfl
  · intro k hk
    simp only [sub_get (hpre' k hk)]
    exact hρ k hk
  · rcases Nat.eq_zero_or_pos n0 with h0 | h0
    · omega
    · have := (List.getElem?_eq_some_iff.1 (hpre' (n0 - 1) (by omega))).1
      omega

/-- A state with a nil slice told of as a slice of a block of its own. -/
theorem At.nilv {ρ : Rho} {H H' : List SO} {g : Fr} {w : World} {t t' : List SV} {a : Act} (h : At P ρ H g w t a) {pos : List Nat} {posH : List (Nat × Nat)} (f1 : setNil H.length t pos = some t') (f2 : setNilH H.length H posH = some H') (e : TypeId) :
    At P (upd ρ H.length none) (H' ++ [.arr [] e]) g w t' a ∧ H'.length = H.length := by
  obtain ⟨h1, h2, h3⟩ := setNil_spec f1
  obtain ⟨hS', hl'⟩ := setNilH_St (upd_same ρ H.length none) f2 rfl (h.s.nil e)
  refine ⟨⟨?_, h3 _ (by simp [hl']) (belowL_mono (by simp [hl']) _ h.b), hS'⟩, hl'⟩
  unfold Frm
  rw [h2 _ (upd_same _ _ _), valL_congr (n := H.length) (fun k hk => upd_lt ρ _ hk) t h.b]
  exact h.f

/-- What a function hands on. -/
theorem vret1_sound {n0 : Nat} {v : SV} {H : List SO} {Post : SV → List SO → Prop} (hv : VRet1 n0 v H Post) {ρ : Rho} {g : Fr} {w : World} (hS : St ρ H g w) (hb : below H.length v = true) (hn : n0 ≤ H.length) :
    ∃ ρ2 sv H2, val ρ v = val ρ2 sv ∧ St ρ2 H2 g w ∧ (∀ k, k < n0 → ρ2 k = ρ k) ∧ n0 ≤ H2.length ∧ below H2.length sv = true ∧ Post sv H2 := by
  obtain ⟨σ, v2, H2, ⟨f1, f2, f3⟩, hpost⟩ := hv
  simp only [Bool.and_eq_true] at f3
  obtain ⟨hσ, hpre⟩ := f3
  obtain ⟨hl, hnd, hlt⟩ := okσ_spec hσ
  have hpre' : ∀ j, j < n0 → σ[j]? = some j := by
    intro j hj
    have := preσ_go n0 0 σ hpre j hj
    simpa using this
  have hinv : ∀ k, sub σ H2.length H.length k < H.length → k < H2.length := by
    intro k hk
    by_cases hk' : k < H2.length
    · exact hk'
    · rw [sub_ge hl (by omega)] at hk; omega
  refine ⟨fun i => ρ (sub σ H2.length H.length i), v2, H2, by rw [f1, val_ren], hS.pick f2 hσ, ?_, ?_, below_of_ren hinv v2 (f1 ▸ hb), hpost⟩
  · intro k hk
    simp only [sub_get (hpre' k hk)]
  · rcases Nat.eq_zero_or_pos n0 with h0 | h0
    · omega
    · have := (List.getElem?_eq_some_iff.1 (hpre' (n0 - 1) (by omega))).1
      omega
theorem vret_sound {n0 : Nat} {v : SV} {H : List SO} {Post : SV → List SO → Prop} (hv : VRet n0 v H Post) : ∀ {ρ : Rho} {g : Fr} {w : World}, St ρ H g w → below H.length v = true → n0 ≤ H.length →
    ∃ ρ2 sv H2, val ρ v = val ρ2 sv ∧ St ρ2 H2 g w ∧ (∀ k, k < n0 → ρ2 k = ρ k) ∧ n0 ≤ H2.length ∧ below H2.length sv = true ∧ Post sv H2 := by
  induction hv with
  | one hv => intro ρ g w hS hb hn; exact vret1_sound hv hS hb hn
  | view h =>
    intro ρ g w hS hb hn
    obtain ⟨ρ1, l1, H1, p1, p2, p3, p4, p5, v', rfl, p6⟩ := view_sound h hS (by simp [belowL, hb])
    simp only [valL, List.cons.injEq, and_true] at p1
    simp only [belowL, Bool.and_true] at p5
    obtain ⟨ρ2, sv, H2, q1, q2, q3, q4, q5, q6⟩ := vret1_sound p6 p2 p5 (by omega)
    exact ⟨ρ2, sv, H2, by rw [← p1, q1], q2, fun k hk => (q3 k hk).trans (p3 k (by omega)), q4, q5, q6⟩
  | nil e pos posH fit k ih =>
    intro ρ g w hS hb hn
    rename_i v H Post v' H'
    obtain ⟨f1, f2⟩ := fit
    obtain ⟨h1, h2, h3⟩ := setNil_spec f1
    obtain ⟨hS', hl'⟩ := setNilH_St (upd_same ρ H.length none) f2 rfl (hS.nil e)
    have hb' : below (H' ++ [SO.arr [] e]).length v' = true := by
      have := h3 (H' ++ [SO.arr [] e]).length (by simp [hl']) (by simp only [belowL, Bool.and_true]; exact below_mono (by simp [hl']) v hb)
      simpa [belowL] using this
    obtain ⟨ρ2, sv, H2, q1, q2, q3, q4, q5, q6⟩ := ih hS' hb' (by simp [hl']; omega)
    refine ⟨ρ2, sv, H2, ?_, q2, fun k hk => ?_, q4, q5, q6⟩
    · rw [← q1]
      have := h2 _ (upd_same ρ H.length none)
      simp only [valL, List.cons.injEq, and_true] at this
      rw [this]
      exact (val_congr (n := H.length) (fun k hk => upd_lt ρ _ hk) v hb).symm
    · rw [q3 k hk]; exact upd_lt ρ _ (by omega)

theorem exists_least {p : Nat → Prop} (h : ∃ n, p n) : ∃ n, p n ∧ ∀ m, p m → n ≤ m := by
  obtain ⟨n, hn⟩ := h
  induction n using Nat.strongRecOn with
  | _ n ih =>
    by_cases hc : ∃ m, m < n ∧ p m
    · obtain ⟨m, hm, hp⟩ := hc
      exact ih m hm hp
    · exact ⟨n, hn, fun m hm => Nat.le_of_not_lt fun hlt => hc ⟨m, hlt, hm⟩⟩

/-- A loop whose measure is told by a ghost. -/
theorem wp_loop_ghost {c : Code} {Q : Exit → Act → World → Prop} {X : Type} (R : X → Act → World → Prop) (μ : X → Nat) {a : Act} {w : World} (x0 : X) (h0 : R x0 a w)
    (round : ∀ x a w, R x a w → c.wp P (Exit.then (fun a' w' => ∃ x', R x' a' w' ∧ μ x' < μ x) Q) a w) : (Code.loop c).wp P Q a w := by
  classical
  have hex : ∀ a w, (∃ x, R x a w) → ∃ n, (∃ x, R x a w ∧ μ x = n) ∧ ∀ m, (∃ x, R x a w ∧ μ x = m) → n ≤ m := fun a w ⟨x, hx⟩ => exists_least ⟨μ x, x, hx, rfl⟩
  refine wp_loop (fun a w => ∃ x, R x a w) (fun a w => if h : ∃ x, R x a w then Classical.choose (hex a w h) else 0) ⟨x0, h0⟩ ?_
  intro a w hI
  obtain ⟨⟨x, hx, hxn⟩, _⟩ := Classical.choose_spec (hex a w hI)
  refine wp_mono (round x a w hx) ?_
  intro e a' w' he
  cases e <;> first | exact he | skip
  obtain ⟨x', hx', hlt⟩ := he
  refine ⟨⟨x', hx'⟩, ?_⟩
  have h1 : ∃ x, R x a' w' := ⟨x', hx'⟩
  simp only [dif_pos hI, dif_pos h1]
  have h2 := (Classical.choose_spec (hex a' w' h1)).2 (μ x') ⟨x', hx', rfl⟩
  omega

theorem vcCode_sound (hm : P.follows .mixedOrders = true) {plans : List (Nat × Pl)} {n0 : Nat} : ∀ (c : Code) (vc : VCode), cCode P plans c = some vc →
    ∀ (Q : Ex → List SV → List SO → Prop) (ρ : Rho) (H : List SO) (w : World) (t : List SV) (a : Act), At P ρ H g w t a → a.defers = [] → (∀ k, k < n0 → ρ k = ρ0 k) → n0 ≤ H.length →
      vcCode P n0 vc t H Q → c.wp P (PostX P n0 ρ0 g Q) a w
  | .skip, vc, hc, Q, ρ, H, w, t, a, h, hd, hρ, hl, hv => by
    simp only [cCode, Option.some.injEq] at hc
    subst hc
    exact wp_skip ⟨ρ, t, H, h, hd, hρ, hl, hv⟩
  | .region id ops draw, vc, hc, Q, ρ, H, w, t, a, h, hd, hρ, hl, hv => by
    simp only [cCode] at hc
    cases hl' : ops.toList.mapM (cIns P ops) with
    | none =>
      rw [hl'] at hc
      simp only [Option.some.injEq] at hc
      subst hc
      exact hv.elim
    | some l =>
    rw [hl'] at hc
    simp only [Option.bind_eq_bind, Option.pure_def] at hc
    have hQ : ∀ a' w', Nxt P ρ H g (Q .normal) a' w' → PostX P n0 ρ0 g Q .normal a' w' := by
      rintro a' w' ⟨ρ', t', H', e1, e2, e3, e4, e5⟩
      exact ⟨ρ', t', H', e1, e2, fun k hk => (e3 k (by omega)).trans (hρ k hk), by omega, e5⟩
    cases draw with
    | true =>
      simp only [if_true, Option.bind_eq_some_iff] at hc
      obtain ⟨p, _, hc⟩ := hc
      cases hp : planFits ops l p with
      | false => rw [hp] at hc; cases hc
      | true =>
        rw [hp] at hc
        simp only [cond_true, Option.some.injEq] at hc
        subst hc
        exact vcDraw_region hm hl' hp (fun _ _ _ h => h) hQ h hd hv
    | false =>
      simp only [Bool.false_eq_true, if_false, Option.some.injEq] at hc
      subst hc
      exact vcReg_region hl' hQ h hd hv
  | .seq x y, vc, hc, Q, ρ, H, w, t, a, h, hd, hρ, hl, hv => by
    simp only [cCode, Option.bind_eq_bind, Option.bind_eq_some_iff, Option.pure_def, Option.some.injEq] at hc
    obtain ⟨x', hx, y', hy, rfl⟩ := hc
    simp only [vcCode] at hv
    refine wp_seq (wp_mono (vcCode_sound hm x x' hx _ ρ H w t a h hd hρ hl hv) ?_)
    intro e a' w' he
    cases e with
    | normal =>
      obtain ⟨ρ', t', H', e1, e2, e3, e4, e5⟩ := he
      exact vcCode_sound hm y y' hy Q ρ' H' w' t' a' e1 e2 e3 e4 e5
    | exit id => exact he
    | ret => exact he
    | goto l => exact he
    | panic ch => exact he
    | outgrown => exact he
  | .cond c x y, vc, hc, Q, ρ, H, w, t, a, h, hd, hρ, hl, hv => by
    simp only [cCode, Option.bind_eq_bind, Option.bind_eq_some_iff, Option.pure_def, Option.some.injEq] at hc
    obtain ⟨c', hcc, x', hx, y', hy, rfl⟩ := hc
    simp only [vcCode, evK_eq] at hv
    have he := h.eq hcc
    split at hv
    · rename_i e1
      exact wp_cond_true (by rw [he, e1]; rfl) (vcCode_sound hm x x' hx Q ρ H w t a h hd hρ hl hv)
    · rename_i e1
      exact wp_cond_false (by rw [he, e1]; rfl) (vcCode_sound hm y y' hy Q ρ H w t a h hd hρ hl hv)
    · rename_i p e1
      exact wp_cond_split (t := p) (by rw [he, e1]; rfl) (fun hp => vcCode_sound hm x x' hx Q ρ H w t a h hd hρ hl (hv.1 hp)) (fun hp => vcCode_sound hm y y' hy Q ρ H w t a h hd hρ hl (hv.2 hp))
    · exact hv.elim
  | .block id x, vc, hc, Q, ρ, H, w, t, a, h, hd, hρ, hl, hv => by
    simp only [cCode, Option.bind_eq_bind, Option.bind_eq_some_iff, Option.pure_def, Option.some.injEq] at hc
    obtain ⟨x', hx, rfl⟩ := hc
    simp only [vcCode] at hv
    refine wp_block (wp_mono (vcCode_sound hm x x' hx _ ρ H w t a h hd hρ hl hv) ?_)
    intro e a' w' he
    cases e with
    | normal => exact he
    | exit i =>
      simp only [PostX, Sat] at he
      simp only [Exit.inBlock]
      obtain ⟨ρ', t', H', e1, e2, e3, e4, e5⟩ := he
      by_cases hid : i = id
      · subst hid
        rw [if_pos rfl]
        simp only [beq_self_eq_true, cond_true] at e5
        exact ⟨ρ', t', H', e1, e2, e3, e4, e5⟩
      · rw [if_neg hid]
        have : (i == id) = false := by simpa using hid
        rw [this] at e5
        exact ⟨ρ', t', H', e1, e2, e3, e4, e5⟩
    | ret => exact he
    | goto l => exact he
    | panic ch => exact he
    | outgrown => exact he
  | .loop x, vc, hc, Q, ρ, H, w, t, a, h, hd, hρ, hl, hv => by
    simp only [cCode, Option.bind_eq_bind, Option.bind_eq_some_iff, Option.pure_def, Option.some.injEq] at hc
    obtain ⟨x', hx, rfl⟩ := hc
    simp only [vcCode] at hv
    induction hv generalizing ρ with
    | one hv =>
      rename_i t H Q
      obtain ⟨X, live, HH, inv, μ, z0, σ0, ⟨hi0, hf0⟩, round⟩ := hv
      refine wp_loop_ghost (fun z a w => inv z ∧ ∃ gv, Sat P n0 ρ0 g (fun t' H' => t' = headT gv 0 t (live z) ∧ H' = HH z) a w) μ z0 ⟨hi0, fits_sat hf0 h hd hρ⟩ ?_
      rintro z a' w' ⟨hi, gv, ρ', _, _, e1, e2, e3, e4, rfl, rfl⟩
      have hr := round z hi gv
      rw [liveK_eq, fHK_eq] at hr
      refine wp_mono (vcCode_sound hm x x' hx _ ρ' (HH z) w' _ a' e1 e2 e3 e4 hr) ?_
      intro e a2 w2 he
      cases e with
      | normal =>
        obtain ⟨ρ2, t2, H2, f1, f2, f3, f4, z2, σ2, ⟨f5, f6⟩, f7⟩ := he
        exact ⟨z2, ⟨f5, fits_sat f7 f1 f2 f3⟩, f6⟩
      | exit id => exact he
      | ret => exact he
      | goto l => exact he
      | panic ch => exact he
      | outgrown => exact he
    | nil e pos posH fit k ih =>
      rename_i t H Q t' H'
      obtain ⟨f1, f2⟩ := fit
      obtain ⟨hA', hlen'⟩ := At.nilv h f1 f2 e
      refine ih _ hA' (fun k hk => ?_) (by simp [hlen']; omega)
      rw [upd_lt ρ _ (by omega)]; exact hρ k hk
  | .exit id, vc, hc, Q, ρ, H, w, t, a, h, hd, hρ, hl, hv => by
    simp only [cCode, Option.some.injEq] at hc
    subst hc
    exact wp_exit ⟨ρ, t, H, h, hd, hρ, hl, hv⟩
  | .ret, vc, hc, Q, ρ, H, w, t, a, h, hd, hρ, hl, hv => by
    simp only [cCode, Option.some.injEq] at hc
    subst hc
    exact wp_ret ⟨ρ, t, H, h, hd, hρ, hl, hv⟩
  | .rangeFunc .., vc, hc, _, _, _, _, _, _, _, _, _, _, _ => by simp [cCode] at hc
  | .scope _, vc, hc, _, _, _, _, _, _, _, _, _, _, _ => by simp [cCode] at hc
  | .label _, vc, hc, _, _, _, _, _, _, _, _, _, _, _ => by simp [cCode] at hc
  | .goto _, vc, hc, _, _, _, _, _, _, _, _, _, _, _ => by simp [cCode] at hc
  | .refuse _, vc, hc, _, _, _, _, _, _, _, _, _, _, _ => by simp [cCode] at hc

/-! ### Functions -/
def cRes1 (P : Program) : ResultVar → Option VRes
  | .tmp t => some (.t t)
  | .cell a t => (shapeT P t).map (.cell a)
theorem normB_val (ρ : Rho) (v : SV) : val ρ (normB v) = val ρ v := by cases v <;> rfl
theorem res_one {ρ : Rho} {H : List SO} {w : World} {t : List SV} {a : Act} (h : At P ρ H g w t a) {r : ResultVar} {r' : VRes} (hc : cRes1 P r = some r') {v : SV} (hv : resOne t H r' = some v) :
    (match r with | .tmp i => (pure (a.tmps.getD i undef) : Sem Value) | .cell i ty => do loadVar ty (← asAddr (a.tmps.getD i undef))).run P w = .ok (val ρ v) w ∧ below H.length v = true := by
  have hget : ∀ i, a.tmps.getD i undef = val ρ (t.getD i un) := by
    intro i; rw [h.f]; exact val_getD ρ t i
  cases r with
  | tmp i =>
    simp only [cRes1, Option.some.injEq] at hc
    subst hc
    simp only [resOne, Option.some.injEq] at hv
    subst hv
    refine ⟨by simp only [hget, Sem.run_pure, normB_val], ?_⟩
    have := below_getD h.b i
    cases hx : t.getD i un <;> rw [hx] at this <;> first | exact this | rfl
  | cell i ty =>
    simp only [cRes1, Option.map_eq_some_iff] at hc
    obtain ⟨n, hs, rfl⟩ := hc
    simp only [resOne] at hv
    split at hv
    · rename_i k o e
      split at hv
      · rename_i l el hk
        obtain ⟨_, hsc, b, hb, hh⟩ := cells_of h.s hk
        have hadr : (asAddr (a.tmps.getD i undef)).run P w = .ok ⟨b, o, none⟩ w := by
          rw [hget, e]; simp [val, hb, asAddr]
        cases n with
        | none =>
          simp only at hv
          refine ⟨?_, (belowL_eq _ _).1 hsc v (List.mem_of_getElem? hv)⟩
          have := run_loadVar1 (P := P) (w := w) (a := ⟨b, o, none⟩) (v := val ρ v) hs (by rw [cell_of hh, valL_eq]; simp [hv])
          simp only [Sem.run_bind, hadr, Result.andThen_ok, this]
        | some m =>
          simp only [Option.map_eq_some_iff] at hv
          obtain ⟨l', hcut, rfl⟩ := hv
          obtain ⟨c1, c2⟩ := cut_spec hcut
          refine ⟨?_, ?_⟩
          · have := run_loadVarN (P := P) (w := w) (a := ⟨b, o, none⟩) (l := valL ρ l') (by rw [valL_eq, List.length_map, c1]; exact hs) (by
              intro j v hj
              rw [add_eq, cell_of hh]
              rw [valL_eq] at hj ⊢
              have hjl : j < m := by have := (List.getElem?_eq_some_iff.1 hj).1; simpa [c1] using this
              rw [List.getElem?_map, c2 j hjl] at hj
              simpa using hj)
            simp only [Sem.run_bind, hadr, Result.andThen_ok, this, val]
          · simp only [below]; rw [belowL_eq] at hsc ⊢; exact fun v hv => hsc v (cut_mem hcut v hv)
      · cases hv
    · cases hv

theorem res_all {ρ : Rho} {H : List SO} {w : World} {t : List SV} {a : Act} (h : At P ρ H g w t a) : ∀ {l : List ResultVar} {l' : List VRes} {vs : List SV}, l.mapM (cRes1 P) = some l' → resAll t H l' = some vs →
    (l.mapM (m := Sem) fun r => match r with | .tmp i => (pure (a.tmps.getD i undef) : Sem Value) | .cell i ty => do loadVar ty (← asAddr (a.tmps.getD i undef))).run P w = .ok (valL ρ vs) w ∧ belowL H.length vs = true
  | [], l', vs, hc, hv => by
    simp at hc; subst hc
    simp [resAll] at hv; subst hv
    exact ⟨by simp [valL], rfl⟩
  | r :: l, l', vs, hc, hv => by
    simp [List.mapM_cons, Option.bind_eq_some_iff] at hc
    obtain ⟨r', hr, l2, hl, rfl⟩ := hc
    simp only [resAll] at hv
    split at hv
    · rename_i x xs e1 e2
      cases hv
      obtain ⟨h1, h2⟩ := res_one h hr e1
      obtain ⟨h3, h4⟩ := res_all h hl e2
      refine ⟨?_, by simp [belowL, h2, h4]⟩
      simp only [List.mapM_cons, Sem.run_bind, h1, Result.andThen_ok, h3, Sem.run_pure, valL]
    · cases hv

/-- A function, by its condition. -/
theorem spec_of_vc {f : FuncId} {fn : Func} {c : Code} {plans : List (Nat × Pl)} {vc : VCode} {rs : List VRes} {args : List SV} {H : List SO} {Post : SV → List SO → Prop}
    (hm : P.follows .mixedOrders = true) (hf : P.funcs[f]? = some fn) (hb : fn.body = some c) (hc : cCode P plans c = some vc) (hr : fn.results.toList.mapM (cRes1 P) = some rs)
    (hv : vcFun P fn.ntmps rs vc args H Post) : Ctr P f args H Post := by
  intro ρ g w hS hba
  refine calls_of_wp hf hb ?_
  simp only [vcFun, padK_eq, natK_eq] at hv
  have hA : At P ρ H g w (args ++ List.replicate (fn.ntmps - args.length) un) { tmps := (valL ρ args).toArray ++ Array.replicate (fn.ntmps - (valL ρ args).toArray.size) undef, defers := [] } := by
    refine ⟨?_, ?_, hS⟩
    · simp only [Frm]
      apply Array.toList_inj.1
      simp [valL_eq, val, undef]
    · rw [belowL_append]
      refine ⟨hba, ?_⟩
      rw [belowL_eq]
      intro v hv
      rw [(List.mem_replicate.1 hv).2]; rfl
  refine wp_mono (vcCode_sound (ρ0 := ρ) (g := g) (n0 := H.length) hm c vc hc _ ρ H w _ _ hA rfl (fun _ _ => rfl) (Nat.le_refl _) hv) ?_
  have key : ∀ a' w', Sat P H.length ρ g (fun t H' => match resSV t H' rs with | some v => fK v fun v => VRet H.length v H' Post | none => False) a' w' →
      a'.defers = [] ∧ ∃ v, (results fn a'.tmps).run P w' = .ok v w' ∧ ∃ ρ' sv H', (Ending.returned v) = .returned (val ρ' sv) ∧ St ρ' H' g w' ∧ (∀ k, k < H.length → ρ' k = ρ k) ∧ H.length ≤ H'.length ∧ below H'.length sv = true ∧ Post sv H' := by
    rintro a' w' ⟨ρ', t', H', e1, e2, e3, e4, e5⟩
    refine ⟨e2, ?_⟩
    split at e5
    · rename_i v ev
      rw [fK_eq] at e5
      have last : below H'.length v = true → ∃ ρ2 sv H2, val ρ' v = val ρ2 sv ∧ St ρ2 H2 g w' ∧ (∀ k, k < H.length → ρ2 k = ρ k) ∧ H.length ≤ H2.length ∧ below H2.length sv = true ∧ Post sv H2 := by
        intro hbv
        obtain ⟨ρ2, sv, H2, q1, q2, q3, q4, q5, q6⟩ := vret_sound e5 e1.s hbv (by omega)
        exact ⟨ρ2, sv, H2, q1, q2, fun k hk => (q3 k hk).trans (e3 k hk), q4, q5, q6⟩
      unfold resSV at ev
      have fin : ∀ vs : List SV, resAll t' H' rs = some vs → (vs.length = 1 → [v] = vs) → (vs.length ≠ 1 → v = .tup vs) → (results fn a'.tmps).run P w' = .ok (val ρ' v) w' ∧ below H'.length v = true := by
        intro vs h1 h2 h3
        obtain ⟨r1, r2⟩ := res_all e1 hr h1
        have hres : (results fn a'.tmps).run P w' = .ok (if h : (valL ρ' vs).toArray.size = 1 then (valL ρ' vs).toArray[0] else .tuple (valL ρ' vs).toArray) w' := by
          unfold results
          rw [Array.mapM_eq_mapM_toList]
          simp only [Sem.run_bind, Sem.run_map]
          have := r1
          erw [this]
          simp only [Result.andThen_ok, Sem.run_pure]
        rw [hres]
        by_cases hl1 : vs.length = 1
        · have := h2 hl1
          subst this
          simp only [belowL, Bool.and_true] at r2
          simp [valL, r2]
        · have := h3 hl1
          subst this
          have : ¬ ((valL ρ' vs).toArray.size = 1) := by simpa [valL_eq] using hl1
          rw [dif_neg this]
          exact ⟨rfl, by simpa [below] using r2⟩
      split at ev
      · rename_i x hx
        cases ev
        obtain ⟨q1, q2⟩ := fin _ hx (fun _ => rfl) (fun h => absurd rfl h)
        obtain ⟨ρ2, sv, H2, g1, g2, g3, g4, g5, g6⟩ := last q2
        exact ⟨_, q1, ρ2, sv, H2, by rw [g1], g2, g3, g4, g5, g6⟩
      · rename_i l hne hx
        cases ev
        obtain ⟨q1, q2⟩ := fin _ hx (fun h => by
          obtain ⟨y, rfl⟩ := List.length_eq_one_iff.1 h
          exact absurd rfl (hne y)) (fun _ => rfl)
        obtain ⟨ρ2, sv, H2, g1, g2, g3, g4, g5, g6⟩ := last q2
        exact ⟨_, q1, ρ2, sv, H2, by rw [g1], g2, g3, g4, g5, g6⟩
      · cases ev
    · exact e5.elim
  intro e a' w' he
  cases e with
  | normal => exact key a' w' he
  | ret => exact key a' w' he
  | exit id =>
    obtain ⟨ρ', t', H', e1, e2, e3, e4, e5⟩ := he
    exact e5.elim
  | goto l => exact he
  | panic ch => exact he.elim
  | outgrown => exact he.elim
/-- Function f is this code. -/
def Is (P : Program) (f : FuncId) (nt : Nat) (rs : List VRes) (vc : VCode) : Prop :=
  ∃ fn c plans, P.funcs[f]? = some fn ∧ fn.body = some c ∧ cCode P plans c = some vc ∧ fn.results.toList.mapM (cRes1 P) = some rs ∧ fn.ntmps = nt
theorem Is.spec {f : FuncId} {nt : Nat} {rs : List VRes} {vc : VCode} {args : List SV} {H : List SO} {Post : SV → List SO → Prop} (h : Is P f nt rs vc) (hm : P.follows .mixedOrders = true)
    (hv : vcFun P nt rs vc args H Post) : Ctr P f args H Post := by
  obtain ⟨fn, c, plans, h1, h2, h3, h4, rfl⟩ := h
  exact spec_of_vc hm h1 h2 h3 h4 hv
end
end Go.V

namespace Go.V
open Go

/-! ### Keys -/
section
variable {P : Program}

theorem run_check (em : Bool) (e : Nat) : ∀ (d : Nat) (t : TypeId) (cl : List FC), clsT P d t = some cl → ∀ (xs : List Value), xs.length = cl.length → ∀ (w : World),
    (Instr.checkKey em (d + e) t (mkV P t xs)).run P w = .ok () w
  | 0, _, _, h, _, _, _ => by simp [clsT] at h
  | d + 1, t, cl, h, xs, hl, w => by
    have ih := run_check em e d
    rw [show d + 1 + e = (d + e) + 1 by omega]
    unfold clsT at h
    cases hu : P.underlying t with
    | none => simp [hu] at h
    | some k =>
      cases k <;> simp only [hu] at h <;> try (cases h; done)
      case bool => simp [Instr.checkKey, run_und hu]
      case int q => simp [Instr.checkKey, run_und hu]
      case string => simp [Instr.checkKey, run_und hu]
      case array n el =>
        split at h
        · rename_i c sz h1 h2
          split at h
          · rename_i h3
            cases h
            obtain ⟨bb, g1, g2⟩ := cls_isAgg h1
            have hsz : bb = false → sz = 1 := fun h => by obtain ⟨c, rfl⟩ := g2 h; simpa using h3.symm
            have hll : xs.length = n * sz := by rw [hl]; simp [h3]
            have hm : mkV P t xs = .agg xs.toArray := mkV_agg (by simp [isAggT, hu]) xs
            rw [hm, Instr.checkKey]
            simp only [Sem.run_bind, run_und hu, Result.andThen_ok]
            simp only [Std.Legacy.Range.forIn_eq_forIn_range', Std.Legacy.Range.size, Nat.sub_zero, Nat.add_one_sub_one, Nat.div_one]
            have each : ∀ j ∈ List.range' 0 n, (j + 1) * sz ≤ xs.length := by
              intro j hj
              rw [List.mem_range'_1] at hj
              rw [hll]; exact Nat.mul_le_mul_right _ (by omega)
            clear hll hl
            generalize List.range' 0 n = is at each
            induction is with
            | nil => simp
            | cons j is ihl =>
              have hj := each j (by simp)
              rw [Nat.add_mul, Nat.one_mul] at hj
              have hp := run_part (P := P) (w := w) (off := j * sz) (cs := xs.toArray) g1 h2 hsz (fun _ => by rw [List.size_toArray]; exact hj)
              simp only [List.forIn_cons, Sem.run_bind, run_size h2, Result.andThen_ok, hp]
              rw [ih el c h1 _ (by simp; omega)]
              simp only [Result.andThen_ok, Sem.run_pure]
              exact ihl (fun y hy => each y (by simp [hy]))
          · cases h
        · cases h
      case struct fs =>
        split at h
        · cases h
        · have hm : mkV P t xs = .agg xs.toArray := mkV_agg (by simp [isAggT, hu]) xs
          rw [hm, Instr.checkKey]
          simp only [Sem.run_bind, run_und hu, Result.andThen_ok]
          rw [← Array.forIn_toList]
          have key : ∀ (L : List Field) (off : Nat) (cl : List FC), fieldsCls P (clsT P d) off L = some cl → off + cl.length ≤ xs.length →
              (forIn L PUnit.unit fun f r => (do
                if f.name ≠ "_" then
                  let v ← part f.type xs.toArray f.offset
                  Instr.checkKey em (d + e) f.type v
                  pure (ForInStep.yield PUnit.unit)
                else pure (ForInStep.yield PUnit.unit) : Sem (ForInStep PUnit))).run P w = .ok PUnit.unit w := by
            intro L
            induction L with
            | nil => intro off cl _ _; simp
            | cons f L ihl =>
              intro off cl hf hlen
              unfold fieldsCls at hf
              split at hf
              · rename_i cf sz h1 h2
                split at hf
                · rename_i h3
                  obtain ⟨h4, h5, h6⟩ := h3
                  split at hf
                  · rename_i cr h7
                    cases hf
                    obtain ⟨bb, g1, g2⟩ := cls_isAgg h1
                    have hsz : bb = false → sz = 1 := fun h => by obtain ⟨c, rfl⟩ := g2 h; simpa using h6.symm
                    subst h5
                    simp only [List.length_append] at hlen
                    have hp := run_part (P := P) (w := w) (off := f.offset) (cs := xs.toArray) g1 h2 hsz (fun _ => by rw [List.size_toArray]; omega)
                    simp only [List.forIn_cons, h4, ne_eq, not_false_eq_true, if_true, Sem.run_bind, hp, Result.andThen_ok]
                    rw [ih f.type cf h1 _ (by simp; omega)]
                    simp only [Result.andThen_ok, Sem.run_pure]
                    exact ihl _ cr h7 (by omega)
                  · cases hf
                · cases hf
              · cases hf
          have := key fs.toList 0 cl h (by omega)
          rw [this]; rfl

/-- A map's type, and how its keys are written. -/
structure KeyT (P : Program) {K : Type} (mt et : TypeId) (enc : K → Value) : Prop where
  ex : ∃ kt d cl, P.underlying mt = some (.map kt et) ∧ d ≤ 10000 ∧ d ≠ 0 ∧ clsT P d kt = some cl ∧
    ∀ a, ∃ xs, enc a = mkV P kt xs ∧ xs.length = cl.length ∧ ∀ b ys, enc b = mkV P kt ys → ys.length = cl.length → ∃ r, eqV cl xs ys = some r ∧ (r = true ↔ a = b)
  bits : ∀ a, Instr.sameBits 10000 (enc a) (enc a) = true

def ent {K V : Type} (enc : K → Value) (encv : V → Value) (x : K × V × Nat) : MapEntry := ⟨enc x.1, encv x.2.1, x.2.2⟩
def ents {K V : Type} (enc : K → Value) (encv : V → Value) (ms : List (K × V × Nat)) : List MapEntry := ms.map (ent enc encv)

/-- An association list: what is there under k, its place. -/
def MP.find {K V : Type} [DecidableEq K] (k : K) : List (K × V × Nat) → Nat → Option (Nat × V)
  | [], _ => none
  | x :: ms, i => if k = x.1 then some (i, x.2.1) else MP.find k ms (i + 1)
def MP.get {K V : Type} [DecidableEq K] (ms : List (K × V × Nat)) (k : K) : Option V := (MP.find k ms 0).map (·.2)
def MP.put {K V : Type} [DecidableEq K] : List (K × V × Nat) → K → V → Nat → List (K × V × Nat)
  | [], k, v, c => [(k, v, c)]
  | x :: ms, k, v, c => if k = x.1 then (x.1, v, x.2.2) :: ms else x :: MP.put ms k v c
def MP.del {K V : Type} [DecidableEq K] : List (K × V × Nat) → K → List (K × V × Nat)
  | [], _ => []
  | x :: ms, k => if k = x.1 then ms else x :: MP.del ms k

variable {K V : Type} [DecidableEq K] {mt et : TypeId} {enc : K → Value} {encv : V → Value}

theorem KeyT.kt (h : KeyT P mt et enc) : ∃ kt, P.underlying mt = some (.map kt et) ∧ (∀ a b (w : World), (Op.equal kt (enc a) (enc b)).run P w = .ok (decide (a = b)) w) ∧
    (∀ a em (w : World), (Instr.checkKey em 10000 kt (enc a)).run P w = .ok () w) ∧
    (∀ a b kd, P.underlying kt = some kd → Instr.sameNow kd (enc a) (enc b) = none ∨ Instr.sameNow kd (enc a) (enc b) = some (decide (a = b))) := by
  obtain ⟨kt, d, cl, h1, h2, h3, h4, h5⟩ := h.ex
  have heq : ∀ a b (w : World), (Op.equal kt (enc a) (enc b)).run P w = .ok (decide (a = b)) w := by
    intro a b w
    obtain ⟨xs, e1, e2, e3⟩ := h5 a
    obtain ⟨ys, f1, f2, _⟩ := h5 b
    obtain ⟨r, g1, g2⟩ := e3 b ys f1 f2
    have := run_eq_cls (P := P) (10000 - d) d kt cl h4 xs ys r w g1
    rw [show d + (10000 - d) = 10000 by omega, ← e1, ← f1] at this
    have hr : r = decide (a = b) := by
      cases r
      · have : ¬ a = b := fun e => by have := g2.2 e; cases this
        simp [this]
      · simp [g2.1 rfl]
    rw [← hr]
    exact this
  refine ⟨kt, h1, heq, ?_, ?_⟩
  · intro a em w
    obtain ⟨xs, e1, e2, _⟩ := h5 a
    have := run_check (P := P) em (10000 - d) d kt cl h4 xs e2 w
    rw [show d + (10000 - d) = 10000 by omega, ← e1] at this
    exact this
  · intro a b kd hkd
    obtain ⟨xs, e1, e2, e3⟩ := h5 a
    obtain ⟨ys, f1, f2, _⟩ := h5 b
    obtain ⟨r, g1, g2⟩ := e3 b ys f1 f2
    have hr : r = decide (a = b) := by
      cases r
      · have : ¬ a = b := fun e => by have := g2.2 e; cases this
        simp [this]
      · simp [g2.1 rfl]
    cases d with
    | zero => exact absurd rfl h3
    | succ d =>
      unfold clsT at h4
      rw [hkd] at h4
      cases kd <;> simp only at h4 <;> try (cases h4; done)
      case bool =>
        cases h4
        match xs, ys, e2, f2, g1 with
        | [x], [y], _, _, g1 =>
          have n1 : enc a = x := by rw [e1]; simp [mkV, isAggT, hkd]
          have n2 : enc b = y := by rw [f1]; simp [mkV, isAggT, hkd]
          rw [n1, n2]
          cases x <;> cases y <;> simp [eqV, eq1V] at g1
          right; simp only [Instr.sameNow, ← hr, ← g1]
      case int q =>
        cases h4
        match xs, ys, e2, f2, g1 with
        | [x], [y], _, _, g1 =>
          have n1 : enc a = x := by rw [e1]; simp [mkV, isAggT, hkd]
          have n2 : enc b = y := by rw [f1]; simp [mkV, isAggT, hkd]
          rw [n1, n2]
          cases x <;> cases y <;> simp only [eqV, eq1V] at g1 <;> try (cases g1; done)
          rename_i q1 i1 _ q2 i2 _ _
          by_cases hk : q1 = q2
          · subst hk
            simp only [if_true, Bool.and_true, Option.some.injEq] at g1
            right; simp only [Instr.sameNow, ← hr, ← g1, if_true]; rfl
          · simp [hk] at g1
      case string =>
        cases h4
        match xs, ys, e2, f2, g1 with
        | [x], [y], _, _, g1 =>
          have n1 : enc a = x := by rw [e1]; simp [mkV, isAggT, hkd]
          have n2 : enc b = y := by rw [f1]; simp [mkV, isAggT, hkd]
          rw [n1, n2]
          cases x <;> cases y <;> simp [eqV, eq1V] at g1
          right; simp only [Instr.sameNow, ← hr, ← g1]
      all_goals exact .inl rfl

theorem findNow_spec {kd : TypeDesc} {k : K} (h : ∀ b, Instr.sameNow kd (enc k) (enc b) = none ∨ Instr.sameNow kd (enc k) (enc b) = some (decide (k = b))) : ∀ (ms : List (K × V × Nat)) (i : Nat),
    Instr.findNow kd (enc k) (ents enc encv ms) i = none ∨ Instr.findNow kd (enc k) (ents enc encv ms) i = some ((MP.find k ms i).map fun p => (p.1, encv p.2))
  | [], i => .inr rfl
  | x :: ms, i => by
    simp only [ents, List.map_cons, Instr.findNow, ent]
    rcases h x.1 with e | e
    · rw [e]; exact .inl rfl
    · rw [e]
      by_cases hk : k = x.1
      · simp only [hk, decide_true]; right; simp [MP.find]
      · simp only [hk, decide_false, MP.find, if_false]; exact findNow_spec h ms (i + 1)
theorem findAsking_spec {kt : TypeId} {k : K} (h : ∀ b (w : World), (Op.equal kt (enc k) (enc b)).run P w = .ok (decide (k = b)) w) : ∀ (ms : List (K × V × Nat)) (i : Nat) (w : World),
    (Instr.findAsking kt (enc k) (ents enc encv ms) i).run P w = .ok ((MP.find k ms i).map fun p => (p.1, encv p.2)) w
  | [], i, w => by simp [ents, Instr.findAsking, MP.find]
  | x :: ms, i, w => by
    simp only [ents, List.map_cons, Instr.findAsking, ent, Sem.run_bind, h, Result.andThen_ok]
    by_cases hk : k = x.1
    · simp [hk, MP.find]
    · simp only [hk, decide_false, MP.find, if_false, Bool.false_eq_true]; exact findAsking_spec h ms (i + 1) w

theorem findKey_spec (h : KeyT P mt et enc) (k : K) (ms : List (K × V × Nat)) {kt : TypeId} (hkt : P.underlying mt = some (.map kt et)) {kd : TypeDesc} (hkd : P.underlying kt = some kd) (w : World) :
    (Instr.findKey kt (enc k) (ents enc encv ms)).run P w = .ok ((MP.find k ms 0).map fun p => (p.1, encv p.2)) w := by
  obtain ⟨kt', h1, h2, h3, h4⟩ := h.kt
  rw [hkt] at h1
  cases h1
  unfold Instr.findKey
  simp only [Sem.run_bind, run_und hkd, Result.andThen_ok]
  rcases findNow_spec (encv := encv) (fun b => h4 k b kd hkd) ms 0 with e | e
  · rw [e]; exact findAsking_spec (fun b w => h2 k b w) ms 0 w
  · rw [e]; simp

omit [DecidableEq K] in
theorem KeyT.kd (h : KeyT P mt et enc) : ∃ kt kd, P.underlying mt = some (.map kt et) ∧ P.underlying kt = some kd := by
  obtain ⟨kt, d, cl, h1, h2, h3, h4, h5⟩ := h.ex
  cases d with
  | zero => exact absurd rfl h3
  | succ d =>
    unfold clsT at h4
    cases hkd : P.underlying kt with
    | none => rw [hkd] at h4; cases h4
    | some kd => exact ⟨kt, kd, h1, hkd⟩

theorem lookup_is (h : KeyT P mt et enc) {z : Value} (hz : zeroT P et = some z) (ms : List (K × V × Nat)) (k : K) :
    LookupIs P mt (ents enc encv ms) (enc k) (match MP.get ms k with | some v => encv v | none => z) (MP.get ms k).isSome := by
  intro w b c ok hh
  obtain ⟨kt, kd, h1, h2⟩ := h.kd
  obtain ⟨kt', h1', h3, h4, h5⟩ := h.kt
  rw [h1] at h1'
  cases h1'
  unfold Instr.lookup
  have hg : (getObj b).run P w = .ok (.map (ents enc encv ms).toArray c) w := by simp [getObj, Sem.run, hh]
  simp only [Sem.run_bind, run_und h1, Result.andThen_ok, hg, Sem.run_pure, h4, findKey_spec h k ms h1 h2]
  unfold MP.get
  cases MP.find k ms 0 with
  | none => cases ok <;> simp [run_zero hz]
  | some p => cases ok <;> simp

theorem put_find_none {k : K} {v : V} {c : Nat} : ∀ {ms : List (K × V × Nat)} {i : Nat}, MP.find k ms i = none → MP.put ms k v c = ms ++ [(k, v, c)]
  | [], _, _ => rfl
  | x :: ms, i, h => by
    unfold MP.find at h
    split at h
    · cases h
    · rename_i hk
      simp [MP.put, hk, put_find_none h]
theorem put_find_some {k : K} {v : V} {c : Nat} : ∀ {ms : List (K × V × Nat)} {i : Nat} {p : Nat × V}, MP.find k ms i = some p → i ≤ p.1 ∧ ∃ x, ms[p.1 - i]? = some x ∧ x.1 = k ∧ x.2.1 = p.2 ∧ MP.put ms k v c = ms.set (p.1 - i) (k, v, x.2.2) ∧ MP.del ms k = ms.eraseIdx (p.1 - i)
  | [], _, _, h => by cases h
  | x :: ms, i, p, h => by
    unfold MP.find at h
    split at h
    · rename_i hk
      cases h
      exact ⟨Nat.le_refl _, x, by simp, hk.symm, rfl, by simp [MP.put, hk], by simp [MP.del, hk]⟩
    · rename_i hk
      obtain ⟨h1, y, h2, h3, h4, h5, h6⟩ := put_find_some (v := v) (c := c) h
      obtain ⟨q, hq⟩ : ∃ q, p.1 - i = q + 1 := ⟨p.1 - (i + 1), by omega⟩
      have hq' : p.1 - (i + 1) = q := by omega
      rw [hq'] at h2 h5 h6
      exact ⟨by omega, y, by rw [hq]; simpa using h2, h3, h4, by rw [hq]; simp [MP.put, hk, h5], by rw [hq]; simp [MP.del, hk, h6]⟩

theorem del_find_none {k : K} : ∀ {ms : List (K × V × Nat)} {i : Nat}, MP.find k ms i = none → MP.del ms k = ms
  | [], _, _ => rfl
  | x :: ms, i, h => by
    unfold MP.find at h
    split at h
    · cases h
    · rename_i hk
      simp [MP.del, hk, del_find_none h]

theorem update_is (h : KeyT P mt et enc) (ms : List (K × V × Nat)) (c : Nat) (k : K) (v : V) :
    UpdateIs P mt (ents enc encv ms) c (enc k) (encv v) (ents enc encv (MP.put ms k v c)) (if (MP.get ms k).isSome then c else c + 1) := by
  intro w b hh
  obtain ⟨kt, kd, h1, h2⟩ := h.kd
  obtain ⟨kt', h1', h3, h4, h5⟩ := h.kt
  rw [h1] at h1'
  cases h1'
  have hlt := (Array.getElem?_eq_some_iff.1 hh).1
  have hg : (getObj b).run P w = .ok (.map (ents enc encv ms).toArray c) w := by simp [getObj, Sem.run, hh]
  have hs : ∀ o : Obj, (setObj b o).run P w = .ok () { w with heap := w.heap.setIfInBounds b o } := by
    intro o; simp only [setObj, Sem.run, hh]
  unfold Instr.mapUpdate
  simp only [Sem.run_bind, run_und h1, Result.andThen_ok, hg, h4, findKey_spec h k ms h1 h2]
  unfold MP.get
  cases hf : MP.find k ms 0 with
  | none =>
    simp only [Option.map_none, hs, put_find_none hf]
    simp [ents, ent]
  | some p =>
    obtain ⟨_, x, g1, g2, g3, g4, _⟩ := put_find_some (v := v) (c := c) hf
    simp only [Nat.sub_zero] at g1 g4
    have hkey : ((ents enc encv ms).toArray[p.1]?.map (·.key)).getD (enc k) = enc k := by
      simp [ents, g1, ent, g2]
    simp only [Option.map_some, Sem.run_bind, hkey, Instr.keyThatStays, h.bits, if_true, Sem.run_pure, Result.andThen_ok, hs]
    congr 1
    have : (ents enc encv ms).toArray.modify p.1 (fun e => { e with key := enc k, val := encv v }) = (ents enc encv (MP.put ms k v c)).toArray := by
      apply Array.ext_getElem?
      intro j
      rw [g4]
      simp only [ents, List.getElem?_toArray, List.getElem?_map, Array.getElem?_modify]
      by_cases hj : p.1 = j
      · subst hj
        have hl := (List.getElem?_eq_some_iff.1 g1).1
        have hx : ms[p.1] = x := by rw [List.getElem?_eq_getElem hl] at g1; exact Option.some.inj g1
        simp [hl, ent, hx]
      · simp [hj, List.getElem?_set_ne hj]
    rw [this]
    simp

theorem map_erase {A B : Type} (f : A → B) : ∀ (l : List A) (i : Nat), (l.eraseIdx i).map f = (l.map f).eraseIdx i
  | [], _ => rfl
  | _ :: _, 0 => rfl
  | x :: l, i + 1 => by simp [List.eraseIdx, map_erase f l i]

theorem delete_is (h : KeyT P mt et enc) (ms : List (K × V × Nat)) (k : K) : DeleteIs P mt (ents enc encv ms) (enc k) (ents enc encv (MP.del ms k)) := by
  intro w b c hh
  obtain ⟨kt, kd, h1, h2⟩ := h.kd
  obtain ⟨kt', h1', h3, h4, h5⟩ := h.kt
  rw [h1] at h1'
  cases h1'
  have hlt := (Array.getElem?_eq_some_iff.1 hh).1
  have hg : (getObj b).run P w = .ok (.map (ents enc encv ms).toArray c) w := by simp [getObj, Sem.run, hh]
  have hs : ∀ o : Obj, (setObj b o).run P w = .ok () { w with heap := w.heap.setIfInBounds b o } := by
    intro o; simp only [setObj, Sem.run, hh]
  have a0 : (#[mt, 0] : Array TypeId)[0]? = some mt := rfl
  have b0 : (#[Value.map (some b), enc k] : Array Value)[0]? = some (.map (some b)) := rfl
  have b1 : (#[Value.map (some b), enc k] : Array Value)[1]? = some (enc k) := rfl
  unfold Builtin.delete_
  simp only [a0, b0, b1, Sem.run_bind, run_und h1, Result.andThen_ok, hg, h4, findKey_spec h k ms h1 h2]
  cases hf : MP.find k ms 0 with
  | none =>
    simp only [Option.map_none, Sem.run_bind, hs, del_find_none hf, Result.andThen_ok, Sem.run_pure]
  | some p =>
    obtain ⟨_, x, g1, g2, g3, _, g5⟩ := put_find_some (v := p.2) (c := c) hf
    simp only [Nat.sub_zero] at g1 g5
    simp only [Option.map_some, Sem.run_bind, hs, Result.andThen_ok, Sem.run_pure]
    have : (ents enc encv ms).toArray.eraseIdxIfInBounds p.1 = (ents enc encv (MP.del ms k)).toArray := by
      rw [g5]
      have hl := (List.getElem?_eq_some_iff.1 g1).1
      apply Array.toList_inj.1
      simp [ents, Array.eraseIdxIfInBounds, hl, map_erase]
    rw [this]
end
end Go.V

namespace Go.V
open Go

abbrev iv (n : Int) : SV := .raw (.int .i64 n)
abbrev bv (b : Bool) : SV := .raw (.bool b)

/-! ### Vectors of seven -/
abbrev vcells (v : Nat → Int) : List SV := [iv (v 0), iv (v 1), iv (v 2), iv (v 3), iv (v 4), iv (v 5), iv (v 6)]
theorem vcells_get (v : Nat → Int) (i : Nat) (h : i < 7) (l : List SV) : (vcells v ++ l)[i]? = some (iv (v i)) := by
  match i, h with | 0, _ | 1, _ | 2, _ | 3, _ | 4, _ | 5, _ | 6, _ => rfl
theorem vcells_get' (v : Nat → Int) {n : Int} (h : 0 ≤ n ∧ n < 7) (l : List SV) : (vcells v ++ l)[0 + n.toNat * 1]? = some (iv (v n.toNat)) := by
  rw [Nat.zero_add, Nat.mul_one]; exact vcells_get v _ (by omega) l
def upv (v : Nat → Int) (i : Nat) (x : Int) : Nat → Int := fun j => if j = i then x else v j
theorem vcells_put (v : Nat → Int) (x : Int) {n : Int} (h : 0 ≤ n ∧ n < 7) (l : List SV) : paste (vcells v ++ l) (0 + n.toNat * 1) [iv x] = some (vcells (upv v n.toNat x) ++ l) := by
  rw [Nat.zero_add, Nat.mul_one]
  have h7 : n.toNat < 7 := by omega
  generalize n.toNat = i at *
  match i, h7 with | 0, _ | 1, _ | 2, _ | 3, _ | 4, _ | 5, _ | 6, _ => simp [paste, upv]
theorem wrap64 {n : Int} (h : -9223372036854775808 ≤ n ∧ n ≤ 9223372036854775807) : IntKind.i64.wrap n = n := IntWalk.i64_in n h

/-! ### Association lists -/
section
variable {K V : Type} [DecidableEq K]
theorem find_any (k : K) : ∀ (ms : List (K × V × Nat)) (i j : Nat), (MP.find k ms i).map (·.2) = (MP.find k ms j).map (·.2)
  | [], _, _ => rfl
  | x :: ms, i, j => by
    unfold MP.find
    split
    · rfl
    · exact find_any k ms _ _
theorem get_nil (k : K) : MP.get ([] : List (K × V × Nat)) k = none := rfl
theorem get_cons (x : K × V × Nat) (ms : List (K × V × Nat)) (k : K) : MP.get (x :: ms) k = if k = x.1 then some x.2.1 else MP.get ms k := by
  unfold MP.get
  rw [MP.find]
  split
  · rfl
  · exact find_any k ms _ _
theorem get_mem : ∀ {ms : List (K × V × Nat)} {k : K}, (MP.get ms k).isSome = true ↔ k ∈ ms.map (·.1)
  | [], k => by simp [get_nil]
  | x :: ms, k => by
    rw [get_cons]
    by_cases h : k = x.1
    · simp [h]
    · simp only [h, if_false, get_mem (ms := ms), List.map_cons, List.mem_cons, false_or]
theorem get_put : ∀ (ms : List (K × V × Nat)) (k : K) (v : V) (c : Nat) (d : K), MP.get (MP.put ms k v c) d = if d = k then some v else MP.get ms d
  | [], k, v, c, d => by
    rw [MP.put, get_cons, get_nil]
  | x :: ms, k, v, c, d => by
    rw [MP.put]
    by_cases h : k = x.1
    · rw [if_pos h, get_cons, get_cons, h]
      by_cases h2 : d = x.1 <;> simp [h2]
    · rw [if_neg h, get_cons, get_cons, get_put ms]
      by_cases h2 : d = x.1
      · simp [h2, Ne.symm h]
      · simp [h2]
theorem keys_put : ∀ (ms : List (K × V × Nat)) (k : K) (v : V) (c : Nat), (MP.put ms k v c).map (·.1) = if k ∈ ms.map (·.1) then ms.map (·.1) else ms.map (·.1) ++ [k]
  | [], k, v, c => by simp [MP.put]
  | x :: ms, k, v, c => by
    rw [MP.put]
    by_cases h : k = x.1
    · simp [h]
    · rw [if_neg h]
      simp only [List.map_cons, keys_put ms, List.mem_cons, h, false_or]
      split <;> simp
theorem nodup_put {ms : List (K × V × Nat)} (h : (ms.map (·.1)).Nodup) (k : K) (v : V) (c : Nat) : ((MP.put ms k v c).map (·.1)).Nodup := by
  rw [keys_put]
  split
  · exact h
  · rename_i hk
    rw [List.nodup_append]
    exact ⟨h, by simp, fun a ha b hb => by simp at hb; subst hb; exact fun e => hk (e ▸ ha)⟩
theorem len_put (ms : List (K × V × Nat)) (k : K) (v : V) (c : Nat) : (MP.put ms k v c).length = if (MP.get ms k).isSome then ms.length else ms.length + 1 := by
  have := congrArg List.length (keys_put ms k v c)
  rw [List.length_map] at this
  rw [this]
  by_cases h : k ∈ ms.map (·.1)
  · rw [if_pos h, if_pos (get_mem.2 h), List.length_map]
  · have h2 : ¬ (MP.get ms k).isSome = true := fun e => h (get_mem.1 e)
    rw [if_neg h, if_neg h2]; simp
theorem keys_del : ∀ (ms : List (K × V × Nat)) (k : K), (MP.del ms k).map (·.1) = (ms.map (·.1)).erase k
  | [], k => rfl
  | x :: ms, k => by
    rw [MP.del]
    by_cases h : k = x.1
    · simp [h]
    · rw [if_neg h]
      simp only [List.map_cons, keys_del ms]
      rw [List.erase_cons_tail]
      simpa using fun e : x.1 = k => h e.symm
theorem get_del : ∀ (ms : List (K × V × Nat)) (k d : K), (ms.map (·.1)).Nodup → MP.get (MP.del ms k) d = if d = k then none else MP.get ms d
  | [], k, d, _ => by simp [MP.del, get_nil]
  | x :: ms, k, d, h => by
    simp only [List.map_cons, List.nodup_cons] at h
    rw [MP.del]
    by_cases hk : k = x.1
    · rw [if_pos hk, get_cons, hk]
      by_cases h2 : d = x.1
      · have : MP.get ms d = none := by
          cases hg : MP.get ms d with
          | none => rfl
          | some v => exact absurd (get_mem.1 (by rw [hg]; rfl)) (h2 ▸ h.1)
        simp [h2, h2 ▸ this]
      · simp [h2]
    · rw [if_neg hk, get_cons, get_cons, get_del ms k d h.2]
      by_cases h2 : d = x.1
      · simp [h2, Ne.symm hk]
      · simp [h2]
theorem nodup_del {ms : List (K × V × Nat)} (h : (ms.map (·.1)).Nodup) (k : K) : ((MP.del ms k).map (·.1)).Nodup := by
  rw [keys_del]; exact h.erase k
/-- A map's entries were born one by one, ahead of its clock. -/
def MOK (ms : List (K × V × Nat)) (c : Nat) : Prop := (∀ x ∈ ms, x.2.2 < c) ∧ (ms.map (·.2.2)).Nodup
omit [DecidableEq K] in
theorem MOK.nil (c : Nat) : MOK ([] : List (K × V × Nat)) c := ⟨by simp, by simp⟩
theorem del_sub : ∀ (ms : List (K × V × Nat)) (k : K), (MP.del ms k).Sublist ms
  | [], _ => .slnil
  | x :: ms, k => by
    rw [MP.del]
    split
    · exact List.sublist_cons_self _ _
    · exact (del_sub ms k).cons_cons _
theorem MOK.del {ms : List (K × V × Nat)} {c : Nat} (h : MOK ms c) (k : K) : MOK (MP.del ms k) c :=
  ⟨fun x hx => h.1 x ((del_sub ms k).subset hx), h.2.sublist ((del_sub ms k).map _)⟩
theorem put_born : ∀ (ms : List (K × V × Nat)) (k : K) (v : V) (c : Nat), (MP.put ms k v c).map (·.2.2) = if (MP.get ms k).isSome then ms.map (·.2.2) else ms.map (·.2.2) ++ [c]
  | [], k, v, c => by simp [MP.put, get_nil]
  | x :: ms, k, v, c => by
    rw [MP.put, get_cons]
    by_cases h : k = x.1
    · simp [h]
    · rw [if_neg h, if_neg h]
      simp only [List.map_cons, put_born ms]
      split <;> simp
theorem MOK.put {ms : List (K × V × Nat)} {c : Nat} (h : MOK ms c) (k : K) (v : V) : MOK (MP.put ms k v c) (if (MP.get ms k).isSome then c else c + 1) := by
  have hb : ∀ n, n ∈ ms.map (·.2.2) → n < c := by
    intro n hn
    obtain ⟨x, hx, rfl⟩ := List.mem_map.1 hn
    exact h.1 x hx
  have hall : ∀ x ∈ MP.put ms k v c, x.2.2 ∈ (MP.put ms k v c).map (·.2.2) := fun x hx => List.mem_map.2 ⟨x, hx, rfl⟩
  constructor
  · intro x hx
    have := hall x hx
    rw [put_born] at this
    split
    · rename_i hs
      rw [if_pos hs] at this
      exact hb _ this
    · rename_i hs
      rw [if_neg hs] at this
      rcases List.mem_append.1 this with h1 | h1
      · have := hb _ h1; omega
      · have : x.2.2 = c := by simpa using h1
        omega
  · rw [put_born]
    split
    · exact h.2
    · rw [List.nodup_append]
      exact ⟨h.2, by simp, fun a ha b hb' => by
        simp at hb'; subst hb'
        have := hb a ha
        omega⟩
end

abbrev dcells (r n : Int) : List SV := [iv r, iv n]
end Go.V

