/- Part of the proof that the statement named in the last file holds: lemmas of the prover's own. No conditions. -/
import Derived.Test.YtmidamdjpabpbaaV16
namespace Go.V
open Go

section
variable {P : Program} {ρ : Rho} {H : List SO} {g : Fr} {w : World} {t : List SV} {a : Act} {ops : Array Oper} {Q : Exit → Act → World → Prop}

/-- The state behind an instruction. -/
def Nxt (P : Program) (ρ : Rho) (H : List SO) (g : Fr) (K : List SV → List SO → Prop) (a' : Act) (w' : World) : Prop :=
  ∃ ρ' t' H', At P ρ' H' g w' t' a' ∧ a'.defers = [] ∧ (∀ k, k < H.length → ρ' k = ρ k) ∧ H.length ≤ H'.length ∧ K t' H'

theorem Res.next {K : List SV → List SO → Prop} (h : At P ρ H g w t a) (hd : a.defers = []) {d : Option Nat} {v : Value} {w' : World} (hr : Res ρ H g (fun sv H' => K (put t d sv) H') v w') : Nxt P ρ H g K (a.put d v) w' := by
  obtain ⟨ρ', sv, H', rfl, hS, hρ, hl, hb, hk⟩ := hr
  refine ⟨ρ', put t d sv, H', ⟨(h.f.ext hρ h.b).put d sv, belowL_put (belowL_mono hl t h.b) d hb, hS⟩, ?_, hρ, hl, hk⟩
  cases d <;> exact hd

theorem wp_of_good {K : List SV → List SO → Prop} (h : At P ρ H g w t a) (hd : a.defers = []) {o : Oper}
    (hg : GoodRes P ρ H g (fun sv H' => K (put t o.dst sv) H') ((execOp a.eval o).run P w)) : o.wp P a w (Nxt P ρ H g K) Q := by
  unfold Oper.wp
  generalize (execOp a.eval o).run P w = r at *
  cases r with
  | halt x w' => simp [GoodRes] at hg
  | ok n w' =>
    cases n <;> simp only [GoodRes] at hg <;> simp only [Oper.upon]
    case value v => exact hg.next h hd
    case skip => exact hg.next h hd
    case enter f args =>
      refine Calls.mono hg ?_
      rintro e w'' ⟨v, rfl, hr⟩
      exact hr.next h hd

theorem yielded_val {t : List SV} (hf : Frm ρ t a) {j gd : Nat} (hj : (ops[j]?).bind (·.dst) = some gd) {b : Bool} (hv : val ρ (t.getD gd un) = .bool b) : yielded ops a.tmps j = some b := by
  have hlt : gd < t.length := by
    rcases Nat.lt_or_ge gd t.length with h | h
    · exact h
    · rw [List.getD_eq_getElem?_getD, List.getElem?_eq_none h] at hv
      simp [val] at hv
  have : a.tmps[gd]? = some (.bool b) := by
    rw [hf, ← hv]
    simp [valL_eq, List.getElem?_eq_getElem hlt]
  simp [yielded, hj, this]

theorem yielded_un {t : List SV} (hf : Frm ρ t a) {j gd : Nat} (hj : (ops[j]?).bind (·.dst) = some gd) {tv : Array Value} (hv : val ρ (t.getD gd un) = .tuple tv) : yielded ops a.tmps j = none := by
  rcases Nat.lt_or_ge gd t.length with hlt | hge
  · have : a.tmps[gd]? = some (.tuple tv) := by
      rw [hf, ← hv]
      simp [valL_eq, List.getElem?_eq_getElem hlt]
    simp [yielded, hj, this]
  · have : a.tmps[gd]? = none := by
      rw [hf]
      simp [valL_eq, hge]
    simp [yielded, hj, this]

theorem Frm.same {t : List SV} (hf : Frm ρ t a) {j : Nat} {v : SV} (hv : val ρ (t.getD j un) = val ρ v) : Frm ρ (t.set j v) a := by
  unfold Frm at *
  rw [hf]
  congr 1
  rw [valL_eq, valL_eq]
  apply List.ext_getElem?
  intro i
  by_cases hij : j = i
  · subst hij
    by_cases hlt : j < t.length
    · simp [hlt] at hv ⊢; exact hv
    · simp [hlt]
  · simp [List.getElem?_set_ne hij]

theorem cIns_spec {o : Oper} {x : VIns} (hc : cIns P ops o = some x) : cOp P o = some x.op ∧ x.dst = o.dst ∧
    ((o.guard = none ∧ x.guard = none) ∨ ∃ j gd want, o.guard = some (j, want) ∧ (ops[j]?).bind (·.dst) = some gd ∧ x.guard = some (gd, want)) := by
  unfold cIns at hc
  simp only [Option.bind_eq_bind, Option.bind_eq_some_iff] at hc
  obtain ⟨op, h1, hc⟩ := hc
  split at hc
  · rename_i hg
    simp at hc; subst hc
    exact ⟨h1, rfl, .inl ⟨hg, rfl⟩⟩
  · rename_i j want hg
    simp only [Option.bind_eq_some_iff, Option.pure_def, Option.some.injEq] at hc
    obtain ⟨gd, h2, rfl⟩ := hc
    exact ⟨h1, rfl, .inr ⟨j, gd, want, hg, Option.bind_eq_some_iff.2 h2, rfl⟩⟩

/-- An instruction's two ways: it is carried out, or its guard says no; the table may have learned what the guard is. -/
theorem vcIns_cases {o : Oper} {x : VIns} (hc : cIns P ops o = some x) {K : List SV → List SO → Prop} (h : At P ρ H g w t a) (hv : vcIns P x t H K) :
    ∃ t', At P ρ H g w t' a ∧
      ((Region.wanted o (yielded ops a.tmps) = true ∧ vcOp P x.op t' H (fun v H' => K (put t' o.dst v) H') ∧
          (x.guard = none ∨ ∃ gd want, x.guard = some (gd, want) ∧ t'.getD gd un = .kb want)) ∨
       (Region.wanted o (yielded ops a.tmps) = false ∧ K (put t' o.dst un) H)) := by
  obtain ⟨_, hdst, hg⟩ := cIns_spec hc
  unfold vcIns at hv
  rcases hg with ⟨g1, g2⟩ | ⟨j, gd, want, g1, g2, g3⟩
  · rw [g2] at hv
    simp only [putK_eq, hdst] at hv
    exact ⟨t, h, .inl ⟨by simp [Region.wanted, g1], hv, .inl g2⟩⟩
  · rw [g3] at hv
    simp only [getK_eq] at hv
    have hw : ∀ b, val ρ (t.getD gd un) = .bool b → Region.wanted o (yielded ops a.tmps) = (b == want) := by
      intro b hb
      simp only [Region.wanted, g1, yielded_val h.f g2 hb]
      cases b <;> cases want <;> rfl
    have hset : ∀ b : Bool, val ρ (t.getD gd un) = .bool b → At P ρ H g w (t.set gd (.kb b)) a := fun b hb =>
      ⟨h.f.same (by rw [hb]; rfl), belowL_set h.b gd rfl, h.s⟩
    have hget : ∀ b : Bool, val ρ (t.getD gd un) = .bool b → (t.set gd (.kb b)).getD gd un = .kb b := by
      intro b hb
      have hlt : gd < t.length := by
        rcases Nat.lt_or_ge gd t.length with h | h
        · exact h
        · rw [List.getD_eq_getElem?_getD, List.getElem?_eq_none h] at hb
          simp [val] at hb
      simp [hlt]
    split at hv
    · rename_i b e
      have hb : val ρ (t.getD gd un) = .bool b := by rw [e]; rfl
      have := hw b hb
      cases hbw : b == want with
      | true =>
        simp only [hbw, cond_true, putK_eq, hdst] at hv
        exact ⟨t, h, .inl ⟨by rw [this, hbw], hv, .inr ⟨gd, want, g3, by rw [e]; simp at hbw; rw [hbw]⟩⟩⟩
      | false =>
        simp only [hbw, cond_false, putK_eq, hdst] at hv
        exact ⟨t, h, .inr ⟨by rw [this, hbw], hv⟩⟩
    · rename_i b e
      have hb : val ρ (t.getD gd un) = .bool b := by rw [e]; rfl
      have hwb := hw b hb
      simp only [setK_eq, putK_eq, hdst] at hv
      by_cases hbw : b = want
      · subst hbw
        exact ⟨t.set gd (.kb b), hset b hb, .inl ⟨by rw [hwb]; simp, hv.1 rfl, .inr ⟨gd, b, g3, hget b hb⟩⟩⟩
      · have hbw' : b = !want := by cases b <;> cases want <;> simp_all
        have h2 : K (put (t.set gd (.kb b)) o.dst un) H := by
          have := hv.2 hbw'
          subst hbw'; cases want <;> exact this
        exact ⟨t.set gd (.kb b), hset b hb, .inr ⟨by rw [hwb]; simp [hbw], h2⟩⟩
    · rename_i tv e
      simp only [putK_eq, hdst] at hv
      refine ⟨t, h, .inr ⟨?_, hv⟩⟩
      simp only [Region.wanted, g1, yielded_un h.f g2 (by rw [e]; rfl : V.val ρ (t.getD gd un) = .tuple tv)]
      rfl
    · exact hv.elim

theorem Nxt.here {K : List SV → List SO → Prop} (h : At P ρ H g w t a) (hd : a.defers = []) (d : Option Nat) {sv : SV} (hb : below H.length sv = true) (hk : K (put t d sv) H) : Nxt P ρ H g K (a.put d (val ρ sv)) w :=
  (Res.here (K := fun sv H' => K (put t d sv) H') h.s hb hk).next h hd

theorem vcIns_sound {i : Nat} {o : Oper} {x : VIns} (hi : ops[i]? = some o) (hc : cIns P ops o = some x) {K : List SV → List SO → Prop} (h : At P ρ H g w t a) (hd : a.defers = [])
    (hv : vcIns P x t H K) : wpOp P ops Q i (Nxt P ρ H g K) a w := by
  obtain ⟨t', h', h1 | h1⟩ := vcIns_cases hc h hv
  · obtain ⟨hw, hop, _⟩ := h1
    unfold wpOp
    simp only [hi, hw, if_true]
    exact .inl (wp_of_good h' hd (vcOp_sound h' (cIns_spec hc).1 hop).1)
  · obtain ⟨hw, hk⟩ := h1
    unfold wpOp
    simp only [hi, hw]
    exact Nxt.here h' hd o.dst (sv := un) rfl hk

theorem Nxt.mono {K K' : List SV → List SO → Prop} (hK : ∀ t H', K t H' → K' t H') {a' : Act} {w' : World} (h : Nxt P ρ H g K a' w') : Nxt P ρ H g K' a' w' := by
  obtain ⟨ρ', t', H', h1, h2, h3, h4, h5⟩ := h
  exact ⟨ρ', t', H', h1, h2, h3, h4, hK _ _ h5⟩

theorem vcReg_sound {Q' : List SV → List SO → Prop} (hQ : ∀ a w, Nxt P ρ H g Q' a w → Q .normal a w) : ∀ (l : List VIns) (k : Nat), (∀ j : Nat, (ops.toList.drop k)[j]?.bind (cIns P ops) = l[j]?) → k + l.length = ops.size →
    ∀ {ρ1 : Rho} {H1 : List SO} {w1 : World} {t1 : List SV} {a1 : Act}, At P ρ1 H1 g w1 t1 a1 → a1.defers = [] → (∀ k, k < H.length → ρ1 k = ρ k) → H.length ≤ H1.length →
    vcReg P l t1 H1 Q' → wpOps P ops Q (List.range' k l.length) a1 w1
  | [], k, _, _, ρ1, H1, w1, t1, a1, h, hd, hρ, hl, hv => by
    simp only [List.length_nil, List.range', wpOps]
    exact hQ _ _ ⟨ρ1, t1, H1, h, hd, hρ, hl, hv⟩
  | x :: l, k, hc, hn, ρ1, H1, w1, t1, a1, h, hd, hρ, hl, hv => by
    have h0 := hc 0
    simp only [List.getElem?_cons_zero, List.getElem?_drop, Nat.add_zero] at h0
    cases ho : ops[k]? with
    | none => simp [ho] at h0
    | some o =>
      simp [ho] at h0
      simp only [List.length_cons, List.range', wpOps_cons]
      simp only [vcReg] at hv
      refine wpOp_mono ?_ (vcIns_sound ho h0 h hd hv)
      rintro a' w' ⟨ρ', t', H', h1, h2, h3, h4, h5⟩
      refine vcReg_sound hQ l (k + 1) (fun j => ?_) (by simp at hn; omega) h1 h2 (fun k hk => (h3 k (by omega)).trans (hρ k hk)) (by omega) h5
      have := hc (j + 1)
      simp only [List.getElem?_drop, List.getElem?_cons_succ] at this ⊢
      rw [← this]; congr 2; omega

theorem mapM_get {α β : Type} {f : α → Option β} : ∀ {l : List α} {m : List β}, l.mapM f = some m → m.length = l.length ∧ ∀ (j : Nat), (l[j]?).bind f = m[j]?
  | [], m, h => by simp at h; subst h; exact ⟨rfl, by simp⟩
  | x :: l, m, h => by
    simp [List.mapM_cons, Option.bind_eq_some_iff] at h
    obtain ⟨y, hy, m', hm, rfl⟩ := h
    obtain ⟨h1, h2⟩ := mapM_get hm
    refine ⟨by simp [h1], fun j => ?_⟩
    cases j with
    | zero => simp [hy]
    | succ j => simpa using h2 j

theorem vcReg_region {id : Nat} {l : List VIns} (hc : ops.toList.mapM (cIns P ops) = some l) {Q' : List SV → List SO → Prop} (hQ : ∀ a w, Nxt P ρ H g Q' a w → Q .normal a w)
    (h : At P ρ H g w t a) (hd : a.defers = []) (hv : vcReg P l t H Q') : (Code.region id ops false).wp P Q a w := by
  obtain ⟨h1, h2⟩ := mapM_get hc
  refine wp_region ?_
  have := vcReg_sound (ops := ops) (Q := Q) hQ l 0 (by simpa using h2) (by simpa using h1) h hd (fun _ _ => rfl) (Nat.le_refl _) hv
  rw [List.range_eq_range', ← Array.length_toList, ← h1]
  exact this
end
end Go.V
