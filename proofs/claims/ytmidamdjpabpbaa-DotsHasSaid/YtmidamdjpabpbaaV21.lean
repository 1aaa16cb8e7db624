/- Part of the proof that the statement named in the last file holds: lemmas of the prover's own. No conditions. -/
import Derived.Test.YtmidamdjpabpbaaV20
namespace Go.V
open Go

section
variable {P : Program} {ρ0 : Rho} {g : Fr}

/-- A state of which K holds, the first n0 names as at the start. -/
def Sat (P : Program) (n0 : Nat) (ρ0 : Rho) (g : Fr) (K : List SV → List SO → Prop) (a : Act) (w : World) : Prop :=
  ∃ ρ t H, At P ρ H g w t a ∧ a.defers = [] ∧ (∀ k, k < n0 → ρ k = ρ0 k) ∧ n0 ≤ H.length ∧ K t H
def PostX (P : Program) (n0 : Nat) (ρ0 : Rho) (g : Fr) (Q : Ex → List SV → List SO → Prop) : Exit → Act → World → Prop
  | .normal, a, w => Sat P n0 ρ0 g (Q .normal) a w
  | .ret, a, w => Sat P n0 ρ0 g (Q .ret) a w
  | .exit id, a, w => Sat P n0 ρ0 g (Q (.exit id)) a w
  | _, _, _ => False

theorem head_len (gv : Nat → Value) : ∀ (i : Nat) (t : List SV) (l : List (Nat × SV)), (headT gv i t l).length = t.length
  | _, [], _ => by simp [headT]
  | i, _ :: t, [] => by simp [headT, head_len gv (i + 1) t []]
  | i, _ :: t, (j, v) :: l => by
    simp only [headT]
    cases Nat.beq i j <;> simp [head_len gv (i + 1) t]
theorem head_val {ρ' : Rho} {gv : Nat → Value} {V : Nat → Value} (hg : ∀ i, gv i = V i) : ∀ (i : Nat) (t : List SV) (l : List (Nat × SV)), (∀ p ∈ l, val ρ' p.2 = V p.1) →
    ∀ k, k < t.length → val ρ' ((headT gv i t l).getD k un) = V (i + k)
  | _, [], _, _, k, hk => by simp at hk
  | i, _ :: t, [], h, k, hk => by
    cases k with
    | zero => simp [headT, val, hg]
    | succ k =>
      have := head_val hg (i + 1) t [] h k (by simpa using hk)
      simp only [headT, List.getD_cons_succ, this]; congr 1; omega
  | i, _ :: t, (j, v) :: l, h, k, hk => by
    simp only [headT]
    cases hb : Nat.beq i j with
    | true =>
      have hij : i = j := Nat.eq_of_beq_eq_true hb
      cases k with
      | zero => simp only [List.getD_cons_zero, Nat.add_zero]; rw [h (j, v) (by simp), hij]
      | succ k =>
        have := head_val hg (i + 1) t l (fun p hp => h p (by simp [hp])) k (by simpa using hk)
        simp only [List.getD_cons_succ, this]; congr 1; omega
    | false =>
      cases k with
      | zero => simp [val, hg]
      | succ k =>
        have := head_val hg (i + 1) t ((j, v) :: l) h k (by simpa using hk)
        simp only [List.getD_cons_succ, this]; congr 1; omega
theorem head_below {n : Nat} (gv : Nat → Value) : ∀ (i : Nat) (t : List SV) (l : List (Nat × SV)), (∀ p ∈ l, below n p.2 = true) → belowL n (headT gv i t l) = true
  | _, [], _, _ => by simp [headT, belowL]
  | i, _ :: t, [], h => by simp [headT, belowL, below, head_below gv (i + 1) t [] h]
  | i, _ :: t, (j, v) :: l, h => by
    simp only [headT]
    cases Nat.beq i j with
    | true =>
      have h1 := h (j, v) (by simp)
      simp only [belowL, Bool.and_eq_true]
      exact ⟨h1, head_below gv (i + 1) t l (fun p hp => h p (by simp [hp]))⟩
    | false =>
      simp only [belowL, Bool.and_eq_true]
      exact ⟨rfl, head_below gv (i + 1) t _ h⟩
theorem val_nkb (ρ : Rho) (v : SV) : val ρ (nkb v) = val ρ v := by cases v <;> rfl
theorem below_nkb (n : Nat) (v : SV) : below n (nkb v) = below n v := by cases v <;> rfl
theorem pickT_spec {s : Nat → Nat} {t : List SV} : ∀ {l : List (Nat × SV)}, pickT t l = renT s l → ∀ p ∈ l, nkb (t.getD p.1 un) = nkb (ren s p.2)
  | [], _ => by simp
  | (i, v) :: l, h => by
    simp only [pickT, renT, List.cons.injEq] at h
    intro p hp
    rcases List.mem_cons.1 hp with rfl | hp
    · exact h.1
    · exact pickT_spec h.2 p hp

theorem preσ_go : ∀ (k i : Nat) (σ : List Nat), preσ.go i k σ = true → ∀ j, j < k → σ[j]? = some (i + j)
  | 0, _, _, _, _, h => by omega
  | k + 1, i, [], h, _, _ => by simp [preσ.go] at h
  | k + 1, i, x :: σ, h, j, hj => by
    simp only [preσ.go, Bool.and_eq_true, beq_iff_eq] at h
    cases j with
    | zero => simp [h.1]
    | succ j =>
      have := preσ_go k (i + 1) σ h.2 j (by omega)
      simp only [List.getElem?_cons_succ, this]; congr 1; omega

/-- The head of a loop: what is known there. -/
theorem sameLen_eq : ∀ {a b : List SV}, sameLen a b = true → a.length = b.length
  | [], [], _ => rfl
  | _ :: a, _ :: b, h => by simp only [List.length_cons, sameLen_eq (a := a) (b := b) h]
  | [], _ :: _, h => by cases h
  | _ :: _, [], h => by cases h
/-- The head of a loop: what is known there. -/
theorem fits_sat {n0 : Nat} {σ : List Nat} {t : List SV} {live : List (Nat × SV)} {H H0 : List SO} {ρ : Rho} {w : World} {a : Act} {t0 : List SV} (hf : Fits n0 t0 σ t H live H0) (h : At P ρ H g w t a) (hd : a.defers = [])
    (hρ : ∀ k, k < n0 → ρ k = ρ0 k) : ∃ gv, Sat P n0 ρ0 g (fun t' H' => t' = headT gv 0 t0 live ∧ H' = H0) a w := by
  obtain ⟨h1, h2, h3⟩ := hf
  simp only [Bool.and_eq_true] at h3
  obtain ⟨⟨hσ, hpre⟩, hsl⟩ := h3
  have hlen := sameLen_eq hsl
  obtain ⟨hl, hnd, hlt⟩ := okσ_spec hσ
  have hS := h.s.pick h2 hσ
  have hpre' : ∀ j, j < n0 → σ[j]? = some j := by
    intro j hj
    have := preσ_go n0 0 σ hpre j hj
    simpa using this
  have hinv : ∀ k, sub σ H0.length H.length k < H.length → k < H0.length := by
    intro k hk
    by_cases hk' : k < H0.length
    · exact hk'
    · rw [sub_ge hl (by omega)] at hk; omega
  have hpt := pickT_spec h1
  have hbl : ∀ p ∈ live, below H0.length p.2 = true := by
    intro p hp
    refine below_of_ren hinv p.2 ?_
    rw [← below_nkb, ← hpt p hp, below_nkb]; exact below_getD h.b _
  refine ⟨fun j => val ρ (t.getD j un), fun i => ρ (sub σ H0.length H.length i), _, H0, ⟨?_, head_below _ 0 t0 live hbl, hS⟩, hd, ?_, ?_, rfl, rfl⟩
  · unfold Frm
    rw [h.f]
    congr 1
    apply List.ext_getElem?
    intro i
    rw [valL_eq, valL_eq, List.getElem?_map, List.getElem?_map]
    by_cases hi : i < t0.length
    · have := head_val (ρ' := fun i => ρ (sub σ H0.length H.length i)) (gv := fun j => val ρ (t.getD j un)) (V := fun j => val ρ (t.getD j un)) (fun _ => rfl) 0 t0 live (by
        intro p hp
        rw [← val_nkb ρ (t.getD p.1 un), hpt p hp, val_nkb, val_ren]) i hi
      have hi2 : i < (headT (fun j => val ρ (t.getD j un)) 0 t0 live).length := by rw [head_len]; exact hi
      rw [List.getElem?_eq_getElem (show i < t.length by omega), List.getElem?_eq_getElem hi2]
      rw [List.getD_eq_getElem?_getD, List.getElem?_eq_getElem hi2, Nat.zero_add, List.getD_eq_getElem?_getD, List.getElem?_eq_getElem (show i < t.length by omega)] at this
      simp only [Option.getD_some] at this
      simp only [Option.map_some, this]
    · rw [List.getElem?_eq_none (show t.length ≤ i by omega), List.getElem?_eq_none (show (headT _ 0 t0 live).length ≤ i by rw [head_len]; omega)]; rfl
  · intro k hk
    simp only [sub_get (hpre' k hk)]
    exact hρ k hk
  · rcases Nat.eq_zero_or_pos n0 with h0 | h0
    · omega
    · have := (List.getElem?_eq_some_iff.1 (hpre' (n0 - 1) (by omega))).1
      omega

theorem exists_least {p : Nat → Prop} (h : ∃ n, p n) : ∃ n, p n ∧ ∀ m, p m → n ≤ m := by
  obtain ⟨n, hn⟩ := h
  induction n using Nat.strongRecOn with
  | _ n ih =>
    by_cases hc : ∃ m, m < n ∧ p m
    · obtain ⟨m, hm, hp⟩ := hc
      exact ih m hm hp
    · exact ⟨n, hn, fun m hm => Nat.le_of_not_lt fun hlt => hc ⟨m, hlt, hm⟩⟩

/-- A loop whose measure is told by a ghost. -/
theorem wp_loop_ghost {c : Code} {Q : Exit → Act → World → Prop} {X : Type} (R : X → Act → World → Prop) (μ : X → Nat) {a : Act} {w : World} (x0 : X) (h0 : R x0 a w)
    (round : ∀ x a w, R x a w → c.wp P (Exit.then (fun a' w' => ∃ x', R x' a' w' ∧ μ x' < μ x) Q) a w) : (Code.loop c).wp P Q a w := by
  classical
  have hex : ∀ a w, (∃ x, R x a w) → ∃ n, (∃ x, R x a w ∧ μ x = n) ∧ ∀ m, (∃ x, R x a w ∧ μ x = m) → n ≤ m := fun a w ⟨x, hx⟩ => exists_least ⟨μ x, x, hx, rfl⟩
  refine wp_loop (fun a w => ∃ x, R x a w) (fun a w => if h : ∃ x, R x a w then Classical.choose (hex a w h) else 0) ⟨x0, h0⟩ ?_
  intro a w hI
  obtain ⟨⟨x, hx, hxn⟩, _⟩ := Classical.choose_spec (hex a w hI)
  refine wp_mono (round x a w hx) ?_
  intro e a' w' he
  cases e <;> first | exact he | skip
  obtain ⟨x', hx', hlt⟩ := he
  refine ⟨⟨x', hx'⟩, ?_⟩
  have h1 : ∃ x, R x a' w' := ⟨x', hx'⟩
  simp only [dif_pos hI, dif_pos h1]
  have h2 := (Classical.choose_spec (hex a' w' h1)).2 (μ x') ⟨x', hx', rfl⟩
  omega

theorem vcCode_sound (hm : P.follows .mixedOrders = true) {plans : List (Nat × Pl)} {n0 : Nat} : ∀ (c : Code) (vc : VCode), cCode P plans c = some vc →
    ∀ (Q : Ex → List SV → List SO → Prop) (ρ : Rho) (H : List SO) (w : World) (t : List SV) (a : Act), At P ρ H g w t a → a.defers = [] → (∀ k, k < n0 → ρ k = ρ0 k) → n0 ≤ H.length →
      vcCode P n0 vc t H Q → c.wp P (PostX P n0 ρ0 g Q) a w
  | .skip, vc, hc, Q, ρ, H, w, t, a, h, hd, hρ, hl, hv => by
    simp only [cCode, Option.some.injEq] at hc
    subst hc
    exact wp_skip ⟨ρ, t, H, h, hd, hρ, hl, hv⟩
  | .region id ops draw, vc, hc, Q, ρ, H, w, t, a, h, hd, hρ, hl, hv => by
    simp only [cCode, Option.bind_eq_bind, Option.bind_eq_some_iff, Option.pure_def] at hc
    obtain ⟨l, hl', hc⟩ := hc
    have hQ : ∀ a' w', Nxt P ρ H g (Q .normal) a' w' → PostX P n0 ρ0 g Q .normal a' w' := by
      rintro a' w' ⟨ρ', t', H', e1, e2, e3, e4, e5⟩
      exact ⟨ρ', t', H', e1, e2, fun k hk => (e3 k (by omega)).trans (hρ k hk), by omega, e5⟩
    cases draw with
    | true =>
      simp only [if_true, Option.bind_eq_some_iff] at hc
      obtain ⟨p, _, hc⟩ := hc
      cases hp : planFits ops l p with
      | false => rw [hp] at hc; cases hc
      | true =>
        rw [hp] at hc
        simp only [cond_true, Option.some.injEq] at hc
        subst hc
        exact vcDraw_region hm hl' hp (fun _ _ _ h => h) hQ h hd hv
    | false =>
      simp only [Bool.false_eq_true, if_false, Option.some.injEq] at hc
      subst hc
      exact vcReg_region hl' hQ h hd hv
  | .seq x y, vc, hc, Q, ρ, H, w, t, a, h, hd, hρ, hl, hv => by
    simp only [cCode, Option.bind_eq_bind, Option.bind_eq_some_iff, Option.pure_def, Option.some.injEq] at hc
    obtain ⟨x', hx, y', hy, rfl⟩ := hc
    simp only [vcCode] at hv
    refine wp_seq (wp_mono (vcCode_sound hm x x' hx _ ρ H w t a h hd hρ hl hv) ?_)
    intro e a' w' he
    cases e with
    | normal =>
      obtain ⟨ρ', t', H', e1, e2, e3, e4, e5⟩ := he
      exact vcCode_sound hm y y' hy Q ρ' H' w' t' a' e1 e2 e3 e4 e5
    | exit id => exact he
    | ret => exact he
    | goto l => exact he
    | panic ch => exact he
    | outgrown => exact he
  | .cond c x y, vc, hc, Q, ρ, H, w, t, a, h, hd, hρ, hl, hv => by
    simp only [cCode, Option.bind_eq_bind, Option.bind_eq_some_iff, Option.pure_def, Option.some.injEq] at hc
    obtain ⟨c', hcc, x', hx, y', hy, rfl⟩ := hc
    simp only [vcCode, evK_eq] at hv
    have he := h.eq hcc
    split at hv
    · rename_i e1
      exact wp_cond_true (by rw [he, e1]; rfl) (vcCode_sound hm x x' hx Q ρ H w t a h hd hρ hl hv)
    · rename_i e1
      exact wp_cond_false (by rw [he, e1]; rfl) (vcCode_sound hm y y' hy Q ρ H w t a h hd hρ hl hv)
    · rename_i p e1
      exact wp_cond_split (t := p) (by rw [he, e1]; rfl) (fun hp => vcCode_sound hm x x' hx Q ρ H w t a h hd hρ hl (hv.1 hp)) (fun hp => vcCode_sound hm y y' hy Q ρ H w t a h hd hρ hl (hv.2 hp))
    · exact hv.elim
  | .block id x, vc, hc, Q, ρ, H, w, t, a, h, hd, hρ, hl, hv => by
    simp only [cCode, Option.bind_eq_bind, Option.bind_eq_some_iff, Option.pure_def, Option.some.injEq] at hc
    obtain ⟨x', hx, rfl⟩ := hc
    simp only [vcCode] at hv
    refine wp_block (wp_mono (vcCode_sound hm x x' hx _ ρ H w t a h hd hρ hl hv) ?_)
    intro e a' w' he
    cases e with
    | normal => exact he
    | exit i =>
      simp only [PostX, Sat] at he
      simp only [Exit.inBlock]
      obtain ⟨ρ', t', H', e1, e2, e3, e4, e5⟩ := he
      by_cases hid : i = id
      · subst hid
        rw [if_pos rfl]
        simp only [beq_self_eq_true, cond_true] at e5
        exact ⟨ρ', t', H', e1, e2, e3, e4, e5⟩
      · rw [if_neg hid]
        have : (i == id) = false := by simpa using hid
        rw [this] at e5
        exact ⟨ρ', t', H', e1, e2, e3, e4, e5⟩
    | ret => exact he
    | goto l => exact he
    | panic ch => exact he
    | outgrown => exact he
  | .loop x, vc, hc, Q, ρ, H, w, t, a, h, hd, hρ, hl, hv => by
    simp only [cCode, Option.bind_eq_bind, Option.bind_eq_some_iff, Option.pure_def, Option.some.injEq] at hc
    obtain ⟨x', hx, rfl⟩ := hc
    simp only [vcCode] at hv
    obtain ⟨X, live, HH, inv, μ, z0, σ0, ⟨hi0, hf0⟩, round⟩ := hv
    refine wp_loop_ghost (fun z a w => inv z ∧ ∃ gv, Sat P n0 ρ0 g (fun t' H' => t' = headT gv 0 t (live z) ∧ H' = HH z) a w) μ z0 ⟨hi0, fits_sat hf0 h hd hρ⟩ ?_
    rintro z a' w' ⟨hi, gv, ρ', _, _, e1, e2, e3, e4, rfl, rfl⟩
    have hr := round z hi gv
    rw [liveK_eq, fHK_eq] at hr
    refine wp_mono (vcCode_sound hm x x' hx _ ρ' (HH z) w' _ a' e1 e2 e3 e4 hr) ?_
    intro e a2 w2 he
    cases e with
    | normal =>
      obtain ⟨ρ2, t2, H2, f1, f2, f3, f4, z2, σ2, ⟨f5, f6⟩, f7⟩ := he
      exact ⟨z2, ⟨f5, fits_sat f7 f1 f2 f3⟩, f6⟩
    | exit id => exact he
    | ret => exact he
    | goto l => exact he
    | panic ch => exact he
    | outgrown => exact he
  | .exit id, vc, hc, Q, ρ, H, w, t, a, h, hd, hρ, hl, hv => by
    simp only [cCode, Option.some.injEq] at hc
    subst hc
    exact wp_exit ⟨ρ, t, H, h, hd, hρ, hl, hv⟩
  | .ret, vc, hc, Q, ρ, H, w, t, a, h, hd, hρ, hl, hv => by
    simp only [cCode, Option.some.injEq] at hc
    subst hc
    exact wp_ret ⟨ρ, t, H, h, hd, hρ, hl, hv⟩
  | .rangeFunc .., vc, hc, _, _, _, _, _, _, _, _, _, _, _ => by simp [cCode] at hc
  | .scope _, vc, hc, _, _, _, _, _, _, _, _, _, _, _ => by simp [cCode] at hc
  | .label _, vc, hc, _, _, _, _, _, _, _, _, _, _, _ => by simp [cCode] at hc
  | .goto _, vc, hc, _, _, _, _, _, _, _, _, _, _, _ => by simp [cCode] at hc
  | .refuse _, vc, hc, _, _, _, _, _, _, _, _, _, _, _ => by simp [cCode] at hc

/-! ### Functions -/
def cRes1 (P : Program) : ResultVar → Option VRes
  | .tmp t => some (.t t)
  | .cell a t => (shapeT P t).map (.cell a)
theorem normB_val (ρ : Rho) (v : SV) : val ρ (normB v) = val ρ v := by cases v <;> rfl
theorem res_one {ρ : Rho} {H : List SO} {w : World} {t : List SV} {a : Act} (h : At P ρ H g w t a) {r : ResultVar} {r' : VRes} (hc : cRes1 P r = some r') {v : SV} (hv : resOne t H r' = some v) :
    (match r with | .tmp i => (pure (a.tmps.getD i undef) : Sem Value) | .cell i ty => do loadVar ty (← asAddr (a.tmps.getD i undef))).run P w = .ok (val ρ v) w ∧ below H.length v = true := by
  have hget : ∀ i, a.tmps.getD i undef = val ρ (t.getD i un) := by
    intro i; rw [h.f]; exact val_getD ρ t i
  cases r with
  | tmp i =>
    simp only [cRes1, Option.some.injEq] at hc
    subst hc
    simp only [resOne, Option.some.injEq] at hv
    subst hv
    refine ⟨by simp only [hget, Sem.run_pure, normB_val], ?_⟩
    have := below_getD h.b i
    cases hx : t.getD i un <;> rw [hx] at this <;> first | exact this | rfl
  | cell i ty =>
    simp only [cRes1, Option.map_eq_some_iff] at hc
    obtain ⟨n, hs, rfl⟩ := hc
    simp only [resOne] at hv
    split at hv
    · rename_i k o e
      split at hv
      · rename_i l el hk
        obtain ⟨_, hsc, b, hb, hh⟩ := cells_of h.s hk
        have hadr : (asAddr (a.tmps.getD i undef)).run P w = .ok ⟨b, o, none⟩ w := by
          rw [hget, e]; simp [val, hb, asAddr]
        cases n with
        | none =>
          simp only at hv
          refine ⟨?_, (belowL_eq _ _).1 hsc v (List.mem_of_getElem? hv)⟩
          have := run_loadVar1 (P := P) (w := w) (a := ⟨b, o, none⟩) (v := val ρ v) hs (by rw [cell_of hh, valL_eq]; simp [hv])
          simp only [Sem.run_bind, hadr, Result.andThen_ok, this]
        | some m =>
          simp only [Option.map_eq_some_iff] at hv
          obtain ⟨l', hcut, rfl⟩ := hv
          obtain ⟨c1, c2⟩ := cut_spec hcut
          refine ⟨?_, ?_⟩
          · have := run_loadVarN (P := P) (w := w) (a := ⟨b, o, none⟩) (l := valL ρ l') (by rw [valL_eq, List.length_map, c1]; exact hs) (by
              intro j v hj
              rw [add_eq, cell_of hh]
              rw [valL_eq] at hj ⊢
              have hjl : j < m := by have := (List.getElem?_eq_some_iff.1 hj).1; simpa [c1] using this
              rw [List.getElem?_map, c2 j hjl] at hj
              simpa using hj)
            simp only [Sem.run_bind, hadr, Result.andThen_ok, this, val]
          · simp only [below]; rw [belowL_eq] at hsc ⊢; exact fun v hv => hsc v (cut_mem hcut v hv)
      · cases hv
    · cases hv

theorem res_all {ρ : Rho} {H : List SO} {w : World} {t : List SV} {a : Act} (h : At P ρ H g w t a) : ∀ {l : List ResultVar} {l' : List VRes} {vs : List SV}, l.mapM (cRes1 P) = some l' → resAll t H l' = some vs →
    (l.mapM (m := Sem) fun r => match r with | .tmp i => (pure (a.tmps.getD i undef) : Sem Value) | .cell i ty => do loadVar ty (← asAddr (a.tmps.getD i undef))).run P w = .ok (valL ρ vs) w ∧ belowL H.length vs = true
  | [], l', vs, hc, hv => by
    simp at hc; subst hc
    simp [resAll] at hv; subst hv
    exact ⟨by simp [valL], rfl⟩
  | r :: l, l', vs, hc, hv => by
    simp [List.mapM_cons, Option.bind_eq_some_iff] at hc
    obtain ⟨r', hr, l2, hl, rfl⟩ := hc
    simp only [resAll] at hv
    split at hv
    · rename_i x xs e1 e2
      cases hv
      obtain ⟨h1, h2⟩ := res_one h hr e1
      obtain ⟨h3, h4⟩ := res_all h hl e2
      refine ⟨?_, by simp [belowL, h2, h4]⟩
      simp only [List.mapM_cons, Sem.run_bind, h1, Result.andThen_ok, h3, Sem.run_pure, valL]
    · cases hv

/-- A function, by its condition. -/
theorem spec_of_vc {f : FuncId} {fn : Func} {c : Code} {plans : List (Nat × Pl)} {vc : VCode} {rs : List VRes} {args : List SV} {H : List SO} {Post : SV → List SO → Prop}
    (hm : P.follows .mixedOrders = true) (hf : P.funcs[f]? = some fn) (hb : fn.body = some c) (hc : cCode P plans c = some vc) (hr : fn.results.toList.mapM (cRes1 P) = some rs)
    (hv : vcFun P fn.ntmps rs vc args H Post) : Ctr P f args H Post := by
  intro ρ g w hS hba
  refine calls_of_wp hf hb ?_
  simp only [vcFun, padK_eq, natK_eq] at hv
  have hA : At P ρ H g w (args ++ List.replicate (fn.ntmps - args.length) un) { tmps := (valL ρ args).toArray ++ Array.replicate (fn.ntmps - (valL ρ args).toArray.size) undef, defers := [] } := by
    refine ⟨?_, ?_, hS⟩
    · simp only [Frm]
      apply Array.toList_inj.1
      simp [valL_eq, val, undef]
    · rw [belowL_append]
      refine ⟨hba, ?_⟩
      rw [belowL_eq]
      intro v hv
      rw [(List.mem_replicate.1 hv).2]; rfl
  refine wp_mono (vcCode_sound (ρ0 := ρ) (g := g) (n0 := H.length) hm c vc hc _ ρ H w _ _ hA rfl (fun _ _ => rfl) (Nat.le_refl _) hv) ?_
  have key : ∀ a' w', Sat P H.length ρ g (fun t H' => match resSV t H' rs with | some v => fK v fun v => VRet H.length v H' Post | none => False) a' w' →
      a'.defers = [] ∧ ∃ v, (results fn a'.tmps).run P w' = .ok v w' ∧ ∃ ρ' sv H', (Ending.returned v) = .returned (val ρ' sv) ∧ St ρ' H' g w' ∧ (∀ k, k < H.length → ρ' k = ρ k) ∧ H.length ≤ H'.length ∧ below H'.length sv = true ∧ Post sv H' := by
    rintro a' w' ⟨ρ', t', H', e1, e2, e3, e4, e5⟩
    refine ⟨e2, ?_⟩
    split at e5
    · rename_i v ev
      rw [fK_eq] at e5
      have last : below H'.length v = true → ∃ ρ2 sv H2, val ρ' v = val ρ2 sv ∧ St ρ2 H2 g w' ∧ (∀ k, k < H.length → ρ2 k = ρ k) ∧ H.length ≤ H2.length ∧ below H2.length sv = true ∧ Post sv H2 := by
        intro hbv
        obtain ⟨σ, v2, H2, ⟨f1, f2, f3⟩, hpost⟩ := e5
        simp only [Bool.and_eq_true] at f3
        obtain ⟨hσ, hpre⟩ := f3
        obtain ⟨hl, hnd, hlt⟩ := okσ_spec hσ
        have hpre' : ∀ j, j < H.length → σ[j]? = some j := by
          intro j hj
          have := preσ_go H.length 0 σ hpre j hj
          simpa using this
        have hinv : ∀ k, sub σ H2.length H'.length k < H'.length → k < H2.length := by
          intro k hk
          by_cases hk' : k < H2.length
          · exact hk'
          · rw [sub_ge hl (by omega)] at hk; omega
        refine ⟨fun i => ρ' (sub σ H2.length H'.length i), v2, H2, by rw [f1, val_ren], e1.s.pick f2 hσ, ?_, ?_, below_of_ren hinv v2 (f1 ▸ hbv), hpost⟩
        · intro k hk
          simp only [sub_get (hpre' k hk)]
          exact e3 k hk
        · rcases Nat.eq_zero_or_pos H.length with h0 | h0
          · omega
          · have := (List.getElem?_eq_some_iff.1 (hpre' (H.length - 1) (by omega))).1
            omega
      unfold resSV at ev
      have fin : ∀ vs : List SV, resAll t' H' rs = some vs → (vs.length = 1 → [v] = vs) → (vs.length ≠ 1 → v = .tup vs) → (results fn a'.tmps).run P w' = .ok (val ρ' v) w' ∧ below H'.length v = true := by
        intro vs h1 h2 h3
        obtain ⟨r1, r2⟩ := res_all e1 hr h1
        have hres : (results fn a'.tmps).run P w' = .ok (if h : (valL ρ' vs).toArray.size = 1 then (valL ρ' vs).toArray[0] else .tuple (valL ρ' vs).toArray) w' := by
          unfold results
          rw [Array.mapM_eq_mapM_toList]
          simp only [Sem.run_bind, Sem.run_map]
          have := r1
          erw [this]
          simp only [Result.andThen_ok, Sem.run_pure]
        rw [hres]
        by_cases hl1 : vs.length = 1
        · have := h2 hl1
          subst this
          simp only [belowL, Bool.and_true] at r2
          simp [valL, r2]
        · have := h3 hl1
          subst this
          have : ¬ ((valL ρ' vs).toArray.size = 1) := by simpa [valL_eq] using hl1
          rw [dif_neg this]
          exact ⟨rfl, by simpa [below] using r2⟩
      split at ev
      · rename_i x hx
        cases ev
        obtain ⟨q1, q2⟩ := fin _ hx (fun _ => rfl) (fun h => absurd rfl h)
        obtain ⟨ρ2, sv, H2, g1, g2, g3, g4, g5, g6⟩ := last q2
        exact ⟨_, q1, ρ2, sv, H2, by rw [g1], g2, g3, g4, g5, g6⟩
      · rename_i l hne hx
        cases ev
        obtain ⟨q1, q2⟩ := fin _ hx (fun h => by
          obtain ⟨y, rfl⟩ := List.length_eq_one_iff.1 h
          exact absurd rfl (hne y)) (fun _ => rfl)
        obtain ⟨ρ2, sv, H2, g1, g2, g3, g4, g5, g6⟩ := last q2
        exact ⟨_, q1, ρ2, sv, H2, by rw [g1], g2, g3, g4, g5, g6⟩
      · cases ev
    · exact e5.elim
  intro e a' w' he
  cases e with
  | normal => exact key a' w' he
  | ret => exact key a' w' he
  | exit id =>
    obtain ⟨ρ', t', H', e1, e2, e3, e4, e5⟩ := he
    exact e5.elim
  | goto l => exact he
  | panic ch => exact he.elim
  | outgrown => exact he.elim
/-- Function f is this code. -/
def Is (P : Program) (f : FuncId) (nt : Nat) (rs : List VRes) (vc : VCode) : Prop :=
  ∃ fn c plans, P.funcs[f]? = some fn ∧ fn.body = some c ∧ cCode P plans c = some vc ∧ fn.results.toList.mapM (cRes1 P) = some rs ∧ fn.ntmps = nt
theorem Is.spec {f : FuncId} {nt : Nat} {rs : List VRes} {vc : VCode} {args : List SV} {H : List SO} {Post : SV → List SO → Prop} (h : Is P f nt rs vc) (hm : P.follows .mixedOrders = true)
    (hv : vcFun P nt rs vc args H Post) : Ctr P f args H Post := by
  obtain ⟨fn, c, plans, h1, h2, h3, h4, rfl⟩ := h
  exact spec_of_vc hm h1 h2 h3 h4 hv
end
end Go.V
