/- Part of the proof that the statement named in the last file holds: lemmas of the prover's own. No conditions. -/
import Derived.Test.YtmidamdjpabpbaaV14
namespace Go.V
open Go

section
variable {P : Program} {ρ : Rho} {H : List SO} {g : Fr} {w : World} {K : SV → List SO → Prop} {t : List SV} {a : Act} {o : Oper}

/-! ### Blocks under other names -/
theorem nodup_spec : ∀ {σ : List Nat}, nodup σ = true → ∀ (i j k : Nat), σ[i]? = some k → σ[j]? = some k → i = j
  | [], _ => by simp
  | x :: σ, h => by
    simp only [nodup, Bool.and_eq_true, Bool.not_eq_true', List.contains_eq_mem, decide_eq_false_iff_not] at h
    intro i j k hi hj
    cases i with
    | zero =>
      cases j with
      | zero => rfl
      | succ j => simp at hi hj; subst hi; exact absurd (List.mem_of_getElem? hj) h.1
    | succ i =>
      cases j with
      | zero => simp at hi hj; subst hj; exact absurd (List.mem_of_getElem? hi) h.1
      | succ j => simp at hi hj; rw [nodup_spec h.2 i j k hi hj]

theorem okσ_spec {n m : Nat} {σ : List Nat} (h : okσ n m σ = true) : σ.length = n ∧ (∀ (i j k : Nat), σ[i]? = some k → σ[j]? = some k → i = j) ∧ ∀ k ∈ σ, k < m := by
  simp only [okσ, Bool.and_eq_true, beq_iff_eq, List.all_eq_true, decide_eq_true_eq] at h
  exact ⟨h.1.1, nodup_spec h.1.2, h.2⟩

theorem sub_lt {σ : List Nat} {n m k : Nat} (hl : σ.length = n) (hm : ∀ k ∈ σ, k < m) (hk : k < n) : sub σ n m k < m := by
  unfold sub
  rw [List.getElem?_eq_getElem (by omega)]
  exact hm _ (List.getElem_mem _)
theorem sub_get {σ : List Nat} {n m k j : Nat} (h : σ[k]? = some j) : sub σ n m k = j := by simp [sub, h]
theorem sub_some {σ : List Nat} {n m k : Nat} (hl : σ.length = n) (hk : k < n) : σ[k]? = some (sub σ n m k) := by
  simp [sub, List.getElem?_eq_getElem (show k < σ.length by omega)]
theorem sub_ge {σ : List Nat} {n m k : Nat} (hl : σ.length = n) (hk : n ≤ k) : sub σ n m k = m + (k - n) := by
  simp [sub, List.getElem?_eq_none (show σ.length ≤ k by omega)]

mutual
theorem below_of_ren {s : Nat → Nat} {n m : Nat} (h : ∀ k, s k < m → k < n) : ∀ (v : SV), below m (ren s v) = true → below n v = true
  | .raw _ | .kb _ => fun _ => rfl
  | .ptr k _ | .ptx k _ | .sl k _ _ _ | .mp k => fun hb => by
    simp only [ren, below, decide_eq_true_eq] at hb ⊢
    exact h _ hb
  | .agg l | .tup l => fun hb => by
    simp only [ren, below] at hb ⊢
    exact belowL_of_ren h l hb
  | .fn _ l => fun hb => by
    simp only [ren, below] at hb ⊢
    exact belowL_of_ren h l hb
  | .ifc _ v => fun hb => by
    simp only [ren, below] at hb ⊢
    exact below_of_ren h v hb
theorem belowL_of_ren {s : Nat → Nat} {n m : Nat} (h : ∀ k, s k < m → k < n) : ∀ (l : List SV), belowL m (renL s l) = true → belowL n l = true
  | [] => fun _ => rfl
  | v :: l => fun hb => by
    simp only [renL, belowL, Bool.and_eq_true] at hb ⊢
    exact ⟨below_of_ren h v hb.1, belowL_of_ren h l hb.2⟩
end

theorem renH_get (s : Nat → Nat) : ∀ (r : List SO) (i : Nat), (renH s r)[i]? = (r[i]?).map (·.ren s)
  | [], i => by simp [renH]
  | o :: r, 0 => by simp [renH]
  | o :: r, i + 1 => by simp [renH, renH_get s r i]
theorem renS_get (s : Nat → Nat) : ∀ (r : List SO) (i : Nat), (renS s r)[i]? = (r[i]?).map fun o => strip (o.ren s)
  | [], i => by simp [renS]
  | o :: r, 0 => by simp [renS]
  | o :: r, i + 1 => by simp [renS, renS_get s r i]
theorem renS_len (s : Nat → Nat) : ∀ (r : List SO), (renS s r).length = r.length
  | [] => rfl
  | o :: r => by simp [renS, renS_len s r]
theorem pickH_get (H : List SO) : ∀ (r : List SO) (σ : List Nat) (i : Nat) (o : SO) (k : Nat), r[i]? = some o → σ[i]? = some k → (pickH H r σ)[i]? = some (asked o (obj H k))
  | [], _, _, _, _, h, _ => by simp at h
  | _ :: _, [], _, _, _, _, h => by simp at h
  | x :: r, y :: σ, 0, o, k, h, h' => by simp at h h'; subst h h'; simp [pickH]
  | x :: r, y :: σ, i + 1, o, k, h, h' => by simp at h h'; simpa [pickH] using pickH_get H r σ i o k h h'

/-- The entry in the caller's list that stands behind one of the callee's. -/
theorem behind {σ : List Nat} {H0 : List SO} {s : Nat → Nat} (hp : pickH H H0 σ = renH s H0) (hl : σ.length = H0.length) {i : Nat} {so : SO} (hi : H0[i]? = some so) :
    ∃ k, σ[i]? = some k ∧ asked so (obj H k) = so.ren s := by
  have hi' := (List.getElem?_eq_some_iff.1 hi).1
  have h1 : σ[i]? = some σ[i] := List.getElem?_eq_getElem (by omega)
  have h2 := pickH_get H H0 σ i so _ hi h1
  rw [hp, renH_get, hi] at h2
  simp at h2
  exact ⟨_, h1, h2.symm⟩

theorem asked_eq (a b : SO) : asked a b = b ∨ ∃ xs e, a.isRo = true ∧ b = .arr xs e ∧ asked a b = .ro xs e := by
  cases a <;> cases b <;> simp [asked, SO.isRo]
theorem ren_owned (s : Nat → Nat) (o : SO) : (o.ren s).owned = o.owned := by
  cases o <;> try rfl
  rename_i m _ _ _; cases m <;> rfl
theorem ren_isRo (s : Nat → Nat) (o : SO) : (o.ren s).isRo = o.isRo := by
  cases o <;> try rfl
  rename_i m _ _ _; cases m <;> rfl

theorem entryOK_ren (s : Nat → Nat) (k : Nat) (o : SO) : entryOK ρ w (s k) (o.ren s) ↔ entryOK (fun i => ρ (s i)) w k o := by
  cases o <;> simp only [SO.ren, entryOK, valL_ren]
  rename_i m _ _ _
  cases m <;> simp

/-- A part of the blocks, under names of its own. -/
theorem St.pick (h : St ρ H g w) {σ : List Nat} {H0 : List SO} (hp : pickH H H0 σ = renH (sub σ H0.length H.length) H0) (hσ : okσ H0.length H.length σ = true) :
    St (fun i => ρ (sub σ H0.length H.length i)) H0 g w := by
  obtain ⟨hl, hnd, hlt⟩ := okσ_spec hσ
  generalize hs : sub σ H0.length H.length = s at *
  have hsg : ∀ {i k : Nat}, σ[i]? = some k → s i = k := fun h => hs ▸ sub_get h
  have hinv : ∀ k, s k < H.length → k < H0.length := by
    intro k hk
    by_cases hk' : k < H0.length
    · exact hk'
    · rw [← hs, sub_ge hl (by omega)] at hk; omega
  -- an owned entry is owned by the caller; one that is read stands there as read or owned
  have own : ∀ {i : Nat} {so : SO}, H0[i]? = some so → (so.owned = true ∨ so.isRo = true) → ∃ so', H[s i]? = some so' ∧ (so.owned = true → so'.owned = true) ∧ (so'.owned = true ∨ so'.isRo = true) := by
    intro i so hi ho
    obtain ⟨k, hk, hk2⟩ := behind hp hl hi
    rw [hsg hk]
    have hng : obj H k ≠ .gone := by
      intro hg
      rcases asked_eq so (obj H k) with e | ⟨xs, e, e1, e2, _⟩
      · rw [e, hg] at hk2
        have h1 := ren_owned s so; have h2 := ren_isRo s so
        rw [← hk2] at h1 h2
        rcases ho with ho | ho
        · rw [ho] at h1; cases h1
        · rw [ho] at h2; cases h2
      · rw [hg] at e2; cases e2
    refine ⟨obj H k, obj_some hng, ?_, ?_⟩
    · intro ho'
      rcases asked_eq so (obj H k) with e | ⟨xs, e, e1, e2, _⟩
      · rw [← e, hk2, ren_owned, ho']
      · rw [e2]; rfl
    · rcases asked_eq so (obj H k) with e | ⟨xs, e, e1, e2, _⟩
      · rw [← e, hk2, ren_owned, ren_isRo]; exact ho
      · rw [e2]; exact .inl rfl
  constructor
  · intro i so hi
    obtain ⟨k, hk, hk2⟩ := behind hp hl hi
    rw [← entryOK_ren, hsg hk, ← hk2]
    by_cases hng : obj H k = .gone
    · rcases asked_eq so (obj H k) with e | ⟨xs, e, e1, e2, _⟩
      · rw [e, hng]; trivial
      · rw [hng] at e2; cases e2
    · have := h.ent k _ (obj_some hng)
      rcases asked_eq so (obj H k) with e | ⟨xs, e, e1, e2, e3⟩
      · rw [e]; exact this
      · rw [e3]; rw [e2] at this
        rcases this with ⟨a, b⟩ | ⟨b, fr, a, c, _⟩
        · exact .inl ⟨a, b⟩
        · exact .inr ⟨b, fr, a, c⟩
  · intro i j si sj b hij hi hj ho hoj hb
    obtain ⟨si', a1, a2, _⟩ := own hi (.inl ho)
    obtain ⟨sj', b1, _, b3⟩ := own hj hoj
    refine h.dis (s i) (s j) si' sj' b ?_ a1 b1 (a2 ho) b3 hb
    intro e
    obtain ⟨k, hk, _⟩ := behind hp hl hi
    obtain ⟨k', hk', _⟩ := behind hp hl hj
    rw [hsg hk, hsg hk'] at e
    subst e
    exact hij (hnd i j k hk hk')
  · intro i j si gh b hi ho hj hb
    obtain ⟨si', a1, a2, _⟩ := own hi (.inl ho)
    obtain ⟨k, hk, hk2⟩ := behind hp hl hj
    have hg : obj H k = .ghost gh := by
      rcases asked_eq (.ghost gh) (obj H k) with e | ⟨xs, e, e1, e2, _⟩
      · rw [← e, hk2]; rfl
      · simp [SO.isRo] at e1
    have := obj_some (H := H) (k := k) (by rw [hg]; simp)
    rw [hg] at this
    exact h.gho (s i) k si' gh b a1 (a2 ho) this hb
  · exact h.env
  · exact h.frm
  · intro i si b hi ho hb
    obtain ⟨si', a1, a2, _⟩ := own hi (.inl ho)
    exact h.frd (s i) si' b a1 (a2 ho) hb
  · intro i l e hi
    obtain ⟨k, hk, hk2⟩ := behind hp hl hi
    have hg : obj H k = .cells (renL s l) e := by
      rcases asked_eq (.cells l e) (obj H k) with e' | ⟨xs, e', e1, e2, _⟩
      · rw [← e', hk2]; rfl
      · simp [SO.isRo] at e1
    have := obj_some (H := H) (k := k) (by rw [hg]; simp)
    rw [hg] at this
    exact belowL_of_ren hinv l (h.scp k _ _ this)
  · intro i m s' seen st hi
    obtain ⟨k, hk, hk2⟩ := behind hp hl hi
    have hg : obj H k = .iter (some (s m)) s' seen st := by
      rcases asked_eq (.iter (some m) s' seen st) (obj H k) with e' | ⟨xs, e', e1, e2, _⟩
      · rw [← e', hk2]; rfl
      · simp [SO.isRo] at e1
    have := obj_some (H := H) (k := k) (by rw [hg]; simp)
    rw [hg] at this
    exact hinv _ (h.sci k _ _ _ _ this)

theorem St.other (h : St ρ H g w) {g' : Fr} (h0 : w.os = g'.os ∧ w.tape = g'.tape ∧ w.output = g'.out ∧ g'.dr ≤ w.drawn) (h1 : ∀ b o, g'.f b = some o → w.heap[b]? = some o) (h2 : ∀ (i : Nat) si b, H[i]? = some si → si.owned = true → ρ i = some b → g'.f b = none) : St ρ H g' w :=
  ⟨h.ent, h.dis, h.gho, h0, h1, h2, h.scp, h.sci⟩

theorem putH_spec (s : Nat → Nat) : ∀ (σ : List Nat) (H fs r : List SO), σ.length = fs.length → σ.length ≤ r.length → (∀ k ∈ σ, k < H.length) → nodup σ = true →
    (putH s H fs r σ).length = H.length + (r.length - σ.length) ∧
    ∀ (j : Nat) s', (putH s H fs r σ)[j]? = some s' →
      (∃ (i : Nat) (f o : SO), σ[i]? = some j ∧ fs[i]? = some f ∧ f.keeps = false ∧ r[i]? = some o ∧ s' = strip (o.ren s)) ∨
      (H[j]? = some s' ∧ ∀ (i : Nat) f, σ[i]? = some j → fs[i]? = some f → f.keeps = true) ∨
      (∃ (i : Nat) (o : SO), j = H.length + i ∧ r[σ.length + i]? = some o ∧ s' = strip (o.ren s))
  | [], H, fs, r, h1, h2, h3, h4 => by
    have hf : fs = [] := List.eq_nil_of_length_eq_zero h1.symm
    subst hf
    have e : putH s H [] r [] = H ++ renS s r := by simp [putH]
    rw [e]
    refine ⟨by simp [renS_len], fun j s' hj => ?_⟩
    by_cases hlt : j < H.length
    · rw [List.getElem?_append_left hlt] at hj
      exact .inr (.inl ⟨hj, by simp⟩)
    · rw [List.getElem?_append_right (by omega), renS_get] at hj
      cases hr : r[j - H.length]? with
      | none => rw [hr] at hj; cases hj
      | some o => rw [hr] at hj; cases hj; exact .inr (.inr ⟨j - H.length, o, by omega, by simpa using hr, rfl⟩)
  | k :: σ, H, [], r, h1, _, _, _ => by simp at h1
  | k :: σ, H, f :: fs, [], _, h2, _, _ => by simp at h2
  | k :: σ, H, f :: fs, o :: r, h1, h2, h3, h4 => by
    simp only [List.length_cons] at h1 h2
    have h4' : nodup σ = true ∧ k ∉ σ := by simp [nodup] at h4; exact ⟨h4.2, h4.1⟩
    have hk : k < H.length := h3 k (by simp)
    cases hf : f.keeps with
    | true =>
      have e : putH s H (f :: fs) (o :: r) (k :: σ) = putH s H fs r σ := by
        cases f <;> simp [SO.keeps] at hf <;> simp [putH]
      rw [e]
      obtain ⟨a, b⟩ := putH_spec s σ H fs r (by omega) (by omega) (fun k hk => h3 k (by simp [hk])) h4'.1
      refine ⟨by rw [a]; simp, fun j s' hj => ?_⟩
      rcases b j s' hj with ⟨i, f', o', c1, c2, c3, c4, c5⟩ | ⟨c1, c2⟩ | ⟨i, o', c1, c2, c3⟩
      · exact .inl ⟨i + 1, f', o', by simpa using c1, by simpa using c2, c3, by simpa using c4, c5⟩
      · refine .inr (.inl ⟨c1, fun i f' d1 d2 => ?_⟩)
        cases i with
        | zero => simp at d2; subst d2; exact hf
        | succ i => simp at d1 d2; exact c2 i f' d1 d2
      · exact .inr (.inr ⟨i, o', c1, by rw [List.length_cons, show σ.length + 1 + i = (σ.length + i) + 1 by omega]; simpa using c2, c3⟩)
    | false =>
      have e : putH s H (f :: fs) (o :: r) (k :: σ) = putH s (H.set k (strip (o.ren s))) fs r σ := by
        cases f <;> simp [SO.keeps] at hf <;> simp [putH]
      rw [e]
      obtain ⟨a, b⟩ := putH_spec s σ (H.set k (strip (o.ren s))) fs r (by omega) (by omega) (fun k hk => by simpa using h3 k (by simp [hk])) h4'.1
      refine ⟨by rw [a]; simp, fun j s' hj => ?_⟩
      rcases b j s' hj with ⟨i, f', o', c1, c2, c3, c4, c5⟩ | ⟨c1, c2⟩ | ⟨i, o', c1, c2, c3⟩
      · exact .inl ⟨i + 1, f', o', by simpa using c1, by simpa using c2, c3, by simpa using c4, c5⟩
      · by_cases hjk : j = k
        · subst hjk
          simp [hk] at c1
          exact .inl ⟨0, f, o, by simp, by simp, hf, by simp, c1.symm⟩
        · rw [List.getElem?_set_ne (Ne.symm hjk)] at c1
          refine .inr (.inl ⟨c1, fun i f' d1 d2 => ?_⟩)
          cases i with
          | zero => simp at d1; exact absurd d1.symm hjk
          | succ i => simp at d1 d2; exact c2 i f' d1 d2
      · exact .inr (.inr ⟨i, o', by simpa using c1, by rw [List.length_cons, show σ.length + 1 + i = (σ.length + i) + 1 by omega]; simpa using c2, c3⟩)

theorem strip_own {o : SO} (h : (strip o).owned = true) : strip o = o ∧ o.owned = true := by
  cases o <;> simp [strip, SO.owned] at h ⊢
theorem strip_isRo (o : SO) : (strip o).isRo = false := by cases o <;> rfl
theorem strip_cells {o : SO} {l : List SV} {e : TypeId} (h : strip o = .cells l e) : o = .cells l e := by
  cases o <;> simp [strip] at h ⊢; exact h
theorem strip_iter {o : SO} {m : Option Nat} {s : Nat} {se : List Nat} {st : Nat} (h : strip o = .iter m s se st) : o = .iter m s se st := by
  cases o <;> simp [strip] at h ⊢; exact h
theorem strip_ghost {o : SO} {gh : Nat → Option Obj} : strip o ≠ .ghost gh := by cases o <;> simp [strip]
theorem keeps_iff (o : SO) (h : o.owned = true) : o.keeps = false := by cases o <;> simp [SO.owned, SO.keeps] at h ⊢

/-- A call by contract. -/
theorem sound_call {f : FuncId} {vs : List SV} (hS : St ρ H g w) (hb : belowL H.length vs = true) (hv : VCall P f vs H K) :
    Calls P f (valL ρ vs).toArray w fun e w' => ∃ v, e = .returned v ∧ Res ρ H g K v w' := by
  classical
  obtain ⟨σ, spec, ⟨hargs, hp, hσ⟩, hk⟩ := hv
  rename_i af Hf Post
  have hσ' := hσ
  obtain ⟨hl, hnd, hlt⟩ := okσ_spec hσ
  have hndb : nodup σ = true := by simp only [okσ, Bool.and_eq_true] at hσ'; exact hσ'.1.2
  have hS0 := hS.pick hp hσ
  generalize hs : sub σ Hf.length H.length = s at *
  have hsg : ∀ {i k : Nat}, σ[i]? = some k → s i = k := fun h => hs ▸ sub_get h
  have hinv : ∀ k, s k < H.length → k < Hf.length := by
    intro k hk
    by_cases hk' : k < Hf.length
    · exact hk'
    · rw [← hs, sub_ge hl (by omega)] at hk; omega
  have hslt : ∀ k, k < Hf.length → s k < H.length := fun k hk => hs ▸ sub_lt hl hlt hk
  have hsge : ∀ k, Hf.length ≤ k → s k = H.length + (k - Hf.length) := fun k hk => hs ▸ sub_ge hl hk
  -- the frame: everything that the callee does not own
  let gf : Fr := ⟨fun b => if (∃ (i : Nat) (si : SO), Hf[i]? = some si ∧ si.owned = true ∧ ρ (s i) = some b) then none else w.heap[b]?, w.os, w.tape, w.output, w.drawn⟩
  have hgf1 : ∀ b o, gf.f b = some o → w.heap[b]? = some o := by
    intro b o h
    by_cases hc : ∃ (i : Nat) (si : SO), Hf[i]? = some si ∧ si.owned = true ∧ ρ (s i) = some b
    · simp only [gf, if_pos hc] at h; cases h
    · simpa only [gf, if_neg hc] using h
  have hgf2 : ∀ (i : Nat) si b, Hf[i]? = some si → si.owned = true → ρ (s i) = some b → gf.f b = none := by
    intro i si b h1 h2 h3
    simp only [gf]; exact if_pos ⟨i, si, h1, h2, h3⟩
  have hgf3 : ∀ b, (∀ (i : Nat) si, Hf[i]? = some si → si.owned = true → ρ (s i) ≠ some b) → gf.f b = w.heap[b]? := by
    intro b h
    simp only [gf]
    exact if_neg (fun ⟨i, si, h1, h2, h3⟩ => h i si h1 h2 h3)
  have hSf := hS0.other (g' := gf) ⟨rfl, rfl, rfl, Nat.le_refl _⟩ hgf1 hgf2
  rw [hargs, valL_ren]
  have hbf : belowL Hf.length af = true := belowL_of_ren hinv af (hargs ▸ hb)
  refine Calls.mono (spec _ gf w hSf hbf) ?_
  rintro e w' ⟨ρ', v, Hf', rfl, hS', hρ', hlen, hbv, hpost⟩
  refine ⟨_, rfl, ?_⟩
  have hkk := hk v Hf' hpost
  rw [fK_eq, fHK_eq] at hkk
  obtain ⟨q1, q2⟩ := putH_spec s σ H Hf Hf' hl (by omega) hlt hndb
  -- the names behind the call
  let ρ2 : Rho := fun k => if k < H.length then ρ k else ρ' (Hf.length + (k - H.length))
  have hρ2lt : ∀ k, k < H.length → ρ2 k = ρ k := fun k hk => by simp only [ρ2, if_pos hk]
  have hρ2 : ∀ k, ρ2 (s k) = ρ' k := by
    intro k
    by_cases hk : k < Hf.length
    · rw [hρ2lt _ (hslt k hk), hρ' k hk]
    · rw [hsge k (by omega)]
      simp only [ρ2]
      rw [if_neg (by omega)]
      congr 1; omega
  have hH2 : (putH s H Hf Hf' σ).length = H.length + (Hf'.length - Hf.length) := by rw [q1, hl]
  have hs2 : ∀ k, k < Hf'.length → s k < (putH s H Hf Hf' σ).length := by
    intro k hk
    rw [hH2]
    by_cases hk' : k < Hf.length
    · have := hslt k hk'; omega
    · rw [hsge k (by omega)]; omega
  -- an entry of the new list: the callee's, or the caller's own
  have cases2 : ∀ (j : Nat) s', (putH s H Hf Hf' σ)[j]? = some s' →
      (∃ (i : Nat) (o : SO), s i = j ∧ Hf'[i]? = some o ∧ s' = strip (o.ren s)) ∨
      (j < H.length ∧ H[j]? = some s' ∧ ∀ (i : Nat) f, σ[i]? = some j → Hf[i]? = some f → f.keeps = true) := by
    intro j s' hj
    rcases q2 j s' hj with ⟨i, f, o, c1, c2, c3, c4, c5⟩ | ⟨c1, c2⟩ | ⟨i, o, c1, c2, c3⟩
    · exact .inl ⟨i, o, hsg c1, c4, c5⟩
    · exact .inr ⟨(List.getElem?_eq_some_iff.1 c1).1, c1, c2⟩
    · refine .inl ⟨Hf.length + i, o, ?_, by rw [hl] at c2; exact c2, c3⟩
      rw [hsge _ (by omega), c1]; omega
  -- what the caller keeps lies in the callee's frame
  have kept : ∀ (j : Nat) s' b, j < H.length → H[j]? = some s' → (∀ (i : Nat) f, σ[i]? = some j → Hf[i]? = some f → f.keeps = true) →
      (s'.owned = true ∨ s'.isRo = true) → ρ j = some b → gf.f b = w.heap[b]? := by
    intro j s' b _ hj hkeep ho hb
    refine hgf3 b fun i si h1 h2 h3 => ?_
    obtain ⟨k, e1, e2⟩ := behind hp hl h1
    have hk1 : obj H k ≠ .gone := by
      intro hg
      rw [hg] at e2
      have : (si.ren s).owned = true := by rw [ren_owned, h2]
      rw [← e2] at this
      cases si <;> simp [asked, SO.owned] at this
    have hko : (obj H k).owned = true := by
      have h5 := ren_owned s si
      rw [h2, ← e2] at h5
      rcases asked_eq si (obj H k) with e | ⟨xs, e, e3, e4, _⟩
      · rwa [e] at h5
      · rw [e4]; rfl
    have hkj : k ≠ j := by
      rintro rfl
      have := hkeep i si e1 h1
      rw [keeps_iff si h2] at this; cases this
    rw [hsg e1] at h3
    exact hS.dis k j _ _ b hkj (obj_some hk1) hj hko ho h3 hb
  have ghosts : ∀ (j : Nat) gh b o, H[j]? = some (.ghost gh) → gh b = some o → gf.f b = w.heap[b]? := by
    intro j gh b o hj hb
    refine hgf3 b fun i si h1 h2 h3 => ?_
    obtain ⟨k, e1, e2⟩ := behind hp hl h1
    have hko : (obj H k).owned = true := by
      have h5 := ren_owned s si
      rw [h2, ← e2] at h5
      rcases asked_eq si (obj H k) with e | ⟨xs, e, e3, e4, _⟩
      · rwa [e] at h5
      · rw [e4]; rfl
    rw [hsg e1] at h3
    have := hS.gho k j _ gh b (obj_some (by intro hg; rw [hg] at hko; cases hko)) hko hj h3
    rw [this] at hb; cases hb
  refine ⟨ρ2, ren s v, putH s H Hf Hf' σ, ?_, ?_, hρ2lt, by omega, below_ren s hs2 v hbv, hkk⟩
  · rw [val_ren]; exact (congrArg (fun r => V.val r v) (funext hρ2)).symm
  constructor
  · intro j s' hj
    rcases cases2 j s' hj with ⟨i, o, rfl, c2, rfl⟩ | ⟨c1, c2, c3⟩
    · have := hS'.ent i o c2
      have h3 : entryOK ρ2 w' (s i) (o.ren s) := by
        rw [entryOK_ren]
        have : (fun i => ρ2 (s i)) = ρ' := funext hρ2
        rw [this]; assumption
      cases o <;> first | exact h3 | trivial | (rename_i m _ _ _; cases m <;> exact h3)
    · refine entryOK_congr c1 (hS.ent j s' c2) (fun i hi => hρ2lt i hi) ?_ ?_ ?_
      · rintro l e rfl; exact hS.scp j l e c2
      · rintro m s'' seen st rfl; exact hS.sci j m s'' seen st c2
      · intro b o hng hb hor hgh
        refine hS'.frm b o ?_
        by_cases ho : s'.owned = true ∨ s'.isRo = true
        · rw [kept j s' b c1 c2 c3 ho (hor ho)]; exact hb
        · cases s' <;> simp [SO.owned, SO.isRo] at ho
          · rw [ghosts j _ b o c2 (hgh _ rfl)]; exact hb
          · exact absurd rfl hng
  · intro i j si sj b hij hi hj ho hoj hbi
    rcases cases2 i si hi with ⟨i', oi, rfl, c2, rfl⟩ | ⟨c1, c2, c3⟩ <;> rcases cases2 j sj hj with ⟨j', oj, rfl, d2, rfl⟩ | ⟨d1, d2, d3⟩
    · obtain ⟨e1, e2⟩ := strip_own ho
      rw [ren_owned] at e2
      have e3 : (oj.ren s).owned = true := by
        rcases hoj with h | h
        · exact (strip_own h).2
        · rw [strip_isRo] at h; cases h
      rw [ren_owned] at e3
      rw [hρ2] at hbi ⊢
      exact hS'.dis i' j' oi oj b (fun e => hij (by rw [e])) c2 d2 e2 (.inl e3) hbi
    · obtain ⟨e1, e2⟩ := strip_own ho
      rw [ren_owned] at e2
      rw [hρ2] at hbi
      rw [hρ2lt j d1]
      intro hbj
      have h1 := hS'.frd i' oi b c2 e2 hbi
      rw [kept j sj b d1 d2 d3 hoj hbj] at h1
      have h2 := entryOK_lt (hS.ent j sj d2) hoj hbj
      rw [Array.getElem?_eq_none_iff] at h1
      omega
    · have e3 : (oj.ren s).owned = true := by
        rcases hoj with h | h
        · exact (strip_own h).2
        · rw [strip_isRo] at h; cases h
      rw [ren_owned] at e3
      rw [hρ2lt i c1] at hbi
      rw [hρ2]
      intro hbj
      have h1 := hS'.frd j' oj b d2 e3 hbj
      rw [kept i si b c1 c2 c3 (.inl ho) hbi] at h1
      have h2 := entryOK_lt (hS.ent i si c2) (.inl ho) hbi
      rw [Array.getElem?_eq_none_iff] at h1
      omega
    · rw [hρ2lt i c1] at hbi
      rw [hρ2lt j d1]
      exact hS.dis i j si sj b hij c2 d2 ho hoj hbi
  · intro i j si gh b hi ho hj hbi
    rcases cases2 j _ hj with ⟨j', oj, rfl, d2, d3⟩ | ⟨d1, d2, d3⟩
    · exact absurd d3.symm strip_ghost
    · rcases cases2 i si hi with ⟨i', oi, rfl, c2, rfl⟩ | ⟨c1, c2, c3⟩
      · obtain ⟨e1, e2⟩ := strip_own ho
        rw [ren_owned] at e2
        rw [hρ2] at hbi
        cases hg : gh b with
        | none => rfl
        | some o =>
          have h1 := hS'.frd i' oi b c2 e2 hbi
          rw [ghosts j gh b o d2 hg] at h1
          have h2 := hS.ent j _ d2 b o hg
          rw [h2] at h1; cases h1
      · rw [hρ2lt i c1] at hbi
        exact hS.gho i j si gh b c2 ho d2 hbi
  · exact ⟨hS'.env.1.trans hS.env.1, hS'.env.2.1.trans hS.env.2.1, hS'.env.2.2.1.trans hS.env.2.2.1, Nat.le_trans hS.env.2.2.2 hS'.env.2.2.2⟩
  · intro b o hb
    refine hS'.frm b o ?_
    rw [hgf3 b]
    · exact hS.frm b o hb
    · intro i si h1 h2 h3
      have := hS0.frd i si b h1 h2 h3
      rw [this] at hb; cases hb
  · intro i si b hi ho hbi
    rcases cases2 i si hi with ⟨i', oi, rfl, c2, rfl⟩ | ⟨c1, c2, c3⟩
    · obtain ⟨e1, e2⟩ := strip_own ho
      rw [ren_owned] at e2
      rw [hρ2] at hbi
      cases hg : g.f b with
      | none => rfl
      | some o =>
        have h1 := hS'.frd i' oi b c2 e2 hbi
        rw [hgf3 b] at h1
        · rw [hS.frm b o hg] at h1; cases h1
        · intro k sk h1 h2 h3
          have := hS0.frd k sk b h1 h2 h3
          rw [this] at hg; cases hg
    · rw [hρ2lt i c1] at hbi
      exact hS.frd i si b c2 ho hbi
  · intro j l e hj
    rcases cases2 j _ hj with ⟨j', oj, rfl, d2, d3⟩ | ⟨d1, d2, d3⟩
    · have := strip_cells d3.symm
      cases oj <;> simp [SO.ren] at this
      · obtain ⟨rfl, rfl⟩ := this
        exact belowL_ren s hs2 _ (hS'.scp j' _ _ d2)
      · rename_i m _ _ _; cases m <;> simp at this
    · exact belowL_mono (by omega) l (hS.scp j l e d2)
  · intro j m s'' seen st hj
    rcases cases2 j _ hj with ⟨j', oj, rfl, d2, d3⟩ | ⟨d1, d2, d3⟩
    · have := strip_iter d3.symm
      cases oj <;> simp [SO.ren] at this
      rename_i m' _ _ _
      cases m' with
      | none => simp at this
      | some m' =>
        simp at this
        obtain ⟨rfl, _⟩ := this
        exact hs2 _ (hS'.sci j' _ _ _ _ d2)
    · have := hS.sci j m s'' seen st d2; omega

theorem run_enters {f : FuncId} (he : enters P f = true) (args : Array Value) : (callFunc f args).run P w = .ok (.enter f args) w := by
  unfold enters at he
  cases hf : P.funcs[f]? with
  | none => simp [hf] at he
  | some fn =>
    simp only [hf, Bool.and_eq_true, Bool.not_eq_true'] at he
    obtain ⟨h1, h2⟩ := he
    have h1' : fn.name ≠ "runtime.NumGoroutine" := by simpa using h1
    simp [callFunc, hf, h1']
    cases hb : fn.body with
    | none => simp [hb] at h2
    | some c => simp

theorem s_call (h : At P ρ H g w t a) {f : FuncId} {args : Array Operand} {ats : Array TypeId} {l : List Opd} (ho : o.op = .call { callee := .value (.func f), args := args, argTypes := ats }) (he : enters P f = true) (hx : cOpds args = some l) (hv : vcOp P (.call f l) t H K) :
    GoodRes P ρ H g K ((execOp a.eval o).run P w) := by
  simp only [vcOp, evLK_eq] at hv
  obtain ⟨h1, h2⟩ := evL_map h hx
  have e : args.map a.eval = (valL ρ (evL t l)).toArray := by
    rw [← h1]; apply Array.toList_inj.1; simp
  have := sound_call h.s h2 hv
  simp [execOp, ho, resolve, Act.eval, Deferred.ofValue, invoke, run_enters he, GoodRes, e, this]

theorem s_callv (h : At P ρ H g w t a) {x : Operand} {y : Opd} {args : Array Operand} {ats : Array TypeId} {l : List Opd} (ho : o.op = .call { callee := .value x, args := args, argTypes := ats }) (hx0 : cOpd x = some y) (hx : cOpds args = some l) (hv : vcOp P (.callv y l) t H K) :
    GoodRes P ρ H g K ((execOp a.eval o).run P w) := by
  simp only [vcOp, evLK_eq, evK_eq] at hv
  obtain ⟨h1, h2⟩ := evL_map h hx
  have e : args.map a.eval = (valL ρ (evL t l)).toArray := by
    rw [← h1]; apply Array.toList_inj.1; simp
  have hbx := h.bel hx0
  split at hv
  · rename_i f caps e1
    obtain ⟨he, hv⟩ := hv
    rw [e1] at hbx
    simp only [below] at hbx
    have := sound_call h.s (belowL_append.2 ⟨h2, hbx⟩) hv
    have e2 : valL ρ (evL t l ++ caps) = valL ρ (evL t l) ++ valL ρ caps := by simp [valL_eq]
    rw [e2] at this
    have e3 : a.eval x = .func (.func f) #[] (valL ρ caps).toArray := by rw [h.eq hx0, e1]; rfl
    simp [execOp, ho, resolve, e3, Deferred.ofValue, invoke, run_enters he, GoodRes, e]
    simpa using this
  · exact hv.elim
end
end Go.V
