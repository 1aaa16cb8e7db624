/- Part of the proof that the statement named in the last file holds: lemmas of the prover's own. No conditions. -/
import Derived.Test.YtmidamdjpabpbaaV19
namespace Go.V
open Go

section
variable {P : Program} {ρ0 : Rho} {H0 : List SO} {g : Fr} {ops : Array Oper} {Q : Exit → Act → World → Prop}

theorem inK_spec : ∀ {t : List SV} {d : Nat} {K : Prop}, inK t d K → d < t.length ∧ K
  | [], _, _, h => h.elim
  | _ :: _, 0, _, h => ⟨by simp, h⟩
  | _ :: l, d + 1, _, h => by
    obtain ⟨h1, h2⟩ := inK_spec (t := l) (d := d) h
    exact ⟨by simp; exact h1, h2⟩
theorem again_spec {pc : List (Nat × (List SO → Prop))} {H : List SO} {K : Prop} : ∀ {rs : List Nat}, again pc H K rs → K ∧ ∀ r ∈ rs, ∃ p, pc.find? (·.1 == r) = some p ∧ p.2 H
  | [], h => ⟨h, by simp⟩
  | r :: rs, h => by
    simp only [again] at h
    split at h
    · rename_i p hp
      obtain ⟨h1, h2⟩ := again_spec h.2
      refine ⟨h1, fun x hx => ?_⟩
      rcases List.mem_cons.1 hx with rfl | hx
      · exact ⟨p, hp, h.1⟩
      · exact h2 x hx
    · exact h.elim
theorem covers_depth : ∀ {p : Pl} {j : Nat}, covers p j = true → 1 ≤ p.depth
  | .done, _, h => by simp [covers] at h
  | .fl _ _, _, h => by simp [covers] at h
  | .fr _ _, _, h => by simp [covers] at h
  | .st _ _ p, _, _ => by simp [Pl.depth]
  | .br p q, j, h => by
    simp only [covers, Bool.or_eq_true] at h
    simp only [Pl.depth]
    rcases h with h | h
    · have := covers_depth h; exact Nat.le_trans this (Nat.le_max_left _ _)
    · have := covers_depth h; exact Nat.le_trans this (Nat.le_max_right _ _)

theorem frm_len {ρ : Rho} {t : List SV} {a : Act} (h : Frm ρ t a) : t.length = a.tmps.size := by
  rw [h]; simp [valL_eq]

/-- What the words for those taken early stand for. -/
def PendOK (g : Fr) (pd : List Nat) (L : Array Bool) (pc : List (Nat × (List SO → Prop))) (pend : Pend) (ρ : Rho) (H : List SO) : Prop :=
  ∀ k S, pend k S → k ∈ pd ∧ L.getD k true = true ∧ ∃ c, pc.find? (·.1 == k) = some c ∧
    ∀ (ρ' : Rho) (H' : List SO) w', St ρ' H' g w' → (∀ j, j < H.length → ρ' j = ρ j) → H.length ≤ H'.length → c.2 H' → S w'

theorem vcDraw_sound {l : List VIns} (hc : ops.toList.mapM (cIns P ops) = some l) (hns : Region.noSelect ops = true) (hQp : ∀ c a w, ¬ Q (.panic c) a w)
    {Q' : List SV → List SO → Prop} (hQ : ∀ a w, Nxt P ρ0 H0 g Q' a w → Q .normal a w) :
    ∀ (p : Pl) (br : Bool) (L : Array Bool) (pd : List Nat) (pc : List (Nat × (List SO → Prop))) (pend : Pend) (ρ : Rho) (H : List SO) (w : World) (t : List SV) (a : Act),
      planOK ops l br p L pd = true → Closed .any ops L → At P ρ H g w t a → a.defers = [] → (∀ k, k < H0.length → ρ k = ρ0 k) → H0.length ≤ H.length →
      PendOK g pd L pc pend ρ H → pend.ok w → vcDraw P l p pc t H Q' →
      (br = false → ∀ fuel, p.depth ≤ fuel → wpAnyR P .any ops Q fuel pend L a w) ∧
      (∀ j, covers p j = true → j ∈ Region.ready .any ops L → ∀ fuel, p.depth ≤ fuel + 1 →
        wpOp P ops Q j (fun a' w' => (pend.after .any ops j).ok w' ∧ wpAnyR P .any ops Q fuel (pend.after .any ops j) (L.setIfInBounds j true) a' w') a w) := by
  obtain ⟨_, hget⟩ := mapM_get hc
  have hops : ∀ {i : Nat} {x : VIns}, l[i]? = some x → ∃ o, ops[i]? = some o ∧ cIns P ops o = some x := by
    intro i x hx
    have := hget i
    rw [hx] at this
    obtain ⟨o, h1, h2⟩ := Option.bind_eq_some_iff.1 this
    exact ⟨o, by simpa using h1, h2⟩
  intro p
  induction p with
  | done =>
    intro br L pd pc pend ρ H w t a hp hcl h hd hρ hl hpd hpo hv
    refine ⟨fun hbr fuel _ => ?_, fun j hj => by simp [covers] at hj⟩
    subst hbr
    simp only [planOK, Bool.not_false, Bool.true_and, List.isEmpty_iff] at hp
    exact wpAnyR_done hp (hQ a w ⟨ρ, t, H, h, hd, hρ, hl, hv⟩) fuel
  | fl i p ih =>
    intro br L pd pc pend ρ H w t a hp hcl h hd hρ hl hpd hpo hv
    refine ⟨fun hbr fuel hf => ?_, fun j hj => by simp [covers] at hj⟩
    subst hbr
    simp only [planOK, Bool.not_false, Bool.true_and, Bool.and_eq_true] at hp
    obtain ⟨⟨⟨h1, h2⟩, h3⟩, h4⟩ := hp
    simp only [vcDraw] at hv
    split at hv
    · exact hv.elim
    rename_i x hx
    rw [hx] at h3
    obtain ⟨o, ho, hco⟩ := hops hx
    obtain ⟨fuel, rfl⟩ : ∃ f, fuel = f + 1 := ⟨fuel - 1, by simp only [Pl.depth] at hf; omega⟩
    have hr : i ∈ Region.ready .any ops L := by simpa using h1
    obtain ⟨t1, hA, hcase⟩ := vcIns_cases hco h hv
    have key : ∀ sv, below H.length sv = true → vcDraw P l p pc (put t1 o.dst sv) H Q' → Yields P ops o (val ρ sv) a → wpAnyR P .any ops Q (fuel + 1) pend L a w := by
      intro sv hb hvd hy
      refine wpAnyR_first (S := fun _ => True) ho (Region.noSelect_spec hns) hQp fuel pend L a w hcl (Region.free_spec ho h2) hr hy.yieldsIf trivial hpo ?_
      have := (ih false (L.setIfInBounds i true) pd pc pend ρ H w (put t1 o.dst sv) (a.put o.dst (val ρ sv)) h4 (hcl.set hr) ⟨hA.f.put o.dst sv, belowL_put hA.b o.dst hb, hA.s⟩
        (by cases o.dst <;> exact hd) hρ hl ?_ hpo hvd).1 rfl fuel (by simp only [Pl.depth] at hf; omega)
      · refine wpAnyR_weaken fuel _ _ _ _ _ ?_ this
        rintro k T (hk | ⟨_, rfl⟩)
        · exact .inl hk
        · exact .inr fun _ => trivial
      · intro k S hk
        obtain ⟨e1, e2, e3⟩ := hpd k S hk
        exact ⟨e1, by
          by_cases hik : i = k
          · subst hik; have := (mem_ready.1 hr).1; rw [e2] at this; cases this
          · rw [getD_set_ne true hik]; exact e2, e3⟩
    rcases hcase with ⟨hw, hop, _⟩ | ⟨hw, hk⟩
    · obtain ⟨sv, hk, hall⟩ := blind_det h3 hop
      have hat : ∀ w', At P ρ (List.replicate H.length .gone) (noFrame w') w' t1 a := fun w' => ⟨hA.f, by rw [List.length_replicate]; exact hA.b, St.blank ρ _ w'⟩
      have hrun : ∀ w', below H.length sv = true ∧ (execOp a.eval o).run P w' = .ok (.value (val ρ sv)) w' := by
        intro w'
        obtain ⟨v, e1, sv', rfl, e2, rfl⟩ := (vcOp_sound (hat w') (cIns_spec hco).1 (hall _)).2 (blind_still h3)
        exact ⟨by rw [List.length_replicate] at e2; exact e2, e1⟩
      exact key sv (hrun w).1 hk (.inl ⟨hw, fun w' => (hrun w').2⟩)
    · exact key un rfl hk (.inr ⟨hw, rfl⟩)
  | fr i p ih =>
    intro br L pd pc pend ρ H w t a hp hcl h hd hρ hl hpd hpo hv
    refine ⟨fun hbr fuel hf => ?_, fun j hj => by simp [covers] at hj⟩
    subst hbr
    simp only [planOK, Bool.not_false, Bool.true_and, Bool.and_eq_true] at hp
    obtain ⟨⟨⟨⟨h1, h2⟩, h3⟩, h5⟩, h4⟩ := hp
    simp only [vcDraw] at hv
    split at hv
    · exact hv.elim
    rename_i x hx
    rw [hx] at h3
    obtain ⟨o, ho, hco⟩ := hops hx
    rw [ho] at h5
    split at hv
    · exact hv.elim
    rename_i d hxd
    have hod : o.dst = some d := by rw [← (cIns_spec hco).2.1, hxd]
    simp only [hod, Bool.not_eq_true', List.contains_eq_mem, decide_eq_false_iff_not] at h5
    obtain ⟨fuel, rfl⟩ : ∃ f, fuel = f + 1 := ⟨fuel - 1, by simp only [Pl.depth] at hf; omega⟩
    have hr : i ∈ Region.ready .any ops L := by simpa using h1
    obtain ⟨t1, hA, hcase⟩ := vcIns_cases hco h hv
    have key : ∀ (sv : SV) (S : World → Prop), below H.length sv = true →
        inK (put t1 o.dst sv) d (vcDraw P l p ((i, fun H' => vcIns P x (put t1 o.dst sv) H' fun t'' _ => ev t'' (.t d) = ev (put t1 o.dst sv) (.t d)) :: pc) (put t1 o.dst sv) H Q') →
        YieldsIf P ops S o (val ρ sv) a → S w →
        (∀ (ρ' : Rho) (H' : List SO) w', d < (put t1 o.dst sv).length → St ρ' H' g w' → (∀ j, j < H.length → ρ' j = ρ j) → H.length ≤ H'.length →
          (vcIns P x (put t1 o.dst sv) H' fun t'' _ => ev t'' (.t d) = ev (put t1 o.dst sv) (.t d)) → S w') →
        wpAnyR P .any ops Q (fuel + 1) pend L a w := by
      intro sv S hb hin hy hS hcl2
      obtain ⟨hdl, hvd⟩ := inK_spec hin
      refine wpAnyR_first (S := S) ho (Region.noSelect_spec hns) hQp fuel pend L a w hcl (Region.free_spec ho h2) hr hy hS hpo ?_
      refine (ih false (L.setIfInBounds i true) (i :: pd) _ (pend.with i S) ρ H w (put t1 o.dst sv) (a.put o.dst (val ρ sv)) h4 (hcl.set hr) ⟨hA.f.put o.dst sv, belowL_put hA.b o.dst hb, hA.s⟩
        (by cases o.dst <;> exact hd) hρ hl ?_ ?_ hvd).1 rfl fuel (by simp only [Pl.depth] at hf; omega)
      · rintro k T (hk | ⟨rfl, rfl⟩)
        · obtain ⟨e1, e2, c, e3, e4⟩ := hpd k T hk
          have hik : i ≠ k := by
            rintro rfl
            have := (mem_ready.1 hr).1; rw [e2] at this; cases this
          refine ⟨by simp [e1], by rw [getD_set_ne true hik]; exact e2, c, ?_, e4⟩
          rw [List.find?_cons_of_neg (by simpa using hik)]
          exact e3
        · refine ⟨by simp, ?_, _, List.find?_cons_of_pos (by simp), fun ρ' H' w' a1 a2 a3 a4 => hcl2 ρ' H' w' hdl a1 a2 a3 a4⟩
          have := (listed_lt (mem_ready.1 hr).1).1
          simp [this]
      · rintro k T (hk | ⟨rfl, rfl⟩)
        · exact hpo k T hk
        · exact hS
    rcases hcase with ⟨hw, hop, _⟩ | ⟨hw, hk⟩
    · obtain ⟨v, e1, sv, rfl, e2, e3⟩ := (vcOp_sound hA (cIns_spec hco).1 hop).2 h3
      refine key sv (fun w' => (execOp a.eval o).run P w' = .ok (.value (val ρ sv)) w') e2 e3 (.inl ⟨hw, fun _ h => h⟩) e1 ?_
      intro ρ' H' w' hdl hS' hρ' hl' hcc
      rw [hod] at hdl hcc
      have hA' : At P ρ' H' g w' (put t1 (some d) sv) (a.put (some d) (val ρ sv)) :=
        ⟨(hA.f.put (some d) sv).ext hρ' (belowL_put hA.b (some d) e2), belowL_mono hl' _ (belowL_put hA.b (some d) e2), hS'⟩
      have hlook : ∀ d', some d = some d' → d' ∉ o.looksAt ops := fun d' e => by cases e; exact h5
      obtain ⟨t2, hA2, hc2⟩ := vcIns_cases hco hA' hcc
      rw [wanted_put o a (some d) _ hlook, hw] at hc2
      rcases hc2 with ⟨_, hop2, _⟩ | ⟨hf2, _⟩
      · obtain ⟨v2, f1, sv2, rfl, f2, f3⟩ := (vcOp_sound hA2 (cIns_spec hco).1 hop2).2 h3
        rw [execOp_put o (fun cs b => Region.noSelect_spec hns i o cs b ho) a (some d) _ hlook] at f1
        have hlen : t2.length = (put t1 (some d) sv).length := by rw [frm_len hA2.f, frm_len hA'.f]
        have g1 : ev (put t2 o.dst sv2) (.t d) = sv2 := by
          simp only [hod, ev, put]
          have : d < t2.length := by omega
          simp [this]
        have g2 : ev (put t1 (some d) sv) (.t d) = sv := by
          simp only [ev, put]
          have : d < t1.length := by simpa [put] using hdl
          simp [this]
        rw [g1, g2] at f3
        subst f3
        rw [f1, val_congr hρ' sv2 e2]
      · cases hf2
    · exact key un (fun _ => True) rfl hk (.inr ⟨hw, rfl⟩) trivial (fun _ _ _ _ _ _ _ _ => trivial)
  | st i rs p ih =>
    intro br L pd pc pend ρ H w t a hp hcl h hd hρ hl hpd hpo hv
    simp only [planOK, Bool.and_eq_true] at hp
    obtain ⟨⟨h1, h2⟩, h4⟩ := hp
    simp only [vcDraw] at hv
    split at hv
    · exact hv.elim
    rename_i x hx
    obtain ⟨o, ho, hco⟩ := hops hx
    have step : i ∈ Region.ready .any ops L → ∀ fuel, p.depth ≤ fuel →
        wpOp P ops Q i (fun a' w' => (pend.after .any ops i).ok w' ∧ wpAnyR P .any ops Q fuel (pend.after .any ops i) (L.setIfInBounds i true) a' w') a w := by
      intro hr fuel hf
      refine wpOp_mono ?_ (vcIns_sound ho hco h hd hv)
      rintro a' w' ⟨ρ', t', H', e1, e2, e3, e4, e5⟩
      obtain ⟨hvd, hag⟩ := again_spec e5
      have hok : (pend.after .any ops i).ok w' := by
        rintro k S ⟨hk, hk2⟩
        obtain ⟨d1, d2, c, d3, d4⟩ := hpd k S hk
        have := List.all_eq_true.1 h2 k d1
        simp only [Bool.or_eq_true, hk2, Bool.false_eq_true, or_false] at this
        obtain ⟨c', d5, d6⟩ := hag k (by simpa using this)
        rw [d3] at d5
        cases d5
        exact d4 ρ' H' w' e1.s e3 e4 d6
      refine ⟨hok, (ih false (L.setIfInBounds i true) _ pc _ ρ' H' w' t' a' h4 (hcl.set hr) e1 e2 (fun k hk => (e3 k (by omega)).trans (hρ k hk)) (by omega) ?_ hok hvd).1 rfl fuel hf⟩
      rintro k S ⟨hk, hk2⟩
      obtain ⟨d1, d2, c, d3, d4⟩ := hpd k S hk
      have hik : i ≠ k := by
        rintro rfl
        have := (mem_ready.1 hr).1; rw [d2] at this; cases this
      refine ⟨List.mem_filter.2 ⟨d1, by rw [hk2]; rfl⟩, by rw [getD_set_ne true hik]; exact d2, c, d3, ?_⟩
      intro ρ2 H2 w2 q1 q2 q3 q4
      exact d4 ρ2 H2 w2 q1 (fun j hj => (q2 j (by omega)).trans (e3 j hj)) (by omega) q4
    refine ⟨fun hbr fuel hf => ?_, fun j hj hr fuel hf => ?_⟩
    · subst hbr
      simp only [Bool.false_or, beq_iff_eq] at h1
      obtain ⟨fuel, rfl⟩ : ∃ f, fuel = f + 1 := ⟨fuel - 1, by simp only [Pl.depth] at hf; omega⟩
      refine ⟨fun h0 => (by rw [h0] at h1; cases h1), fun j hj => ?_⟩
      rw [h1] at hj
      obtain rfl : j = i := by simpa using hj
      exact step (by rw [h1]; simp) fuel (by simp only [Pl.depth] at hf; omega)
    · simp only [covers, beq_iff_eq] at hj
      subst hj
      exact step hr fuel (by simp only [Pl.depth] at hf; omega)
  | br p q ihp ihq =>
    intro br L pd pc pend ρ H w t a hp hcl h hd hρ hl hpd hpo hv
    simp only [planOK, Bool.and_eq_true] at hp
    obtain ⟨⟨h1, h2⟩, h3⟩ := hp
    simp only [vcDraw] at hv
    have Hp := (ihp true L pd pc pend ρ H w t a h2 hcl h hd hρ hl hpd hpo hv.1).2
    have Hq := (ihq true L pd pc pend ρ H w t a h3 hcl h hd hρ hl hpd hpo hv.2).2
    have B : ∀ j, covers (.br p q) j = true → j ∈ Region.ready .any ops L → ∀ fuel, (Pl.br p q).depth ≤ fuel + 1 →
        wpOp P ops Q j (fun a' w' => (pend.after .any ops j).ok w' ∧ wpAnyR P .any ops Q fuel (pend.after .any ops j) (L.setIfInBounds j true) a' w') a w := by
      intro j hj hr fuel hf
      simp only [covers, Bool.or_eq_true] at hj
      simp only [Pl.depth] at hf
      rcases hj with hj | hj
      · exact Hp j hj hr fuel (Nat.le_trans (Nat.le_max_left _ _) hf)
      · exact Hq j hj hr fuel (Nat.le_trans (Nat.le_max_right _ _) hf)
    refine ⟨fun hbr fuel hf => ?_, B⟩
    subst hbr
    simp only [Bool.false_or, Bool.and_eq_true, List.all_eq_true, Bool.not_eq_true', List.isEmpty_eq_false_iff] at h1
    obtain ⟨h1, h1'⟩ := h1
    obtain ⟨j0, hj0⟩ := List.exists_mem_of_ne_nil _ h1'
    have := covers_depth (h1 j0 hj0)
    obtain ⟨fuel, rfl⟩ : ∃ f, fuel = f + 1 := ⟨fuel - 1, by omega⟩
    exact ⟨fun h0 => absurd h0 h1', fun j hj => B j (h1 j hj) hj fuel hf⟩

theorem St.drew {ρ : Rho} {H : List SO} {w : World} (h : St ρ H g w) : St ρ H g { w with drawn := w.drawn + 1 } := h.heap ⟨rfl, rfl, rfl, rfl, Nat.le_succ _⟩

theorem vcDraw_region {id : Nat} {l : List VIns} {p : Pl} {w : World} {t : List SV} {a : Act} (hm : P.follows .mixedOrders = true) (hc : ops.toList.mapM (cIns P ops) = some l) (hp : planFits ops l p = true)
    (hQp : ∀ c a w, ¬ Q (.panic c) a w) {Q' : List SV → List SO → Prop} (hQ : ∀ a w, Nxt P ρ0 H0 g Q' a w → Q .normal a w)
    (h : At P ρ0 H0 g w t a) (hd : a.defers = []) (hv : vcDraw P l p [] t H0 Q') : (Code.region id ops true).wp P Q a w := by
  simp only [planFits, Bool.and_eq_true] at hp
  obtain ⟨⟨h1, h2⟩, h3⟩ := hp
  refine wp_region_any hm (wpAny_of_R ops.size (fun _ _ => False) _ _ _ ?_)
  exact (vcDraw_sound hc h1 hQp hQ p false _ [] [] (fun _ _ => False) ρ0 H0 _ t a h2 (closed_start _) ⟨h.f, h.b, h.s.drew⟩ hd (fun _ _ => rfl) (Nat.le_refl _)
    (fun _ _ h => h.elim) (fun _ _ h => h.elim) hv).1 rfl _ (Nat.le_of_ble_eq_true h3)
end
end Go.V
