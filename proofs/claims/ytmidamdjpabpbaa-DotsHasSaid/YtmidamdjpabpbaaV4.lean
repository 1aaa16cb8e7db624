/- Part of the proof that the statement named in the last file holds: lemmas of the prover's own. No conditions. -/
import Derived.Test.YtmidamdjpabpbaaV3
namespace Go.V
open Go

/-! ### States -/
def upd (ρ : Rho) (n : Nat) (b : Option Nat) : Rho := fun k => if k = n then b else ρ k
theorem upd_same (ρ : Rho) (n : Nat) (b : Option Nat) : upd ρ n b n = b := by simp [upd]
theorem upd_lt (ρ : Rho) {n k : Nat} (b : Option Nat) (h : k < n) : upd ρ n b k = ρ k := by simp [upd]; omega

theorem entryOK_congr {ρ ρ' : Rho} {w w' : World} {k n : Nat} {so : SO} (hk : k < n) (h : entryOK ρ w k so) (hr : ∀ j, j < n → ρ' j = ρ j)
    (hs : ∀ l e, so = .cells l e → belowL n l = true) (hi : ∀ m s seen st, so = .iter (some m) s seen st → m < n)
    (hw : ∀ (b : Nat) (o : Obj), so ≠ .gone → w.heap[b]? = some o → ((so.owned = true ∨ so.isRo = true) → ρ k = some b) → (∀ h, so = .ghost h → h b = some o) → w'.heap[b]? = some o) : entryOK ρ' w' k so := by
  have hk' := hr k hk
  cases so <;> simp only [entryOK] at h ⊢
  case cells l e =>
    obtain ⟨b, h1, h2⟩ := h
    refine ⟨b, hk' ▸ h1, ?_⟩
    rw [valL_congr hr l (hs l e rfl)]
    exact hw _ _ (by simp) h2 (fun _ => h1) (by simp)
  case arr xs e =>
    rcases h with ⟨h1, h2⟩ | ⟨b, fr, h1, h2, h3⟩
    · exact .inl ⟨hk' ▸ h1, h2⟩
    · exact .inr ⟨b, fr, hk' ▸ h1, hw _ _ (by simp) h2 (fun _ => h1) (by simp), h3⟩
  case ro xs e =>
    rcases h with ⟨h1, h2⟩ | ⟨b, fr, h1, h2⟩
    · exact .inl ⟨hk' ▸ h1, h2⟩
    · exact .inr ⟨b, fr, hk' ▸ h1, hw _ _ (by simp) h2 (fun _ => h1) (by simp)⟩
  case map es c =>
    obtain ⟨b, h1, h2⟩ := h
    exact ⟨b, hk' ▸ h1, hw _ _ (by simp) h2 (fun _ => h1) (by simp)⟩
  case iter m s seen st =>
    obtain ⟨b, h1, h2⟩ := h
    refine ⟨b, hk' ▸ h1, ?_⟩
    have : m.bind ρ' = m.bind ρ := by
      cases m with
      | none => rfl
      | some m => exact hr m (hi m s seen st rfl)
    rw [this]
    exact hw _ _ (by simp) h2 (fun _ => h1) (by simp)
  case siter s p =>
    obtain ⟨b, h1, h2⟩ := h
    exact ⟨b, hk' ▸ h1, hw _ _ (by simp) h2 (fun _ => h1) (by simp)⟩
  case ghost gh =>
    intro b o hb
    exact hw b o (by simp) (h b o hb) (fun hh => by simp [SO.owned, SO.isRo] at hh) (fun h' e => by cases e; exact hb)

theorem entryOK_lt {ρ : Rho} {w : World} {k b : Nat} {so : SO} (h : entryOK ρ w k so) (ho : so.owned = true ∨ so.isRo = true) (hr : ρ k = some b) : b < w.heap.size := by
  have key : ∀ (b' : Nat) (o : Obj), ρ k = some b' → w.heap[b']? = some o → b < w.heap.size := by
    intro b' o h1 h2
    rw [hr] at h1; cases h1
    exact (Array.getElem?_eq_some_iff.1 h2).1
  cases so <;> simp only [entryOK, SO.owned, SO.isRo] at h ho
  case cells l e => obtain ⟨b', h1, h2⟩ := h; exact key _ _ h1 h2
  case arr xs e =>
    rcases h with ⟨h1, _⟩ | ⟨b', fr, h1, h2, _⟩
    · rw [hr] at h1; cases h1
    · exact key _ _ h1 h2
  case ro xs e =>
    rcases h with ⟨h1, _⟩ | ⟨b', fr, h1, h2⟩
    · rw [hr] at h1; cases h1
    · exact key _ _ h1 h2
  case map es c => obtain ⟨b', h1, h2⟩ := h; exact key _ _ h1 h2
  case iter m s seen st => obtain ⟨b', h1, h2⟩ := h; exact key _ _ h1 h2
  case siter s p => obtain ⟨b', h1, h2⟩ := h; exact key _ _ h1 h2
  all_goals simp at ho

theorem obj_some {H : List SO} {k : Nat} (h : obj H k ≠ .gone) : H[k]? = some (obj H k) := by
  unfold obj at *
  by_cases hk : k < H.length
  · simp [hk]
  · simp [hk] at h

section
variable {ρ : Rho} {H : List SO} {g : Fr} {w w' : World}

theorem HeapIs.env {X : Array Obj} (h : HeapIs w w' X) (hS : St ρ H g w) : w'.os = g.os ∧ w'.tape = g.tape ∧ w'.output = g.out ∧ g.dr ≤ w'.drawn :=
  ⟨h.2.1.trans hS.env.1, h.2.2.1.trans hS.env.2.1, h.2.2.2.1.trans hS.env.2.2.1, Nat.le_trans hS.env.2.2.2 h.2.2.2.2⟩

theorem St.heap (h : St ρ H g w) (hwe : HeapIs w w' w.heap) : St ρ H g w' := by
  have hw := hwe.1
  constructor
  · intro k so hk
    have := h.ent k so hk
    cases so <;> simp only [entryOK, hw] at this ⊢ <;> exact this
  · exact h.dis
  · exact h.gho
  · exact hwe.env h
  · rw [hw]; exact h.frm
  · exact h.frd
  · exact h.scp
  · exact h.sci

/-- A new block. -/
theorem St.alloc (h : St ρ H g w) {so : SO} {o : Obj} (hwe : HeapIs w w' (w.heap.push o)) (hown : so.owned = true)
    (he : entryOK (upd ρ H.length (some w.heap.size)) w' H.length so)
    (hs : ∀ l e, so = .cells l e → belowL H.length l = true) (hi : ∀ m s seen st, so = .iter (some m) s seen st → m < H.length) :
    St (upd ρ H.length (some w.heap.size)) (H ++ [so]) g w' := by
  have hw := hwe.1
  have hold : ∀ (b : Nat) (o' : Obj), w.heap[b]? = some o' → w'.heap[b]? = some o' := by
    intro b o' hb
    have hlt := (Array.getElem?_eq_some_iff.1 hb).1
    rw [hw, Array.getElem?_push_lt hlt]
    simpa [hlt] using hb
  have hget : ∀ (k : Nat) s, (H ++ [so])[k]? = some s → (k < H.length ∧ H[k]? = some s) ∨ (k = H.length ∧ s = so) := by
    intro k s hk
    rcases Nat.lt_trichotomy k H.length with h1 | h1 | h1
    · exact .inl ⟨h1, by rwa [List.getElem?_append_left h1] at hk⟩
    · subst h1; simp at hk; exact .inr ⟨rfl, hk.symm⟩
    · rw [List.getElem?_eq_none (by simp; omega)] at hk; cases hk
  have hlen : ∀ {k : Nat} {s : SO}, H[k]? = some s → k < H.length := fun hk => (List.getElem?_eq_some_iff.1 hk).1
  constructor
  · intro k s hk
    rcases hget k s hk with ⟨h1, h2⟩ | ⟨h1, h2⟩
    · refine entryOK_congr h1 (h.ent k s h2) (fun j hj => upd_lt ρ _ hj) ?_ ?_ (fun b o' _ hb _ _ => hold b o' hb)
      · rintro l e rfl; exact h.scp k l e h2
      · rintro m s' seen st rfl; exact h.sci k m s' seen st h2
    · subst h1 h2; exact he
  · intro i j si sj b hij hi' hj' ho hoj hb
    rcases hget i si hi' with ⟨h1, h2⟩ | ⟨h1, h2⟩ <;> rcases hget j sj hj' with ⟨h3, h4⟩ | ⟨h3, h4⟩
    · rw [upd_lt ρ _ h1] at hb; rw [upd_lt ρ _ h3]; exact h.dis i j si sj b hij h2 h4 ho hoj hb
    · subst h3; rw [upd_lt ρ _ h1] at hb; rw [upd_same]
      have := entryOK_lt (h.ent i si h2) (.inl ho) hb
      intro hc; cases hc; omega
    · subst h1; rw [upd_same] at hb; cases hb; rw [upd_lt ρ _ h3]
      intro hc
      have := entryOK_lt (h.ent j sj h4) hoj hc
      omega
    · omega
  · intro i j si gh b hi' ho hj' hb
    rcases hget j _ hj' with ⟨h3, h4⟩ | ⟨h3, h4⟩
    · rcases hget i si hi' with ⟨h1, h2⟩ | ⟨h1, h2⟩
      · rw [upd_lt ρ _ h1] at hb; exact h.gho i j si gh b h2 ho h4 hb
      · subst h1; rw [upd_same] at hb; cases hb
        cases hx : gh w.heap.size with
        | none => rfl
        | some o' =>
          have := h.ent j _ h4
          simp only [entryOK] at this
          have := (Array.getElem?_eq_some_iff.1 (this _ _ hx)).1
          omega
    · subst h4; simp [SO.owned] at hown
  · exact hwe.env h
  · intro b o' hb; exact hold b o' (h.frm b o' hb)
  · intro i si b hi' ho hb
    rcases hget i si hi' with ⟨h1, h2⟩ | ⟨h1, h2⟩
    · rw [upd_lt ρ _ h1] at hb; exact h.frd i si b h2 ho hb
    · subst h1; rw [upd_same] at hb; cases hb
      cases hx : g.f w.heap.size with
      | none => rfl
      | some o' => have := (Array.getElem?_eq_some_iff.1 (h.frm _ _ hx)).1; omega
  · intro k l e hk
    rcases hget k _ hk with ⟨h1, h2⟩ | ⟨h1, h2⟩
    · exact belowL_mono (by simp) l (h.scp k l e h2)
    · exact belowL_mono (by simp) l (hs l e h2.symm)
  · intro k m s seen st hk
    rcases hget k _ hk with ⟨h1, h2⟩ | ⟨h1, h2⟩
    · have := h.sci k m s seen st h2; simp; omega
    · have := hi m s seen st h2.symm; simp; omega

/-- A block is written. -/
theorem St.set (h : St ρ H g w) {k b : Nat} {so so' : SO} {o : Obj} (hk : H[k]? = some so) (hown : so.owned = true) (hown' : so'.owned = true) (hb : ρ k = some b)
    (hwe : HeapIs w w' (w.heap.setIfInBounds b o)) (he : entryOK ρ w' k so')
    (hs : ∀ l e, so' = .cells l e → belowL H.length l = true) (hi : ∀ m s seen st, so' = .iter (some m) s seen st → m < H.length) :
    St ρ (H.set k so') g w' := by
  have hw := hwe.1
  have hkl := (List.getElem?_eq_some_iff.1 hk).1
  have hget : ∀ (j : Nat) s, (H.set k so')[j]? = some s → (j ≠ k ∧ H[j]? = some s) ∨ (j = k ∧ s = so') := by
    intro j s hj
    by_cases hjk : j = k
    · subst hjk; simp [hkl] at hj; exact .inr ⟨rfl, hj.symm⟩
    · rw [List.getElem?_set_ne (Ne.symm hjk)] at hj; exact .inl ⟨hjk, hj⟩
  have hoth : ∀ (b' : Nat) (o' : Obj), b' ≠ b → w.heap[b']? = some o' → w'.heap[b']? = some o' := by
    intro b' o' hne hb'; rw [hw, Array.getElem?_setIfInBounds_ne (Ne.symm hne)]; exact hb'
  constructor
  · intro j s hj
    rcases hget j s hj with ⟨h1, h2⟩ | ⟨h1, h2⟩
    · refine entryOK_congr (n := H.length) (List.getElem?_eq_some_iff.1 h2).1 (h.ent j s h2) (fun _ _ => rfl) ?_ ?_ ?_
      · rintro l e rfl; exact h.scp j l e h2
      · rintro m s' seen st rfl; exact h.sci j m s' seen st h2
      · intro b' o' hng hb' hor hgh
        refine hoth b' o' ?_ hb'
        rintro rfl
        cases s with
        | gone => exact hng rfl
        | ghost gh =>
          have h3 := h.gho k j so gh b' hk hown h2 hb
          rw [hgh gh rfl] at h3; cases h3
        | ro xs e => exact h.dis k j so _ b' (Ne.symm h1) hk h2 hown (.inr rfl) hb (hor (.inr rfl))
        | cells l e => exact h.dis k j so _ b' (Ne.symm h1) hk h2 hown (.inl rfl) hb (hor (.inl rfl))
        | arr xs e => exact h.dis k j so _ b' (Ne.symm h1) hk h2 hown (.inl rfl) hb (hor (.inl rfl))
        | map es c => exact h.dis k j so _ b' (Ne.symm h1) hk h2 hown (.inl rfl) hb (hor (.inl rfl))
        | iter m s seen st => exact h.dis k j so _ b' (Ne.symm h1) hk h2 hown (.inl rfl) hb (hor (.inl rfl))
        | siter s p => exact h.dis k j so _ b' (Ne.symm h1) hk h2 hown (.inl rfl) hb (hor (.inl rfl))
    · subst h1 h2; exact he
  · intro i j si sj b' hij hi' hj' ho hoj hb'
    rcases hget i si hi' with ⟨h1, h2⟩ | ⟨h1, h2⟩ <;> rcases hget j sj hj' with ⟨h3, h4⟩ | ⟨h3, h4⟩
    · exact h.dis i j si sj b' hij h2 h4 ho hoj hb'
    · subst h3; exact h.dis i j si so b' hij h2 hk ho (.inl hown) hb'
    · subst h1; exact h.dis i j so sj b' hij hk h4 hown hoj hb'
    · omega
  · intro i j si gh b' hi' ho hj' hb'
    rcases hget j _ hj' with ⟨h3, h4⟩ | ⟨h3, h4⟩
    · rcases hget i si hi' with ⟨h1, h2⟩ | ⟨h1, h2⟩
      · exact h.gho i j si gh b' h2 ho h4 hb'
      · subst h1; exact h.gho i j so gh b' hk hown h4 hb'
    · subst h4; simp [SO.owned] at hown'
  · exact hwe.env h
  · intro b' o' hb'
    refine hoth b' o' ?_ (h.frm b' o' hb')
    rintro rfl
    rw [h.frd k so b' hk hown hb] at hb'; cases hb'
  · intro i si b' hi' ho hb'
    rcases hget i si hi' with ⟨h1, h2⟩ | ⟨h1, h2⟩
    · exact h.frd i si b' h2 ho hb'
    · subst h1; exact h.frd i so b' hk hown hb'
  · intro j l e hj
    rw [List.length_set]
    rcases hget j _ hj with ⟨h1, h2⟩ | ⟨h1, h2⟩
    · exact h.scp j l e h2
    · exact hs l e h2.symm
  · intro j m s seen st hj
    rw [List.length_set]
    rcases hget j _ hj with ⟨h1, h2⟩ | ⟨h1, h2⟩
    · exact h.sci j m s seen st h2
    · exact hi m s seen st h2.symm

/-- An entry goes over to a new place. -/
theorem St.move (h : St ρ H g w) {k : Nat} {so : SO} (hk : H[k]? = some so) (hown : so.owned = true) : St (upd ρ H.length (ρ k)) (H.set k .gone ++ [so]) g w := by
  have hkl := (List.getElem?_eq_some_iff.1 hk).1
  have hget : ∀ (j : Nat) s, (H.set k .gone ++ [so])[j]? = some s → (j < H.length ∧ j ≠ k ∧ H[j]? = some s) ∨ (j = k ∧ s = .gone) ∨ (j = H.length ∧ s = so) := by
    intro j s hj
    rcases Nat.lt_trichotomy j H.length with h1 | h1 | h1
    · rw [List.getElem?_append_left (by simpa using h1)] at hj
      by_cases hjk : j = k
      · subst hjk; simp [hkl] at hj; exact .inr (.inl ⟨rfl, hj.symm⟩)
      · rw [List.getElem?_set_ne (Ne.symm hjk)] at hj; exact .inl ⟨h1, hjk, hj⟩
    · subst h1; rw [List.getElem?_append_right (by simp)] at hj; simp at hj; exact .inr (.inr ⟨rfl, hj.symm⟩)
    · rw [List.getElem?_eq_none (by simp; omega)] at hj; cases hj
  -- every entry of the new list, seen as one of the old
  have hold : ∀ (j : Nat) s, (H.set k .gone ++ [so])[j]? = some s → (s.owned = true ∨ s.isRo = true ∨ ∃ gh, s = .ghost gh) →
      ∃ j', H[j']? = some s ∧ upd ρ H.length (ρ k) j = ρ j' ∧ (j' = k ↔ j = H.length) ∧ (j ≠ H.length → j' = j) := by
    intro j s hj ho
    rcases hget j s hj with ⟨h1, h2, h3⟩ | ⟨h1, h2⟩ | ⟨h1, h2⟩
    · exact ⟨j, h3, upd_lt ρ _ h1, ⟨fun e => absurd e h2, fun e => by omega⟩, fun _ => rfl⟩
    · subst h2; simp [SO.owned, SO.isRo] at ho
    · subst h1 h2; exact ⟨k, hk, upd_same _ _ _, ⟨fun _ => rfl, fun _ => rfl⟩, fun e => absurd rfl e⟩
  constructor
  · intro j s hj
    rcases hget j s hj with ⟨h1, h2, h3⟩ | ⟨h1, h2⟩ | ⟨h1, h2⟩
    · refine entryOK_congr h1 (h.ent j s h3) (fun i hi => upd_lt ρ _ hi) ?_ ?_ (fun b o _ hb _ _ => hb)
      · rintro l e rfl; exact h.scp j l e h3
      · rintro m s' seen st rfl; exact h.sci j m s' seen st h3
    · subst h2; trivial
    · subst h1 h2
      have h3 := h.ent k s hk
      have hρ : ∀ i, i < H.length → upd ρ H.length (ρ k) i = ρ i := fun i hi => upd_lt ρ _ hi
      cases s <;> simp only [entryOK, upd_same] at h3 ⊢ <;> try exact h3
      case cells l e => rw [valL_congr hρ l (h.scp k l e hk)]; exact h3
      case iter m s seen st =>
        have : m.bind (upd ρ H.length (ρ k)) = m.bind ρ := by
          cases m with
          | none => rfl
          | some m => exact hρ m (h.sci k m s seen st hk)
        rw [this]; exact h3
  · intro i j si sj b hij hi' hj' ho hoj hb
    obtain ⟨i', a1, a2, a3, a4⟩ := hold i si hi' (.inl ho)
    obtain ⟨j', b1, b2, b3, b4⟩ := hold j sj hj' (hoj.imp id .inl)
    rw [a2] at hb; rw [b2]
    refine h.dis i' j' si sj b ?_ a1 b1 ho hoj hb
    intro e; subst e
    by_cases e1 : i = H.length
    · exact hij (e1.trans (b3.1 (a3.2 e1)).symm)
    · by_cases e2 : j = H.length
      · exact hij ((a3.1 (b3.2 e2)).trans e2.symm)
      · exact hij ((a4 e1).symm.trans (b4 e2))
  · intro i j si gh b hi' ho hj' hb
    obtain ⟨i', a1, a2, _, _⟩ := hold i si hi' (.inl ho)
    obtain ⟨j', b1, b2, _, _⟩ := hold j _ hj' (.inr (.inr ⟨gh, rfl⟩))
    rw [a2] at hb
    exact h.gho i' j' si gh b a1 ho b1 hb
  · exact h.env
  · exact h.frm
  · intro i si b hi' ho hb
    obtain ⟨i', a1, a2, _, _⟩ := hold i si hi' (.inl ho)
    rw [a2] at hb
    exact h.frd i' si b a1 ho hb
  · intro j l e hj
    obtain ⟨j', b1, _, _, _⟩ := hold j _ hj (.inl rfl)
    exact belowL_mono (by simp) l (h.scp j' l e b1)
  · intro j m s seen st hj
    obtain ⟨j', b1, _, _, _⟩ := hold j _ hj (.inl rfl)
    have := h.sci j' m s seen st b1
    simp; omega
end
end Go.V
