/- Part of the proof that the statement named in the last file holds: lemmas of the prover's own. No conditions. -/
import Derived.Test.YtmidamdjpabpbaaV4
namespace Go.V
open Go

section run
variable {P : Program} {w : World}

theorem run_und {t : TypeId} {d : TypeDesc} (h : P.underlying t = some d) : (underlying t).run P w = .ok d w := by simp [underlying, h]
theorem run_size {t : TypeId} {n : Nat} (h : sizeT P t = some n) : (sizeOf t).run P w = .ok n w := by
  unfold sizeT at h
  cases hi : P.info? t with
  | none => simp [hi] at h
  | some i => simp [hi] at h; simp [sizeOf, typeInfo, hi, h]
theorem run_zero {t : TypeId} {v : Value} (h : zeroT P t = some v) : (zeroValue t).run P w = .ok v w := by
  unfold zeroT at h
  cases hi : P.info? t with
  | none => simp [hi] at h
  | some i => simp [hi] at h; simp [zeroValue, typeInfo, hi, h]
theorem run_isAgg {t : TypeId} {b : Bool} (h : isAggT P t = some b) : (isAgg t).run P w = .ok b w := by
  unfold isAggT at h
  cases hd : P.underlying t with
  | none => simp [hd] at h
  | some d => cases d <;> simp [hd] at h <;> simp [isAgg, run_und hd, h]

theorem shape_none {t : TypeId} (h : shapeT P t = some none) : isAggT P t = some false ∧ sizeT P t = some 1 := by
  unfold shapeT at h
  split at h <;> simp_all
theorem shape_some {t : TypeId} {n : Nat} (h : shapeT P t = some (some n)) : isAggT P t = some true ∧ sizeT P t = some n := by
  unfold shapeT at h
  split at h <;> simp_all

theorem shape_zero {t : TypeId} : shapeT P t ≠ some (some 0) := by
  unfold shapeT
  split <;> simp

theorem cell_of {b o : Nat} {c : Array Value} {e : TypeId} {fr : Nat × Nat} (h : w.heap[b]? = some (.cells c e fr)) : w.cell? ⟨b, o, none⟩ = c[o]? := by
  simp [World.cell?, h]
theorem add_eq (b o n : Nat) : Addr.add ⟨b, o, none⟩ n = ⟨b, o + n, none⟩ := by
  unfold Addr.add; split <;> simp_all

theorem run_load1 {a : Addr} {v : Value} (h : w.cell? a = some v) : (load a).run P w = .ok v w := by simp [load, Sem.run, h]
theorem run_loadVar1 {t : TypeId} {a : Addr} {v : Value} (hs : shapeT P t = some none) (h : w.cell? a = some v) : (loadVar t a).run P w = .ok v w := by
  simp [loadVar, run_isAgg (shape_none hs).1, h]
theorem run_loadVarN {t : TypeId} {a : Addr} {l : List Value} (hs : shapeT P t = some (some l.length)) (h : ∀ (j : Nat) v, l[j]? = some v → w.cell? (a.add j) = some v) : (loadVar t a).run P w = .ok (.agg l.toArray) w := by
  simp [loadVar, run_isAgg (shape_some hs).1, run_size (shape_some hs).2, run_loadCells_list (P := P) (w := w) a l h]

/-- Cells written one by one. -/
theorem run_storeCells {b o : Nat} {e : TypeId} {fr : Nat × Nat} : ∀ (ys : List Value) (i : Nat) (c : Array Value) (w : World), w.heap[b]? = some (.cells c e fr) →
    (∀ v ∈ ys, v.oneCell' = true) → o + i + ys.length ≤ c.size → (fr.1 = fr.2 ∨ c.size ≤ fr.1) →
    ∃ w' c', (storeCells ⟨b, o, none⟩ ys i).run P w = .ok () w' ∧ HeapIs w w' (w.heap.setIfInBounds b (.cells c' e fr)) ∧ c'.size = c.size ∧
      ∀ j, c'[j]? = if o + i ≤ j ∧ j < o + i + ys.length then ys[j - (o + i)]? else c[j]?
  | [], i, c, w, h, _, _, _ => by
    refine ⟨w, c, rfl, ?_, rfl, fun j => ?_⟩
    · refine ⟨?_, rfl, rfl, rfl, Nat.le_refl _⟩
      apply Array.ext_getElem?
      intro j
      by_cases hj : b = j
      · subst hj; rw [h]; have := (Array.getElem?_eq_some_iff.1 h).1; simp [this]
      · rw [Array.getElem?_setIfInBounds_ne hj]
    · rw [if_neg (by simp)]
  | v :: ys, i, c, w, h, ho, hlen, hfr => by
    have hlt := (Array.getElem?_eq_some_iff.1 h).1
    simp only [List.length_cons] at hlen
    have hc : w.cell? (Addr.add ⟨b, o, none⟩ i) = some c[o + i] := by
      rw [add_eq, cell_of h]; simp [show o + i < c.size by omega]
    have hz : w.frozen? (Addr.add ⟨b, o, none⟩ i) = false := by
      rw [add_eq]; simp only [World.frozen?, h]
      rcases hfr with h1 | h1
      · simp; omega
      · simp; omega
    have hs : (store (Addr.add ⟨b, o, none⟩ i) v).run P w = .ok () (w.setCell (Addr.add ⟨b, o, none⟩ i) v) := by
      rw [run_store P w _ v _ (ho v (by simp))]; simp [hc, hz]
    have hheap : (w.setCell (Addr.add ⟨b, o, none⟩ i) v).heap = w.heap.setIfInBounds b (.cells (c.setIfInBounds (o + i) v) e fr) := by
      rw [add_eq]
      apply Array.ext_getElem?
      intro j
      by_cases hj : b = j
      · subst hj
        have e0 : w.heap[b] = .cells c e fr := by
          have := h; rw [Array.getElem?_eq_getElem hlt] at this; exact Option.some.inj this
        simp [World.setCell, hlt, Array.getElem_modify, e0]
      · simp [World.setCell, Array.getElem?_modify, hj, Array.getElem?_setIfInBounds_ne hj]
    have h1 : (w.setCell (Addr.add ⟨b, o, none⟩ i) v).heap[b]? = some (.cells (c.setIfInBounds (o + i) v) e fr) := by
      rw [hheap]; simp [hlt]
    obtain ⟨w', c', r1, r2, r3, r4⟩ := run_storeCells (o := o) ys (i + 1) (c.setIfInBounds (o + i) v) _ h1 (fun x hx => ho x (by simp [hx])) (by rw [Array.size_setIfInBounds]; omega) (by simpa using hfr)
    refine ⟨w', c', ?_, ?_, by simpa using r3, fun j => ?_⟩
    · simp [storeCells, hs, r1]
    · exact ⟨by rw [r2.1, hheap]; simp, r2.2.1.trans rfl, r2.2.2.1.trans rfl, r2.2.2.2.1.trans rfl, Nat.le_trans (Nat.le_refl _) r2.2.2.2.2⟩
    · rw [r4 j]
      by_cases e1 : j = o + i
      · subst e1
        rw [if_neg (by omega), if_pos ⟨Nat.le_refl _, by simp only [List.length_cons]; omega⟩]
        simp [show o + i < c.size by omega]
      · by_cases e2 : o + (i + 1) ≤ j ∧ j < o + (i + 1) + ys.length
        · rw [if_pos e2, if_pos ⟨by omega, by simp only [List.length_cons]; omega⟩]
          rw [show j - (o + i) = (j - (o + (i + 1))) + 1 by omega]; simp
        · rw [if_neg e2, if_neg (by simp only [List.length_cons]; omega)]
          rw [Array.getElem?_setIfInBounds_ne (by omega)]
end run

theorem paste_spec {α : Type} : ∀ {l : List α} {o : Nat} {ys l' : List α}, paste l o ys = some l' → o + ys.length ≤ l.length ∧ l'.length = l.length ∧
    ∀ j, l'[j]? = if o ≤ j ∧ j < o + ys.length then ys[j - o]? else l[j]?
  | l, 0, [], l', h => by
    simp [paste] at h; subst h
    exact ⟨by simp, rfl, fun j => by rw [if_neg (by simp)]⟩
  | [], 0, _ :: _, l', h => by simp [paste] at h
  | x :: l, 0, y :: ys, l', h => by
    simp only [paste] at h
    split at h
    · rename_i l2 h2
      cases h
      obtain ⟨a, b, c⟩ := paste_spec h2
      refine ⟨by simp at a ⊢; omega, by simp [b], fun j => ?_⟩
      cases j with
      | zero => simp
      | succ j =>
        have := c j
        simp only [List.getElem?_cons_succ, this]
        simp only [Nat.zero_le, true_and, Nat.zero_add, List.length_cons, Nat.sub_zero, List.getElem?_cons_succ]
        by_cases h1 : j < ys.length
        · rw [if_pos h1, if_pos (by omega)]
        · rw [if_neg h1, if_neg (by omega)]
    · cases h
  | [], _ + 1, _, l', h => by simp [paste] at h
  | x :: l, o + 1, ys, l', h => by
    simp only [paste] at h
    split at h
    · rename_i l2 h2
      cases h
      obtain ⟨a, b, c⟩ := paste_spec h2
      refine ⟨by simp; omega, by simp [b], fun j => ?_⟩
      cases j with
      | zero => simp
      | succ j =>
        have := c j
        simp only [List.getElem?_cons_succ, this]
        by_cases h1 : o ≤ j ∧ j < o + ys.length
        · rw [if_pos h1, if_pos (by omega), show j + 1 - (o + 1) = j - o by omega]
        · rw [if_neg h1, if_neg (by omega)]
    · cases h
theorem cut_spec {α : Type} : ∀ {l : List α} {o n : Nat} {l' : List α}, cut l o n = some l' → l'.length = n ∧ ∀ j, j < n → l'[j]? = l[o + j]?
  | l, o, 0, l', h => by
    simp [cut] at h; subst h; exact ⟨rfl, fun j hj => by omega⟩
  | [], o, n + 1, l', h => by simp [cut] at h
  | x :: l, o + 1, n + 1, l', h => by
    simp only [cut] at h
    obtain ⟨a, b⟩ := cut_spec h
    exact ⟨a, fun j hj => by rw [b j hj, show o + 1 + j = (o + j) + 1 by omega]; simp⟩
  | x :: l, 0, n + 1, l', h => by
    simp only [cut] at h
    split at h
    · rename_i l2 h2
      cases h
      obtain ⟨a, b⟩ := cut_spec h2
      refine ⟨by simp [a], fun j hj => ?_⟩
      cases j with
      | zero => simp
      | succ j => have := b j (by omega); simp at this ⊢; exact this
    · cases h
theorem cut_mem {α : Type} {l : List α} {o n : Nat} {l' : List α} (h : cut l o n = some l') : ∀ v ∈ l', v ∈ l := by
  obtain ⟨a, b⟩ := cut_spec h
  intro v hv
  obtain ⟨j, hj, rfl⟩ := List.getElem_of_mem hv
  have := b j (by omega)
  rw [List.getElem?_eq_getElem hj] at this
  exact List.mem_of_getElem? this.symm
theorem paste_mem {α : Type} {l : List α} {o : Nat} {ys l' : List α} (h : paste l o ys = some l') : ∀ v ∈ l', v ∈ l ∨ v ∈ ys := by
  obtain ⟨a, b, c⟩ := paste_spec h
  intro v hv
  obtain ⟨j, hj, rfl⟩ := List.getElem_of_mem hv
  have := c j
  rw [List.getElem?_eq_getElem hj] at this
  split at this
  · exact .inr (List.mem_of_getElem? this.symm)
  · exact .inl (List.mem_of_getElem? this.symm)

theorem one_val (ρ : Rho) {v : SV} (h : one v = true) : (val ρ v).oneCell' = true := by
  cases v <;> simp [one] at h <;> try rfl
  rename_i x
  cases x <;> simp [val] at h ⊢ <;> rfl
theorem oneL_val (ρ : Rho) : ∀ {l : List SV}, oneL l = true → ∀ v ∈ valL ρ l, v.oneCell' = true
  | [], _, v, hv => by simp [valL] at hv
  | x :: l, h, v, hv => by
    simp [oneL] at h; simp [valL] at hv
    rcases hv with rfl | hv
    · exact one_val ρ h.1
    · exact oneL_val ρ h.2 v hv

mutual
theorem plain_val (ρ : Rho) : ∀ {v : SV} {x : Value}, plain v = some x → val ρ v = x
  | .raw _, _, h => by simp [plain] at h; simp [val, h]
  | .kb _, _, h => by simp [plain] at h; simp [val, h]
  | .ptr .., _, h => by simp [plain] at h
  | .ptx .., _, h => by simp [plain] at h
  | .sl .., _, h => by simp [plain] at h
  | .mp _, _, h => by simp [plain] at h
  | .fn .., _, h => by simp [plain] at h
  | .agg l, _, h => by
    simp only [plain] at h
    split at h
    · rename_i vs hv; cases h; simp [val, plainL_val ρ hv]
    · cases h
  | .tup l, _, h => by
    simp only [plain] at h
    split at h
    · rename_i vs hv; cases h; simp [val, plainL_val ρ hv]
    · cases h
  | .ifc t v, _, h => by
    simp only [plain] at h
    split at h
    · rename_i vs hv; cases h; simp [val, plain_val ρ hv]
    · cases h
theorem plainL_val (ρ : Rho) : ∀ {l : List SV} {xs : List Value}, plainL l = some xs → valL ρ l = xs
  | [], _, h => by simp [plainL] at h; simp [valL, h]
  | v :: l, _, h => by
    simp only [plainL] at h
    split at h
    · rename_i x xs h1 h2; cases h; simp [valL, plain_val ρ h1, plainL_val ρ h2]
    · cases h
end
mutual
theorem plain_below (n : Nat) : ∀ {v : SV} {x : Value}, plain v = some x → below n v = true
  | .raw _, _, _ => rfl
  | .kb _, _, _ => rfl
  | .ptr .., _, h => by simp [plain] at h
  | .ptx .., _, h => by simp [plain] at h
  | .sl .., _, h => by simp [plain] at h
  | .mp _, _, h => by simp [plain] at h
  | .fn .., _, h => by simp [plain] at h
  | .agg l, _, h => by
    simp only [plain] at h
    split at h
    · rename_i vs hv; simp [below, plainL_below n hv]
    · cases h
  | .tup l, _, h => by
    simp only [plain] at h
    split at h
    · rename_i vs hv; simp [below, plainL_below n hv]
    · cases h
  | .ifc t v, _, h => by
    simp only [plain] at h
    split at h
    · rename_i vs hv; simp [below, plain_below n hv]
    · cases h
theorem plainL_below (n : Nat) : ∀ {l : List SV} {xs : List Value}, plainL l = some xs → belowL n l = true
  | [], _, h => rfl
  | v :: l, _, h => by
    simp only [plainL] at h
    split at h
    · rename_i x xs h1 h2; simp [belowL, plain_below n h1, plainL_below n h2]
    · cases h
end
end Go.V
