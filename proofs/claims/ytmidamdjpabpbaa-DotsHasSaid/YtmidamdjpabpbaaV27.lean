/- Part of the proof that the statement named in the last file holds: lemmas of the prover's own. No conditions. -/
import Derived.Test.YtmidamdjpabpbaaV26
namespace Go.V
open Go

section
variable {P : Program} {ρ : Rho} {H : List SO} {g : Fr} {w : World}

/-- A new block, for the frame. -/
theorem St.allocFrame (h : St ρ H g w) (o : Obj) : St ρ H (g.at w.heap.size (some o)) (w.alloc o) := by
  have hold : ∀ (b : Nat) (o' : Obj), w.heap[b]? = some o' → (w.alloc o).heap[b]? = some o' := by
    intro b o' hb
    have hlt := (Array.getElem?_eq_some_iff.1 hb).1
    show (w.heap.push o)[b]? = some o'
    rw [Array.getElem?_push_lt hlt]; simpa [hlt] using hb
  constructor
  · intro k s hk
    refine entryOK_congr (n := H.length) (List.getElem?_eq_some_iff.1 hk).1 (h.ent k s hk) (fun _ _ => rfl) ?_ ?_ (fun b o' _ hb _ _ => hold b o' hb)
    · rintro l e rfl; exact h.scp k l e hk
    · rintro m s' seen st rfl; exact h.sci k m s' seen st hk
  · exact h.dis
  · exact h.gho
  · exact h.env
  · intro b o' hb
    simp only [Fr.at] at hb
    split at hb
    · rename_i e; subst e; cases hb; exact World.alloc_heap_new w _
    · exact hold b o' (h.frm b o' hb)
  · intro i si b hi ho hb
    have hlt := entryOK_lt (h.ent i si hi) (.inl ho) hb
    simp only [Fr.at]
    rw [if_neg (by omega)]
    exact h.frd i si b hi ho hb
  · exact h.scp
  · exact h.sci

/-- Another frame that the heap meets. -/
theorem St.cov (h : St ρ H g w) {g' : Fr} (hc : Cov w g') (h2 : ∀ (i : Nat) si b, H[i]? = some si → si.owned = true → ρ i = some b → g'.f b = none) : St ρ H g' w := h.other hc.1 hc.2 h2

theorem St.isCov (h : St ρ H g w) : Cov w g := ⟨h.env, h.frm⟩

variable {α : Type} {tS tE : TypeId} {n : Option Nat} {sz by' : Nat} {zs zsl : List Value} {sv : α → SV} {cells : α → List Value}

/-- Behind the rounds: the iterator's blocks, the box, the row. -/
theorem ap_join (hp : plainH H = true) {g0 : Fr} {Bs D l : Nat} {rec : Loop} {xs : List α} {gf : Fr} {W : World} (hS : St ρ H gf W) (hJ : ApJ tS tE sz cells g0 Bs D l rec xs gf) :
    ∃ (r : Option Nat) (o c : Nat) (ys : List Value), (xs.length ≤ c ∧ o + c * sz ≤ ys.length ∧ (ys.drop o).take (xs.length * sz) = xs.flatMap cells) ∧
      St (upd (upd ρ H.length (some Bs)) (H.length + 1) r) (H ++ [.cells [.sl (H.length + 1) o xs.length c] tS, .arr ys tE]) g0 W := by
  obtain ⟨r, o, c, ys, hBs, hlen, hrow⟩ := hJ.row
  refine ⟨r, o, c, ys, hlen, ?_⟩
  have hcov := hS.isCov
  have hρ : ∀ k, k < H.length → upd (upd ρ H.length (some Bs)) (H.length + 1) r k = ρ k := by
    intro k hk
    rw [upd_lt _ _ (by omega), upd_lt _ _ hk]
  have e0 : upd (upd ρ H.length (some Bs)) (H.length + 1) r H.length = some Bs := by rw [upd_lt _ _ (by omega), upd_same]
  have e1 : upd (upd ρ H.length (some Bs)) (H.length + 1) r (H.length + 1) = r := upd_same _ _ _
  have hget : ∀ (i : Nat) s, (H ++ [SO.cells [.sl (H.length + 1) o xs.length c] tS, .arr ys tE])[i]? = some s → (i < H.length ∧ H[i]? = some s) ∨ (i = H.length ∧ s = .cells [.sl (H.length + 1) o xs.length c] tS) ∨ (i = H.length + 1 ∧ s = .arr ys tE) := by
    intro i s hi
    by_cases h1 : i < H.length
    · rw [List.getElem?_append_left h1] at hi; exact .inl ⟨h1, hi⟩
    · rw [List.getElem?_append_right (by omega)] at hi
      match hj : i - H.length with
      | 0 => rw [hj] at hi; simp at hi; exact .inr (.inl ⟨by omega, hi.symm⟩)
      | 1 => rw [hj] at hi; simp at hi; exact .inr (.inr ⟨by omega, hi.symm⟩)
      | j + 2 => rw [hj] at hi; simp at hi
  have hrB : ∀ b, r = some b → b ≠ Bs ∧ gf.f b ≠ none ∧ g0.f b = none := by
    intro b hb
    rcases hrow with ⟨e, _⟩ | ⟨b', fr, e, e2, _, e4, e5⟩
    · rw [e] at hb; cases hb
    · rw [e] at hb; cases hb; exact ⟨e4, by rw [e2]; simp, e5⟩
  have hBn : gf.f Bs ≠ none := by rw [hBs]; simp
  -- blocks of H are in neither frame
  have hHo : ∀ (i : Nat) s b, H[i]? = some s → s.owned = true → ρ i = some b → b ≠ Bs ∧ r ≠ some b ∧ g0.f b = none := by
    intro i s b hi ho hb
    have hn := hS.frd i s b hi ho hb
    refine ⟨by rintro rfl; exact hBn hn, fun e => (hrB b e).2.1 hn, ?_⟩
    cases hg : g0.f b with
    | none => rfl
    | some ob => rw [hJ.keep b ob hg] at hn; cases hn
  have own : ∀ {s : SO} {i : Nat}, H[i]? = some s → (s.owned = true ∨ s.isRo = true) → s.owned = true := by
    intro s i hi ho
    rcases plainH_spec hp i s hi with h1 | h1
    · exact h1
    · subst h1; simp [SO.owned, SO.isRo] at ho
  constructor
  · intro i s hi
    rcases hget i s hi with ⟨h1, h2⟩ | ⟨rfl, rfl⟩ | ⟨rfl, rfl⟩
    · refine entryOK_congr h1 (hS.ent i s h2) hρ ?_ ?_ (fun b o' _ hb _ _ => hb)
      · rintro l e rfl; exact hS.scp i l e h2
      · rintro m s' seen st rfl; exact hS.sci i m s' seen st h2
    · refine ⟨Bs, e0, ?_⟩
      have := hcov.2 Bs _ hBs
      simpa [valL, val, e1] using this
    · rcases hrow with ⟨e, e2⟩ | ⟨b', fr, e, e2, e3, _, _⟩
      · exact .inl ⟨by rw [e1, e], e2⟩
      · exact .inr ⟨b', fr, by rw [e1, e], hcov.2 _ _ e2, e3⟩
  · intro i j si sj b hij hi hj ho hoj hb
    rcases hget i si hi with ⟨h1, h2⟩ | ⟨rfl, rfl⟩ | ⟨rfl, rfl⟩ <;> rcases hget j sj hj with ⟨h3, h4⟩ | ⟨rfl, rfl⟩ | ⟨rfl, rfl⟩
    · rw [hρ i h1] at hb; rw [hρ j h3]; exact hS.dis i j si sj b hij h2 h4 ho hoj hb
    · rw [hρ i h1] at hb; rw [e0]
      exact fun e => (hHo i si b h2 ho hb).1 (Option.some.inj e).symm
    · rw [hρ i h1] at hb; rw [e1]
      exact (hHo i si b h2 ho hb).2.1
    · rw [e0] at hb; cases hb; rw [hρ j h3]
      exact fun e => (hHo j sj Bs h4 (own h4 hoj) e).1 rfl
    · exact absurd rfl hij
    · rw [e0] at hb; cases hb; rw [e1]
      exact fun e => (hrB Bs e).1 rfl
    · rw [e1] at hb; rw [hρ j h3]
      exact fun e => (hHo j sj b h4 (own h4 hoj) e).2.1 hb
    · rw [e1] at hb; rw [e0]
      exact fun e => (hrB b hb).1 (Option.some.inj e).symm
    · exact absurd rfl hij
  · intro i j si gh b _ _ hj
    rcases hget j _ hj with ⟨_, h4⟩ | ⟨_, h4⟩ | ⟨_, h4⟩
    · rcases plainH_spec hp j _ h4 with h5 | h5
      · cases h5
      · cases h5
    · cases h4
    · cases h4
  · exact ⟨hcov.1.1.trans hJ.env.1, hcov.1.2.1.trans hJ.env.2.1, hcov.1.2.2.1.trans hJ.env.2.2.1, hJ.env.2.2.2 ▸ hcov.1.2.2.2⟩
  · intro b ob hb; exact hcov.2 b ob (hJ.keep b ob hb)
  · intro i si b hi ho hb
    rcases hget i si hi with ⟨h1, h2⟩ | ⟨rfl, rfl⟩ | ⟨rfl, rfl⟩
    · rw [hρ i h1] at hb; exact (hHo i si b h2 ho hb).2.2
    · rw [e0] at hb; cases hb; exact hJ.own.1
    · rw [e1] at hb; exact (hrB b hb).2.2
  · intro i l e hi
    rcases hget i _ hi with ⟨h1, h2⟩ | ⟨_, h2⟩ | ⟨_, h2⟩
    · exact belowL_mono (by simp) l (hS.scp i l e h2)
    · cases h2; simp [belowL, below]
    · cases h2
  · intro i m s seen st hi
    rcases hget i _ hi with ⟨h1, h2⟩ | ⟨_, h2⟩ | ⟨_, h2⟩
    · have := hS.sci i m s seen st h2; simp; omega
    · cases h2
    · cases h2
end
end Go.V
