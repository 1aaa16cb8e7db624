/- Part of the proof that the statement named in the last file holds: lemmas of the prover's own. No conditions. -/
import Derived.Test.YtmidamdjpabpbaaV17
namespace Go.V
open Go

/-! ### Blind operations answer alike in every world -/
section
variable {P : Program} {H : List SO} {t : List SV} {K : SV → Prop}

def Det (A : (SV → Prop) → Prop) : Prop := ∀ K : SV → Prop, A K → ∃ sv, K sv ∧ A (fun v => v = sv)

theorem det_pick (c a b : SV) : Det (vcPick c a b) := by
  intro K
  unfold vcPick
  split
  · exact fun h => ⟨_, h, rfl⟩
  · exact fun h => ⟨_, h, rfl⟩
  · rename_i p
    split
    · exact fun h => ⟨_, h, rfl⟩
    · intro h
      cases p
      · exact ⟨_, h.2 rfl, by simp⟩
      · exact ⟨_, h.1 rfl, by simp⟩
  · exact fun h => h.elim

theorem det_un (op : UnOp) (v : SV) : Det (vcUn op v) := by
  intro K
  unfold vcUn
  split
  all_goals first
    | exact fun h => h.elim
    | exact fun h => ⟨_, h, rfl⟩
    | exact fun ⟨c, h1, h2⟩ => ⟨_, h2, c, h1, rfl⟩

theorem det_field (off : Nat) (n : Option Nat) (v : SV) : Det (vcField off n v) := by
  intro K
  unfold vcField
  split
  · split
    · split
      · exact fun h => ⟨_, h, rfl⟩
      · exact fun h => h.elim
    · split
      · exact fun h => ⟨_, h, rfl⟩
      · exact fun h => h.elim
  · exact fun h => h.elim

theorem det_slice (sz : Option Nat) (v : SV) (lo hi : Option SV) : Det (vcSlice sz v lo hi) := by
  intro K
  unfold vcSlice
  split
  · split
    all_goals first
      | exact fun h => h.elim
      | exact fun h => ⟨_, h, rfl⟩
      | exact fun h => ⟨_, h.2, h.1, rfl⟩
  · split
    all_goals first
      | exact fun h => h.elim
      | exact fun h => ⟨_, h, rfl⟩
      | exact fun h => ⟨_, h.2, h.1, rfl⟩
      | exact fun ⟨h1, o', h2, h3⟩ => ⟨_, h3, h1, o', h2, rfl⟩
  · exact fun h => h.elim

theorem det_tassert (ty : TypeId) (ok : Bool) (z : Value) (v : SV) : Det (vcTassert ty ok z v) := by
  intro K
  unfold vcTassert
  split
  · rename_i u v
    cases h1 : u == ty
    · cases ok
      · exact fun h => h.elim
      · exact fun h => ⟨_, h, rfl⟩
    · cases ok
      · exact fun h => ⟨_, h, rfl⟩
      · exact fun h => ⟨_, h, rfl⟩
  · cases ok
    · exact fun h => h.elim
    · exact fun h => ⟨_, h, rfl⟩
  · exact fun h => h.elim

theorem det_eq (op : BinOp) (b : Bool) : Det (vcEq op b) := by
  intro K
  unfold vcEq
  split
  all_goals first
    | exact fun h => h.elim
    | exact fun h => ⟨_, h, rfl⟩
theorem det_eqB (op : BinOp) (b : Bool) : Det (vcEqB op b) := by
  intro K
  unfold vcEqB
  split
  all_goals first
    | exact fun h => h.elim
    | exact fun h => ⟨_, h, rfl⟩
theorem det_int (op : BinOp) (k : IntKind) (a b : Int) : Det (vcInt op k a b) := by
  intro K
  unfold vcInt
  split
  all_goals first
    | exact fun h => h.elim
    | exact fun h => ⟨_, h, rfl⟩
    | exact fun ⟨c, h1, h2⟩ => ⟨_, h2, c, h1, rfl⟩
    | exact fun ⟨h0, c, h1, h2⟩ => ⟨_, h2, h0, c, h1, rfl⟩
theorem det_bin (op : BinOp) (k : BK) (x y : SV) (hk : k ≠ .sl ∧ k ≠ .mp) : Det (fun K => vcBin op k x y H K) := by
  intro K
  simp only
  unfold vcBin
  cases k with
  | sl => exact absurd rfl hk.1
  | mp => exact absurd rfl hk.2
  | no =>
    simp only
    split
    · rename_i k a k' b
      split
      · exact fun ⟨h0, c, h1, h2⟩ => ⟨_, h2, h0, c, h1, rfl⟩
      · exact fun ⟨h0, c, h1, h2⟩ => ⟨_, h2, h0, c, h1, rfl⟩
      · by_cases hkk : k = k'
        · simp only [hkk, if_true]; exact det_int _ _ _ _ K
        · simp only [hkk, if_false]; exact fun h => h.elim
    · split
      all_goals first
        | exact fun h => h.elim
        | exact fun h => ⟨_, h, rfl⟩
        | exact fun h => ⟨_, h.2, h.1, rfl⟩
    · exact fun h => h.elim
  | b =>
    simp only
    split
    · exact det_eqB _ _ K
    · exact fun h => h.elim
  | p =>
    simp only
    split
    · exact det_eq _ _ K
    · exact det_eq _ _ K
    · exact det_eq _ _ K
    · rename_i k o k' o'
      cases hk : k == k'
      · exact fun h => h.elim
      · exact det_eq _ _ K
    · exact fun h => h.elim
  | agg cl =>
    simp only
    split
    · split
      · exact det_eqB _ _ K
      · exact fun h => h.elim
    · exact fun h => h.elim
  | ifn =>
    simp only
    split
    all_goals first
      | exact fun h => h.elim
      | exact det_eq _ _ K

theorem vcBin_any (op : BinOp) (k : BK) (x y : SV) (hk : k ≠ .sl ∧ k ≠ .mp) (H2 : List SO) : vcBin op k x y H K = vcBin op k x y H2 K := by
  cases k <;> first | rfl | exact absurd rfl hk.1 | exact absurd rfl hk.2

theorem blind_det {op : VOp} (hb : blind op = true) (hv : vcOp P op t H (fun v _ => K v)) : ∃ sv, K sv ∧ ∀ H2, vcOp P op t H2 (fun v _ => v = sv) := by
  cases op with
  | mov x => simp only [vcOp, evK_eq] at *; exact ⟨_, hv, fun _ => rfl⟩
  | pick c a b => simp only [vcOp, evK_eq] at *; obtain ⟨sv, h1, h2⟩ := det_pick _ _ _ K hv; exact ⟨sv, h1, fun _ => h2⟩
  | bin op k x y =>
    simp only [vcOp, evK_eq] at *
    have hk : k ≠ .sl ∧ k ≠ .mp := ⟨fun e => (by subst e; cases hb), fun e => (by subst e; cases hb)⟩
    obtain ⟨sv, h1, h2⟩ := det_bin op k _ _ hk K hv
    exact ⟨sv, h1, fun H2 => by rw [← vcBin_any op k _ _ hk]; exact h2⟩
  | un op x => simp only [vcOp, evK_eq] at *; obtain ⟨sv, h1, h2⟩ := det_un _ _ K hv; exact ⟨sv, h1, fun _ => h2⟩
  | conv c x =>
    simp only [vcOp, evK_eq] at *
    revert hv hb
    generalize ev t x = v
    unfold vcConv
    split
    · exact fun _ ⟨m, h1, h2⟩ => ⟨_, h2, fun _ => ⟨m, h1, rfl⟩⟩
    · exact fun _ h => ⟨_, h, fun _ => rfl⟩
    all_goals intro hb; first | cases hb; done | exact fun h => h.elim
  | mkif ty x => simp only [vcOp, evK_eq] at *; exact ⟨_, hv, fun _ => rfl⟩
  | mkfn f caps => simp only [vcOp, evLK_eq] at *; exact ⟨_, hv, fun _ => rfl⟩
  | slice sz x lo hi => simp only [vcOp, evK_eq, optK_eq] at *; obtain ⟨sv, h1, h2⟩ := det_slice _ _ _ _ K hv; exact ⟨sv, h1, fun _ => h2⟩
  | faddr off x =>
    simp only [vcOp, evK_eq] at *
    revert hv
    generalize ev t x = v
    split
    · exact fun h => ⟨_, h, fun _ => rfl⟩
    · exact fun h => ⟨_, h, fun _ => rfl⟩
    · exact fun h => h.elim
  | field off n x => simp only [vcOp, evK_eq] at *; obtain ⟨sv, h1, h2⟩ := det_field _ _ _ K hv; exact ⟨sv, h1, fun _ => h2⟩
  | sindex x i =>
    simp only [vcOp, evK_eq] at *
    revert hv
    generalize ev t x = v
    generalize ev t i = iv
    split
    · exact fun ⟨b, h1, h2⟩ => ⟨_, h2, fun _ => ⟨b, h1, rfl⟩⟩
    · exact fun h => h.elim
  | extr x i =>
    simp only [vcOp, evK_eq] at *
    revert hv
    generalize ev t x = v
    split
    · split
      · exact fun h => ⟨_, h, fun _ => rfl⟩
      · exact fun h => h.elim
    · exact fun h => h.elim
  | cap x =>
    simp only [vcOp, evK_eq] at *
    revert hv
    generalize ev t x = v
    split
    · exact fun h => ⟨_, h, fun _ => rfl⟩
    · exact fun h => ⟨_, h, fun _ => rfl⟩
    · exact fun h => h.elim
  | min x y =>
    simp only [vcOp, evK_eq] at *
    revert hv
    generalize ev t x = v
    generalize ev t y = v'
    split
    · exact fun h => ⟨_, h, fun _ => rfl⟩
    · exact fun h => h.elim
  | max x y =>
    simp only [vcOp, evK_eq] at *
    revert hv
    generalize ev t x = v
    generalize ev t y = v'
    split
    · exact fun h => ⟨_, h, fun _ => rfl⟩
    · exact fun h => h.elim
  | tassert ty ok z x => simp only [vcOp, evK_eq] at *; obtain ⟨sv, h1, h2⟩ := det_tassert _ _ _ _ K hv; exact ⟨sv, h1, fun _ => h2⟩
  | len k x =>
    simp only [vcOp, evK_eq] at *
    revert hv hb
    generalize ev t x = v
    unfold vcLen
    split
    · exact fun _ h => ⟨_, h, fun _ => rfl⟩
    · exact fun _ h => ⟨_, h, fun _ => rfl⟩
    · exact fun _ h => ⟨_, h, fun _ => rfl⟩
    all_goals intro hb; first | cases hb; done | exact fun h => h.elim
  | _ => simp [blind] at hb

theorem blind_still {op : VOp} (h : blind op = true) : still op = true := by
  cases op <;> first | rfl | (simp [blind] at h; done) | skip
  rename_i c x
  cases c <;> simp [blind] at h <;> rfl

/-! ### A state of which nothing is known -/
theorem gones_get (n k : Nat) (s : SO) (h : (List.replicate n SO.gone)[k]? = some s) : s = .gone := by
  have := List.mem_of_getElem? h
  exact (List.mem_replicate.1 this).2
def noFrame (w : World) : Fr := ⟨fun _ => none, w.os, w.tape, w.output, w.drawn⟩
theorem St.blank (ρ : Rho) (n : Nat) (w : World) : St ρ (List.replicate n .gone) (noFrame w) w := by
  constructor
  · intro k so hk; rw [gones_get _ _ _ hk]; trivial
  · intro i j si sj b _ hi _ ho; rw [gones_get _ _ _ hi] at ho; cases ho
  · intro i j si h b hi ho; rw [gones_get _ _ _ hi] at ho; cases ho
  · exact ⟨rfl, rfl, rfl, Nat.le_refl _⟩
  · intro b o h; cases h
  · intro i si b hi ho; rw [gones_get _ _ _ hi] at ho; cases ho
  · intro k l e hk; have := gones_get _ _ _ hk; cases this
  · intro k m s seen st hk; have := gones_get _ _ _ hk; cases this
end
end Go.V
