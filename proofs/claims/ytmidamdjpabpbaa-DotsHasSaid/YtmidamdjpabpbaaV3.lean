/- Part of the proof that the statement named in the last file holds: lemmas of the prover's own. No conditions. -/
import Derived.Test.YtmidamdjpabpbaaV2
import Derived.Laws.Sem
import Derived.Laws.World
import Derived.Laws.Cells
namespace Go.V
open Go

/-! ### The words that end in K -/
theorem getK_eq : ∀ (t : List SV) (i : Nat) (K : SV → Prop), getK t i K = K (t.getD i un)
  | [], _, _ => rfl
  | _ :: _, 0, _ => rfl
  | _ :: l, i + 1, K => by simpa [getK] using getK_eq l i K
theorem evK_eq (t : List SV) (x : Opd) (K : SV → Prop) : evK t x K = K (ev t x) := by
  cases x <;> simp [evK, ev, getK_eq]
theorem evLK_eq (t : List SV) : ∀ (l : List Opd) (K : List SV → Prop), evLK t l K = K (evL t l)
  | [], _ => rfl
  | x :: l, K => by simp [evLK, evL, evK_eq, evLK_eq t l]
theorem setK_eq : ∀ (t : List SV) (i : Nat) (v : SV) (K : List SV → Prop), setK t i v K = K (t.set i v)
  | [], _, _, _ => rfl
  | _ :: _, 0, _, _ => rfl
  | _ :: l, i + 1, v, K => by simpa [setK] using setK_eq l i v _
theorem putK_eq (t : List SV) (d : Option Nat) (v : SV) (K : List SV → Prop) : putK t d v K = K (put t d v) := by
  cases d <;> simp [putK, put, setK_eq]
theorem objK_eq : ∀ (H : List SO) (i : Nat) (K : SO → Prop), objK H i K = K (obj H i)
  | [], _, _ => rfl
  | _ :: _, 0, _ => rfl
  | _ :: l, i + 1, K => by simpa [objK, obj] using objK_eq l i K
theorem setHK_eq : ∀ (t : List SO) (i : Nat) (v : SO) (K : List SO → Prop), setHK t i v K = K (t.set i v)
  | [], _, _, _ => rfl
  | _ :: _, 0, _, _ => rfl
  | _ :: l, i + 1, v, K => by simpa [setHK] using setHK_eq l i v _
theorem natK_eq (n : Nat) (K : Nat → Prop) : natK n K = K n := by
  unfold natK; split <;> rfl
theorem newHK_go_eq (o : SO) : ∀ (H : List SO) (K : List SO → Prop), newHK.go o H K = K (H ++ [o])
  | [], _ => rfl
  | x :: l, K => by simp [newHK.go, newHK_go_eq o l]
theorem newHK_eq (H : List SO) (o : SO) (K : Nat → List SO → Prop) : newHK H o K = K H.length (H ++ [o]) := by
  simp [newHK, natK_eq, newHK_go_eq]
theorem rawsK_eq : ∀ (l : List Value) (K : List SV → Prop), rawsK l K = K (l.map .raw)
  | [], _ => rfl
  | v :: l, K => by simp [rawsK, rawsK_eq l]
mutual
theorem fK_eq : ∀ (v : SV) (K : SV → Prop), fK v K = K v
  | .raw v, K => by simp [fK]
  | .kb b, K => by simp [fK]
  | .ptr k o, K => by simp [fK, natK_eq]
  | .ptx k o, K => by simp [fK, natK_eq]
  | .sl k o n c, K => by simp [fK, natK_eq]
  | .mp k, K => by simp [fK, natK_eq]
  | .agg l, K => by simp [fK, fLK_eq l]
  | .tup l, K => by simp [fK, fLK_eq l]
  | .fn f l, K => by simp [fK, fLK_eq l]
  | .ifc t v, K => by simp [fK, fK_eq v]
theorem fLK_eq : ∀ (l : List SV) (K : List SV → Prop), fLK l K = K l
  | [], K => by simp [fLK]
  | v :: l, K => by simp [fLK, fK_eq v, fLK_eq l]
end
theorem fOK_eq (o : SO) (K : SO → Prop) : fOK o K = K o := by
  cases o <;> simp [fOK, fLK_eq]
  rename_i m _ _ _
  cases m <;> simp [natK_eq]
theorem fHK_eq : ∀ (H : List SO) (K : List SO → Prop), fHK H K = K H
  | [], _ => rfl
  | o :: l, K => by simp [fHK, fOK_eq, fHK_eq l]
theorem padK_eq : ∀ (n : Nat) (l : List SV) (K : List SV → Prop), padK n l K = K (l ++ List.replicate (n - l.length) un)
  | 0, l, K => by simp [padK]
  | n + 1, v :: l, K => by simp [padK, padK_eq n l]
  | n + 1, [], K => by simp [padK, padK_eq n [], List.replicate_succ]
def headT (g : Nat → Value) : Nat → List SV → List (Nat × SV) → List SV
  | _, [], _ => []
  | i, _ :: t, [] => .raw (g i) :: headT g (i + 1) t []
  | i, _ :: t, (j, v) :: l => match Nat.beq i j with
    | true => v :: headT g (i + 1) t l
    | false => .raw (g i) :: headT g (i + 1) t ((j, v) :: l)
theorem liveK_eq (g : Nat → Value) : ∀ (i : Nat) (t : List SV) (l : List (Nat × SV)) (K : List SV → Prop), liveK g i t l K = K (headT g i t l)
  | _, [], _, _ => by simp [liveK, headT]
  | i, _ :: t, [], K => by simp only [liveK, headT]; rw [liveK_eq g (i + 1) t []]
  | i, _ :: t, (j, v) :: l, K => by
    simp only [liveK, headT]
    cases Nat.beq i j
    · simp only; rw [liveK_eq g (i + 1) t]
    · simp only [fK_eq]; rw [liveK_eq g (i + 1) t]
theorem optK_eq (t : List SV) (x : Option Opd) (K : Option SV → Prop) : optK t x K = K (x.map (ev t)) := by
  cases x <;> simp [optK, evK_eq]

/-! ### What values stand for -/
mutual
theorem val_congr {ρ ρ' : Rho} {n : Nat} (h : ∀ k, k < n → ρ' k = ρ k) : ∀ (v : SV), below n v = true → val ρ' v = val ρ v
  | .raw _, _ => by simp [val]
  | .kb _, _ => by simp [val]
  | .ptr k o, hb => by simp [below] at hb; simp [val, h k hb]
  | .ptx k o, hb => by simp [below] at hb; simp [val, h k hb]
  | .sl k o n c, hb => by simp [below] at hb; simp [val, h k hb]
  | .mp k, hb => by simp [below] at hb; simp [val, h k hb]
  | .agg l, hb => by simp [below] at hb; simp [val, valL_congr h l hb]
  | .tup l, hb => by simp [below] at hb; simp [val, valL_congr h l hb]
  | .fn f l, hb => by simp [below] at hb; simp [val, valL_congr h l hb]
  | .ifc t v, hb => by simp [below] at hb; simp [val, val_congr h v hb]
theorem valL_congr {ρ ρ' : Rho} {n : Nat} (h : ∀ k, k < n → ρ' k = ρ k) : ∀ (l : List SV), belowL n l = true → valL ρ' l = valL ρ l
  | [], _ => by simp [valL]
  | v :: l, hb => by simp [belowL] at hb; simp [valL, val_congr h v hb.1, valL_congr h l hb.2]
end
mutual
theorem below_mono {n m : Nat} (h : n ≤ m) : ∀ (v : SV), below n v = true → below m v = true
  | .raw _, _ => by simp [below]
  | .kb _, _ => by simp [below]
  | .ptr k o, hb => by simp [below] at *; omega
  | .ptx k o, hb => by simp [below] at *; omega
  | .sl k o n c, hb => by simp [below] at *; omega
  | .mp k, hb => by simp [below] at *; omega
  | .agg l, hb => by simp [below] at *; exact belowL_mono h l hb
  | .tup l, hb => by simp [below] at *; exact belowL_mono h l hb
  | .fn f l, hb => by simp [below] at *; exact belowL_mono h l hb
  | .ifc t v, hb => by simp [below] at *; exact below_mono h v hb
theorem belowL_mono {n m : Nat} (h : n ≤ m) : ∀ (l : List SV), belowL n l = true → belowL m l = true
  | [], _ => by simp [belowL]
  | v :: l, hb => by simp [belowL] at *; exact ⟨below_mono h v hb.1, belowL_mono h l hb.2⟩
end
mutual
theorem val_ren (ρ : Rho) (σ : Nat → Nat) : ∀ (v : SV), val ρ (ren σ v) = val (fun k => ρ (σ k)) v
  | .raw _ => by simp [ren, val]
  | .kb _ => by simp [ren, val]
  | .ptr k o => by simp [ren, val]
  | .ptx k o => by simp [ren, val]
  | .sl k o n c => by simp [ren, val]
  | .mp k => by simp [ren, val]
  | .agg l => by simp [ren, val, valL_ren ρ σ l]
  | .tup l => by simp [ren, val, valL_ren ρ σ l]
  | .fn f l => by simp [ren, val, valL_ren ρ σ l]
  | .ifc t v => by simp [ren, val, val_ren ρ σ v]
theorem valL_ren (ρ : Rho) (σ : Nat → Nat) : ∀ (l : List SV), valL ρ (renL σ l) = valL (fun k => ρ (σ k)) l
  | [] => by simp [renL, valL]
  | v :: l => by simp [renL, valL, val_ren ρ σ v, valL_ren ρ σ l]
end
mutual
theorem below_ren (σ : Nat → Nat) {n m : Nat} (h : ∀ k, k < n → σ k < m) : ∀ (v : SV), below n v = true → below m (ren σ v) = true
  | .raw _, _ => by simp [ren, below]
  | .kb _, _ => by simp [ren, below]
  | .ptr k o, hb => by simp [ren, below] at *; exact h k hb
  | .ptx k o, hb => by simp [ren, below] at *; exact h k hb
  | .sl k o _ c, hb => by simp [ren, below] at *; exact h k hb
  | .mp k, hb => by simp [ren, below] at *; exact h k hb
  | .agg l, hb => by simp [ren, below] at *; exact belowL_ren σ h l hb
  | .tup l, hb => by simp [ren, below] at *; exact belowL_ren σ h l hb
  | .fn f l, hb => by simp [ren, below] at *; exact belowL_ren σ h l hb
  | .ifc t v, hb => by simp [ren, below] at *; exact below_ren σ h v hb
theorem belowL_ren (σ : Nat → Nat) {n m : Nat} (h : ∀ k, k < n → σ k < m) : ∀ (l : List SV), belowL n l = true → belowL m (renL σ l) = true
  | [], _ => by simp [renL, belowL]
  | v :: l, hb => by simp [renL, belowL] at *; exact ⟨below_ren σ h v hb.1, belowL_ren σ h l hb.2⟩
end

theorem valL_eq (ρ : Rho) : ∀ (l : List SV), valL ρ l = l.map (val ρ)
  | [] => rfl
  | v :: l => by simp [valL, valL_eq ρ l]
theorem belowL_eq (n : Nat) : ∀ (l : List SV), belowL n l = true ↔ ∀ v ∈ l, below n v = true
  | [] => by simp [belowL]
  | v :: l => by simp [belowL, belowL_eq n l]
theorem renL_eq (σ : Nat → Nat) : ∀ (l : List SV), renL σ l = l.map (ren σ)
  | [] => rfl
  | v :: l => by simp [renL, renL_eq σ l]
theorem val_getD (ρ : Rho) (t : List SV) (i : Nat) : (valL ρ t).toArray.getD i undef = val ρ (t.getD i un) := by
  rw [valL_eq]
  by_cases h : i < t.length <;> simp [h, undef, val]
theorem below_getD {n : Nat} {t : List SV} (h : belowL n t = true) (i : Nat) : below n (t.getD i un) = true := by
  rw [belowL_eq] at h
  by_cases hi : i < t.length
  · simp [hi]; exact h _ (List.getElem_mem hi)
  · simp [hi, below]
theorem belowL_set {n : Nat} {t : List SV} (h : belowL n t = true) (i : Nat) {v : SV} (hv : below n v = true) : belowL n (t.set i v) = true := by
  rw [belowL_eq] at *
  intro x hx
  rcases List.mem_or_eq_of_mem_set hx with h1 | h1
  · exact h x h1
  · exact h1 ▸ hv
theorem belowL_put {n : Nat} {t : List SV} (h : belowL n t = true) (d : Option Nat) {v : SV} (hv : below n v = true) : belowL n (put t d v) = true := by
  cases d with
  | none => exact h
  | some d => exact belowL_set h d hv
theorem belowL_append {n : Nat} {a b : List SV} : belowL n (a ++ b) = true ↔ belowL n a = true ∧ belowL n b = true := by
  simp only [belowL_eq, List.mem_append]
  constructor
  · exact fun h => ⟨fun v hv => h v (.inl hv), fun v hv => h v (.inr hv)⟩
  · rintro ⟨h1, h2⟩ v (hv | hv)
    · exact h1 v hv
    · exact h2 v hv

/-- The operands of the model's code, and their symbolic twins. -/
theorem val_svConst (ρ : Rho) (v : Value) : val ρ (svConst v) = v := by
  cases v <;> try rfl
  · rename_i fn fs cs
    cases fn <;> simp only [svConst]
    · split
      · rename_i h
        obtain ⟨h1, h2⟩ := h
        have e1 : fs = #[] := Array.eq_empty_of_size_eq_zero h1
        have e2 : cs = #[] := Array.eq_empty_of_size_eq_zero h2
        subst e1 e2
        simp [val, valL]
      · simp [val]
    all_goals rfl
  · simp [svConst, val, valL_eq, Function.comp_def]
  · simp [svConst, val, valL_eq, Function.comp_def]
theorem below_raws (n : Nat) (l : List Value) : belowL n (l.map .raw) = true := by
  rw [belowL_eq]; intro v hv; obtain ⟨x, _, rfl⟩ := List.mem_map.1 hv; rfl
theorem below_svConst (n : Nat) (v : Value) : below n (svConst v) = true := by
  cases v <;> try rfl
  · rename_i fn fs cs
    cases fn <;> simp only [svConst]
    · split <;> simp [below, belowL]
    all_goals rfl
  · simpa [svConst, below] using below_raws n _
  · simpa [svConst, below] using below_raws n _

/-- The frame of the model and the symbolic one. -/
def Frm (ρ : Rho) (t : List SV) (a : Act) : Prop := a.tmps = (valL ρ t).toArray

theorem eval_ev {ρ : Rho} {t : List SV} {a : Act} (hf : Frm ρ t a) {o : Operand} {x : Opd} (h : cOpd o = some x) : a.eval o = val ρ (ev t x) := by
  cases o <;> simp [cOpd] at h <;> subst h
  · simp only [Act.eval, ev]; rw [hf]; exact val_getD _ _ _
  · simp [Act.eval, ev, val_svConst]
  · simp [Act.eval, ev, val, valL]
theorem below_ev {n : Nat} {t : List SV} (h : belowL n t = true) {o : Operand} {x : Opd} (hx : cOpd o = some x) : below n (ev t x) = true := by
  cases o <;> simp [cOpd] at hx <;> subst hx
  · exact below_getD h _
  · exact below_svConst n _
  · simp [ev, below, belowL]
theorem Frm.put {ρ : Rho} {t : List SV} {a : Act} (hf : Frm ρ t a) (d : Option Nat) (v : SV) : Frm ρ (put t d v) (a.put d (val ρ v)) := by
  cases d with
  | none => exact hf
  | some d => simp [Frm, Act.put, V.put] at *; simp [hf, valL_eq, List.map_set]
theorem Frm.ext {ρ ρ' : Rho} {t : List SV} {a : Act} {n : Nat} (hf : Frm ρ t a) (h : ∀ k, k < n → ρ' k = ρ k) (hb : belowL n t = true) : Frm ρ' t a := by
  unfold Frm at *; rw [hf, valL_congr h t hb]
end Go.V
