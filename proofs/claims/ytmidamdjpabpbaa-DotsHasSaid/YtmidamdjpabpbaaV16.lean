/- Part of the proof that the statement named in the last file holds: lemmas of the prover's own. No conditions. -/
import Derived.Test.YtmidamdjpabpbaaV15
namespace Go.V
open Go

section
variable {P : Program} {ρ : Rho} {H : List SO} {g : Fr} {w : World} {K : SV → List SO → Prop} {t : List SV} {a : Act} {o : Oper}

def Both (P : Program) (ρ : Rho) (H : List SO) (g : Fr) (K : SV → List SO → Prop) (w : World) (op : VOp) (r : Result Next) : Prop :=
  GoodRes P ρ H g K r ∧ (still op = true → GoodRes1 P ρ H K w r)
theorem both (hS : St ρ H g w) {op : VOp} {r : Result Next} (h : GoodRes1 P ρ H K w r) : Both P ρ H g K w op r := ⟨h.good hS, fun _ => h⟩
theorem only {op : VOp} {r : Result Next} (h : GoodRes P ρ H g K r) (hn : still op = false) : Both P ρ H g K w op r := ⟨h, fun e => by rw [hn] at e; cases e⟩

theorem size_of_shape {ty : TypeId} (h : shapeT P ty = some none) : sizeT P ty = some 1 := (shape_none h).2

/-- Every operation that is covered, by its condition. -/
theorem vcOp_sound {op : VOp} (h : At P ρ H g w t a) (hc : cOp P o = some op) (hv : vcOp P op t H K) : Both P ρ H g K w op ((execOp a.eval o).run P w) := by
  unfold cOp at hc
  split at hc
  -- move, assign
  · rename_i x ho
    simp only [Option.bind_eq_bind, Option.bind_eq_some_iff, Option.pure_def, Option.some.injEq] at hc
    obtain ⟨y, hx, rfl⟩ := hc
    simp only [execOp, ho]; exact both h.s (s_mov h hx hv)
  · rename_i x ho
    simp only [Option.bind_eq_bind, Option.bind_eq_some_iff, Option.pure_def, Option.some.injEq] at hc
    obtain ⟨y, hx, rfl⟩ := hc
    simp only [execOp, ho]; exact both h.s (s_mov h hx hv)
  -- pick
  · rename_i c x y ho
    simp only [Option.bind_eq_bind, Option.bind_eq_some_iff, Option.pure_def, Option.some.injEq] at hc
    obtain ⟨c', hcc, x', hx, y', hy, rfl⟩ := hc
    simp only [execOp, ho]; exact both h.s (s_pick h hcc hx hy hv)
  -- alloc
  · rename_i e ho
    simp only [Option.bind_eq_bind, Option.bind_eq_some_iff, Option.pure_def, Option.some.injEq] at hc
    obtain ⟨zs, hz, rfl⟩ := hc
    simp only [execOp, ho]; exact only (s_new h hz hv) rfl
  -- box
  · rename_i e x ho
    simp only [Option.bind_eq_bind, Option.bind_eq_some_iff, Option.pure_def, Option.some.injEq] at hc
    obtain ⟨y, hx, rfl⟩ := hc
    simp only [execOp, ho]; exact only (s_box h hx hv) rfl
  -- build
  · rename_i ty ps ho
    split at hc
    · rename_i fs hu
      split at hc
      · rename_i hall
        simp only [Option.bind_eq_bind, Option.bind_eq_some_iff, Option.pure_def, Option.some.injEq] at hc
        obtain ⟨zs, hz, qs, hq, rfl⟩ := hc
        simp only [execOp, ho]; exact both h.s (s_build_struct h hu hz hall hq hv)
      · cases hc
    · rename_i n e hu
      simp only [Option.bind_eq_bind, Option.bind_eq_some_iff, Option.pure_def, Option.some.injEq] at hc
      obtain ⟨zs, hz, sz, hsz, qs, hq, rfl⟩ := hc
      simp only [execOp, ho]; exact both h.s (s_build_array h hu hz hsz hq hv)
    · cases hc
  -- buildSlice
  · rename_i ty n ps ho
    split at hc
    · rename_i e hu
      simp only [Option.bind_eq_bind, Option.bind_eq_some_iff, Option.pure_def] at hc
      obtain ⟨sz, hsz, hc⟩ := hc
      split at hc
      · cases hc
      · rename_i hn
        simp only [Option.bind_eq_some_iff, Option.some.injEq] at hc
        obtain ⟨zl, hzl, qs, hq, rfl⟩ := hc
        simp only [not_or] at hn
        cases hz : zeroT P e with
        | none => simp [hz] at hn
        | some z =>
          simp [zeroCellsT, hz] at hzl
          subst hzl
          simp only [execOp, ho]; exact only (s_bslice h hu hz hsz hn.1 hq hv) rfl
    · cases hc
  -- load
  · rename_i ty x ho
    simp only [Option.bind_eq_bind, Option.bind_eq_some_iff, Option.pure_def, Option.some.injEq] at hc
    obtain ⟨n, hs, y, hx, rfl⟩ := hc
    simp only [execOp, ho]; exact both h.s (s_load h hs hx hv)
  -- store
  · rename_i ty x v ho
    simp only [Option.bind_eq_bind, Option.bind_eq_some_iff, Option.pure_def, Option.some.injEq] at hc
    obtain ⟨n, hs, y, hx, z, hz, rfl⟩ := hc
    simp only [execOp, ho]; exact only (s_store h hs hx hz hv) rfl
  -- nilCheck
  · rename_i x ho
    simp only [Option.bind_eq_bind, Option.bind_eq_some_iff, Option.pure_def, Option.some.injEq] at hc
    obtain ⟨y, hx, rfl⟩ := hc
    exact both h.s (s_nilck h ho hx hv)
  -- binOp
  · rename_i op ty x y z ho
    simp only [Option.bind_eq_bind, Option.bind_eq_some_iff, Option.pure_def, Option.some.injEq] at hc
    obtain ⟨x', hx, y', hy, rfl⟩ := hc
    simp only [execOp, ho]; exact both h.s (s_bin h hx hy hv)
  -- unOp
  · rename_i op ty x ho
    simp only [Option.bind_eq_bind, Option.bind_eq_some_iff, Option.pure_def, Option.some.injEq] at hc
    obtain ⟨y, hx, rfl⟩ := hc
    simp only [execOp, ho]; exact both h.s (s_un h hx hv)
  -- convert
  · rename_i src dst x ho
    simp only [execOp, ho]
    split at hc
    · rename_i q k h1 h2
      simp only [Option.bind_eq_bind, Option.bind_eq_some_iff, Option.pure_def, Option.some.injEq] at hc
      obtain ⟨y, hx, rfl⟩ := hc
      exact both h.s (s_conv_int h h1 h2 hx hv)
    · rename_i h1 h2
      simp only [Option.bind_eq_bind, Option.bind_eq_some_iff, Option.pure_def, Option.some.injEq] at hc
      obtain ⟨y, hx, rfl⟩ := hc
      exact both h.s (s_conv_same h h1 h2 hx hv)
    · rename_i e h1 h2
      split at hc
      · rename_i h3
        simp only [Option.bind_eq_bind, Option.bind_eq_some_iff, Option.pure_def, Option.some.injEq] at hc
        obtain ⟨y, hx, rfl⟩ := hc
        exact only (s_conv_s2b h h1 h2 h3 hx hv) rfl
      · cases hc
    · rename_i e h1 h2
      split at hc
      · rename_i h3
        simp only [Option.bind_eq_bind, Option.bind_eq_some_iff, Option.pure_def, Option.some.injEq] at hc
        obtain ⟨y, hx, rfl⟩ := hc
        exact both h.s (s_conv_b2s h h1 h2 h3 hx hv)
      · cases hc
    · cases hc
  -- makeInterface
  · rename_i ty x ho
    split at hc
    · cases hc
    · rename_i d hd hu
      simp only [Option.bind_eq_bind, Option.bind_eq_some_iff, Option.pure_def, Option.some.injEq] at hc
      obtain ⟨y, hx, rfl⟩ := hc
      simp only [execOp, ho]; exact both h.s (s_mkif h hu (fun ms e => hd ms e) hx hv)
    · cases hc
  -- makeFunc
  · rename_i f first caps ho
    split at hc
    · rename_i h0
      simp only [Option.bind_eq_bind, Option.bind_eq_some_iff, Option.pure_def, Option.some.injEq] at hc
      obtain ⟨l, hx, rfl⟩ := hc
      have e0 : first = #[] := Array.eq_empty_of_size_eq_zero h0
      subst e0
      simp only [execOp, ho]; exact both h.s (s_mkfn h hx hv)
    · cases hc
  -- makeMap
  · rename_i ty ho
    cases hc
    simp only [execOp, ho]; exact only (s_mkmap h hv) rfl
  -- makeSlice
  · split at hc
    · simp only [Option.bind_eq_bind, Option.bind_eq_some_iff, Option.pure_def, Option.some.injEq] at hc
      obtain ⟨_, _, _, _, _, _, _, _, rfl⟩ := hc
      simp only [vcOp] at hv
    · cases hc
  -- slice
  · rename_i ty x lo hi ho
    simp only [execOp, ho]
    split at hc
    · rename_i hu
      simp only [Option.bind_eq_bind, Option.bind_eq_some_iff, Option.pure_def, Option.some.injEq] at hc
      obtain ⟨x', hx, lo', hl, hi', hh, rfl⟩ := hc
      exact both h.s (s_slice_str h hu hx hl hh hv)
    · rename_i e hu
      simp only [Option.bind_eq_bind, Option.bind_eq_some_iff, Option.pure_def, Option.some.injEq] at hc
      obtain ⟨sz, hsz, x', hx, lo', hl, hi', hh, rfl⟩ := hc
      exact both h.s (s_slice_sl h hu hsz hx hl hh hv)
    · cases hc
  -- fieldAddr
  · rename_i ty x f ho
    split at hc
    · rename_i fs hu
      simp only [Option.bind_eq_bind, Option.bind_eq_some_iff, Option.pure_def] at hc
      obtain ⟨fd, hfd, n, hn, hc⟩ := hc
      split at hc
      · cases hc
      · rename_i h0
        simp only [Option.bind_eq_some_iff, Option.some.injEq] at hc
        obtain ⟨y, hx, rfl⟩ := hc
        simp only [execOp, ho]; exact both h.s (s_faddr h hu hfd hn h0 hx hv)
    · cases hc
  -- field
  · rename_i ty x f ho
    split at hc
    · rename_i fs hu
      simp only [Option.bind_eq_bind, Option.bind_eq_some_iff, Option.pure_def, Option.some.injEq] at hc
      obtain ⟨fd, hfd, n, hn, y, hx, rfl⟩ := hc
      simp only [execOp, ho]; exact both h.s (s_field h hu hfd hn hx hv)
    · cases hc
  -- indexAddr
  · rename_i ty x i ho
    simp only [execOp, ho]
    split at hc
    · rename_i n e hu
      split at hc
      · cases hc
      · rename_i hn
        simp only [Option.bind_eq_bind, Option.bind_eq_some_iff, Option.pure_def, Option.some.injEq] at hc
        obtain ⟨sz, hsz, y, hx, j, hj, rfl⟩ := hc
        simp only [not_or] at hn
        exact both h.s (s_iaddr h (some n) hu hsz (fun e0 => hn.2 (e0 ▸ hsz)) (fun m e0 => by cases e0; omega) hx hj hv)
    · rename_i e hu
      split at hc
      · cases hc
      · rename_i hn
        simp only [Option.bind_eq_bind, Option.bind_eq_some_iff, Option.pure_def, Option.some.injEq] at hc
        obtain ⟨sz, hsz, y, hx, j, hj, rfl⟩ := hc
        exact both h.s (s_iaddr h none hu hsz (fun e0 => hn (e0 ▸ hsz)) (fun m e0 => by cases e0) hx hj hv)
    · cases hc
  -- index
  · rename_i ty x i ho
    simp only [execOp, ho]
    split at hc
    · rename_i hu
      simp only [Option.bind_eq_bind, Option.bind_eq_some_iff, Option.pure_def, Option.some.injEq] at hc
      obtain ⟨x', hx, i', hi, rfl⟩ := hc
      exact both h.s (s_sindex h hu hx hi hv)
    · rename_i n e hu
      split at hc
      · rename_i hs
        simp only [Option.bind_eq_bind, Option.bind_eq_some_iff, Option.pure_def, Option.some.injEq] at hc
        obtain ⟨x', hx, i', hi, rfl⟩ := hc
        exact both h.s (s_aindex h hu (shape_none hs).2 (shape_none hs).1 (fun _ => rfl) hx hi hv)
      · rename_i m hs
        simp only [Option.bind_eq_bind, Option.bind_eq_some_iff, Option.pure_def, Option.some.injEq] at hc
        obtain ⟨x', hx, i', hi, rfl⟩ := hc
        exact both h.s (s_aindex h hu (shape_some hs).2 (shape_some hs).1 (fun e => by cases e) hx hi hv)
      · cases hc
    · cases hc
  -- lookup
  · rename_i ty x i ok ho
    split at hc
    · simp only [Option.bind_eq_bind, Option.bind_eq_some_iff, Option.pure_def, Option.some.injEq] at hc
      obtain ⟨x', hx, i', hi, rfl⟩ := hc
      simp only [execOp, ho]; exact both h.s (s_lookup h hx hi hv)
    · cases hc
  -- mapUpdate, insert
  · rename_i ty x i v ho
    simp only [Option.bind_eq_bind, Option.bind_eq_some_iff, Option.pure_def, Option.some.injEq] at hc
    obtain ⟨x', hx, i', hi, v', hz, rfl⟩ := hc
    simp only [execOp, ho]; exact only (s_mapup h hx hi hz hv) rfl
  · rename_i ty x i v ho
    simp only [Option.bind_eq_bind, Option.bind_eq_some_iff, Option.pure_def, Option.some.injEq] at hc
    obtain ⟨x', hx, i', hi, v', hz, rfl⟩ := hc
    simp only [execOp, ho]; exact only (s_mapup h hx hi hz hv) rfl
  -- range
  · rename_i ty x ho
    split at hc
    · simp only [Option.bind_eq_bind, Option.bind_eq_some_iff, Option.pure_def, Option.some.injEq] at hc
      obtain ⟨x', hx, rfl⟩ := hc
      simp only [vcOp] at hv
    · rename_i k e hu
      simp only [Option.bind_eq_bind, Option.bind_eq_some_iff, Option.pure_def, Option.some.injEq] at hc
      obtain ⟨x', hx, rfl⟩ := hc
      simp only [execOp, ho]; exact only (s_range h hu hx hv) rfl
    · cases hc
  -- next
  · rename_i it s ho
    simp only [Option.bind_eq_bind, Option.bind_eq_some_iff, Option.pure_def, Option.some.injEq] at hc
    obtain ⟨x', hx, rfl⟩ := hc
    cases s with
    | true => simp only [vcOp] at hv
    | false => simp only [execOp, ho]; exact only (s_next h hx hv) rfl
  -- entry
  · rename_i it ho
    simp only [Option.bind_eq_bind, Option.bind_eq_some_iff, Option.pure_def, Option.some.injEq] at hc
    obtain ⟨x', hx, rfl⟩ := hc
    simp only [execOp, ho]; exact both h.s (s_entry h hx hv)
  -- typeAssert
  · rename_i x xT ty ok ho
    split at hc
    · cases hc
    · rename_i d hd hu
      simp only [Option.bind_eq_bind, Option.bind_eq_some_iff, Option.pure_def, Option.some.injEq] at hc
      obtain ⟨z, hz, y, hx, rfl⟩ := hc
      simp only [execOp, ho]; exact both h.s (s_tassert h hu (fun ms e => hd ms e) hz hx hv)
    · cases hc
  -- extract
  · rename_i x i ho
    simp only [Option.bind_eq_bind, Option.bind_eq_some_iff, Option.pure_def, Option.some.injEq] at hc
    obtain ⟨y, hx, rfl⟩ := hc
    simp only [execOp, ho]; exact both h.s (s_extr h hx hv)
  -- call of a function
  · rename_i f args ats ho
    split at hc
    · rename_i he
      simp only [Option.bind_eq_bind, Option.bind_eq_some_iff, Option.pure_def, Option.some.injEq] at hc
      obtain ⟨l, hx, rfl⟩ := hc
      exact only (s_call h ho he hx hv) rfl
    · cases hc
  -- call of a function value
  · rename_i x args ats _ ho
    simp only [Option.bind_eq_bind, Option.bind_eq_some_iff, Option.pure_def, Option.some.injEq] at hc
    obtain ⟨y, hx0, l, hx, rfl⟩ := hc
    exact only (s_callv h ho hx0 hx hv) rfl
  -- invoke
  · simp only [Option.bind_eq_bind, Option.bind_eq_some_iff, Option.pure_def, Option.some.injEq] at hc
    obtain ⟨_, _, _, _, rfl⟩ := hc
    simp only [vcOp] at hv
  -- builtins
  · rename_i b args ats ho
    have arg1 : ∀ {x : Operand}, args.toList = [x] → args = #[x] := fun h => by apply Array.toList_inj.1; simpa using h
    have arg2 : ∀ {x y : Operand}, args.toList = [x, y] → args = #[x, y] := fun h => by apply Array.toList_inj.1; simpa using h
    have at0 : ∀ {t : TypeId} {l : List TypeId}, ats.toList = t :: l → ats[0]? = some t := fun h => by rw [← Array.getElem?_toList, h]; rfl
    have at1 : ∀ {t u : TypeId} {l : List TypeId}, ats.toList = t :: u :: l → ats[1]? = some u := fun h => by rw [← Array.getElem?_toList, h]; rfl
    have hb : execOp a.eval o = builtin b ats o.type (args.map fun | .const _ => true | _ => false) (args.map a.eval) := by
      simp only [execOp, ho, resolve, invoke]; rfl
    have m1 : ∀ x, (#[x] : Array Operand).map a.eval = #[a.eval x] := by simp
    have m2 : ∀ x y, (#[x, y] : Array Operand).map a.eval = #[a.eval x, a.eval y] := by simp
    rw [hb]
    split at hc
    · rename_i x u h1 h2
      simp only [Option.bind_eq_bind, Option.bind_eq_some_iff, Option.pure_def, Option.some.injEq] at hc
      obtain ⟨k, hk, y, hx, rfl⟩ := hc
      rw [arg1 h1, m1]; simp only [builtin]
      exact both h.s (s_len h (at0 h2) hk hx hv)
    · rename_i x u h1 h2
      split at hc
      · rename_i hk
        simp only [Option.bind_eq_bind, Option.bind_eq_some_iff, Option.pure_def, Option.some.injEq] at hc
        obtain ⟨y, hx, rfl⟩ := hc
        rw [arg1 h1, m1]; simp only [builtin]
        exact both h.s (s_cap h (at0 h2) hk hx hv)
      · cases hc
    · rename_i x y u u' l h1 h2
      have key : ∀ {e : TypeId} {lk : LK}, P.underlying u = some (.slice e) → lenKind P u' = some lk →
          (do let sz ← sizeT P e
              let zs ← zeroCellsT P e
              let by' ← bytesT P e
              if sz = 0 ∨ zs.length ≠ sz ∨ by' = 0 then none else pure (.append e sz by' zs (← cOpd x) (← cOpd y))) = some op →
          Both P ρ H g K w op ((builtin .append ats o.type (args.map fun | .const _ => true | _ => false) (args.map a.eval)).run P w) := by
        intro e lk hu hl hc
        simp only [Option.bind_eq_bind, Option.bind_eq_some_iff, Option.pure_def] at hc
        obtain ⟨sz, hsz, zs, hzs, by', hby, hc⟩ := hc
        split at hc
        · cases hc
        · rename_i hn
          simp only [Option.bind_eq_some_iff, Option.some.injEq] at hc
          obtain ⟨x', hx, y', hy, rfl⟩ := hc
          simp only [not_or, Decidable.not_not] at hn
          rw [arg2 h1, m2]; simp only [builtin]
          exact only (s_append h (at0 h2) (at1 h2) hu hl hsz hby hzs hn.1 hn.2.1 hn.2.2 hx hy hv) rfl
      split at hc
      · rename_i e hu hl; exact key hu hl hc
      · rename_i e hu hl; exact key hu hl hc
      · cases hc
    · rename_i x y h1
      simp only [Option.bind_eq_bind, Option.bind_eq_some_iff, Option.pure_def, Option.some.injEq] at hc
      obtain ⟨x', hx, y', hy, rfl⟩ := hc
      rw [arg2 h1, m2]; simp only [builtin]
      exact both h.s (s_min h hx hy hv)
    · rename_i x y h1
      simp only [Option.bind_eq_bind, Option.bind_eq_some_iff, Option.pure_def, Option.some.injEq] at hc
      obtain ⟨x', hx, y', hy, rfl⟩ := hc
      rw [arg2 h1, m2]; simp only [builtin]
      exact both h.s (s_max h hx hy hv)
    · rename_i x y u l h1 h2
      simp only [Option.bind_eq_bind, Option.bind_eq_some_iff, Option.pure_def, Option.some.injEq] at hc
      obtain ⟨x', hx, y', hy, rfl⟩ := hc
      rw [arg2 h1, m2]; simp only [builtin]
      exact only (s_delete h (at0 h2) hx hy hv) rfl
    · split at hc
      · simp only [Option.bind_eq_bind, Option.bind_eq_some_iff, Option.pure_def, Option.some.injEq] at hc
        obtain ⟨_, _, _, _, _, _, rfl⟩ := hc
        simp only [vcOp] at hv
      · cases hc
    · cases hc
  · cases hc
end
end Go.V
