/- Part of the proof that the statement named in the last file holds: lemmas of the prover's own. No conditions. -/
import Derived.Test.YtmidamdjpabpbaaV11
namespace Go.V
open Go

section
variable {P : Program} {ρ : Rho} {H : List SO} {g : Fr} {w : World} {K : SV → List SO → Prop} {t : List SV} {a : Act} {o : Oper}

theorem run_mapM_places {fs : Array Field} (h : fs.toList.all (fun f => (sizeT P f.type).isSome) = true) :
    (fs.mapM (m := Sem) fun f => do pure (f.offset, ← sizeOf f.type)).run P w = .ok (fs.map fun f => (f.offset, (sizeT P f.type).getD 0)) w := by
  rw [Array.mapM_eq_mapM_toList]
  have : ∀ l : List Field, l.all (fun f => (sizeT P f.type).isSome) = true → (l.mapM (m := Sem) fun f => do pure (f.offset, ← sizeOf f.type)).run P w = .ok (l.map fun f => (f.offset, (sizeT P f.type).getD 0)) w := by
    intro l
    induction l with
    | nil => intro _; simp
    | cons f l ih =>
      intro hl
      simp only [List.all_cons, Bool.and_eq_true] at hl
      obtain ⟨n, hn⟩ := Option.isSome_iff_exists.1 hl.1
      simp only [List.mapM_cons, Sem.run_bind, run_size hn, Result.andThen_ok, Sem.run_pure, ih hl.2, List.map_cons, hn, Option.getD_some]
  simp only [Sem.run_map, this fs.toList h, Result.andThen_ok]
  congr 1
  apply Array.ext'
  simp

theorem s_build_struct (h : At P ρ H g w t a) {ty : TypeId} {fs : Array Field} {zs : List Value} {ps : Array (Nat × Operand)} {qs : List (Nat × Nat × Opd)} (hu : P.underlying ty = some (.struct fs)) (hz : zeroCellsT P ty = some zs)
    (hall : fs.toList.all (fun f => (sizeT P f.type).isSome) = true) (hq : partsStruct P fs ps.toList = some qs) (hv : vcOp P (.build zs qs) t H K) :
    GoodRes1 P ρ H K w ((do pure (Next.value (← Instr.build ty (ps.map fun (i, x) => (i, a.eval x)))) : Sem Next).run P w) := by
  simp only [vcOp, rawsK_eq] at hv
  obtain ⟨l', h1, h2, h3⟩ := pasteK_sound h ps.toList qs (zs.map .raw) (below_raws _ _) (par_struct hq) hv
  unfold zeroCellsT at hz
  cases hz0 : zeroT P ty with
  | none => simp [hz0] at hz
  | some z =>
    simp [hz0] at hz
    refine GoodRes1.val (v := .agg (valL ρ l').toArray) ?_ (Here.here (sv := .agg l') (by simp only [below]; exact h2) h3)
    have e0 : (valL ρ (zs.map .raw)).toArray = z.cells := by
      rw [valL_eq]; simp only [List.map_map, Function.comp_def, V.val, List.map_id']; rw [← hz]
    rw [e0] at h1
    have e1 : (fun (i : Nat) => (fs.map fun (f : Field) => (f.offset, (sizeT P f.type).getD 0))[i]?) = fun (i : Nat) => (fs[i]?).bind fun (f : Field) => (sizeT P f.type).map fun n => (f.offset, n) := by
      funext i
      rw [Array.getElem?_map]
      cases hf : fs[i]? with
      | none => rfl
      | some f =>
        have hmem : f ∈ fs.toList := by simpa using Array.mem_of_getElem? hf
        obtain ⟨n, hn⟩ := Option.isSome_iff_exists.1 (List.all_eq_true.1 hall f hmem)
        simp [hn]
    simp only [Instr.build, Sem.run_bind, run_zero hz0, run_und hu, Result.andThen_ok, run_mapM_places hall]
    rw [e1]
    have e2 : (Array.map (fun (x : Nat × Operand) => (x.1, a.eval x.2)) ps).toList = ps.toList.map fun p => (p.1, a.eval p.2) := by simp
    simp only [e2, h1]
    rfl

theorem s_build_array (h : At P ρ H g w t a) {ty el : TypeId} {n sz : Nat} {zs : List Value} {ps : Array (Nat × Operand)} {qs : List (Nat × Nat × Opd)} (hu : P.underlying ty = some (.array n el)) (hz : zeroCellsT P ty = some zs) (hn : sizeT P el = some sz)
    (hq : partsRow sz ps.toList = some qs) (hv : vcOp P (.build zs qs) t H K) :
    GoodRes1 P ρ H K w ((do pure (Next.value (← Instr.build ty (ps.map fun (i, x) => (i, a.eval x)))) : Sem Next).run P w) := by
  simp only [vcOp, rawsK_eq] at hv
  obtain ⟨l', h1, h2, h3⟩ := pasteK_sound h ps.toList qs (zs.map .raw) (below_raws _ _) (par_row hq) hv
  unfold zeroCellsT at hz
  cases hz0 : zeroT P ty with
  | none => simp [hz0] at hz
  | some z =>
    simp [hz0] at hz
    refine GoodRes1.val (v := .agg (valL ρ l').toArray) ?_ (Here.here (sv := .agg l') (by simp only [below]; exact h2) h3)
    have e0 : (valL ρ (zs.map .raw)).toArray = z.cells := by
      rw [valL_eq]; simp only [List.map_map, Function.comp_def, V.val, List.map_id']; rw [← hz]
    rw [e0] at h1
    have e2 : (Array.map (fun (x : Nat × Operand) => (x.1, a.eval x.2)) ps).toList = ps.toList.map fun p => (p.1, a.eval p.2) := by simp
    simp only [Instr.build, Sem.run_bind, run_zero hz0, run_und hu, Result.andThen_ok, run_size hn, e2, h1]
    rfl

theorem s_bslice (h : At P ρ H g w t a) {ty el : TypeId} {n sz : Nat} {z : Value} {ps : Array (Nat × Operand)} {qs : List (Nat × Nat × Opd)} (hu : P.underlying ty = some (.slice el)) (hz : zeroT P el = some z) (hn : sizeT P el = some sz)
    (hsm : ¬ n * sz > 1000) (hq : partsRow sz ps.toList = some qs) (hv : vcOp P (.bslice el n ((List.range (n * sz)).map fun i => z.cells.toList[i % z.cells.toList.length]!) qs) t H K) :
    GoodRes P ρ H g K ((do pure (Next.value (← Instr.buildSlice ty n (ps.map fun (i, x) => (i, a.eval x)))) : Sem Next).run P w) := by
  simp only [vcOp, rawsK_eq] at hv
  obtain ⟨l', h1, h2, h3⟩ := pasteK_sound h ps.toList qs _ (below_raws _ _) (par_row hq) hv
  split at h3
  · rename_i xs hxs
    rw [newHK_eq] at h3
    have hx : valL ρ l' = xs := plainL_val ρ hxs
    refine GoodRes.val (v := .slice (some ⟨w.heap.size, 0, none⟩) n n) (w' := w.alloc (.cells xs.toArray el)) ?_ ?_
    · have e0 : (valL ρ (((List.range (n * sz)).map fun i => z.cells.toList[i % z.cells.toList.length]!).map .raw)).toArray = (Array.range (n * sz)).map fun i => z.cells[i % z.cells.size]! := by
        rw [valL_eq]; simp only [List.map_map, Function.comp_def, V.val]
        apply Array.ext'
        simp
        intro i _
        rw [Array.getElem!_eq_getD, Array.getD_eq_getD_getElem?]
      rw [e0, hx] at h1
      have e2 : (Array.map (fun (x : Nat × Operand) => (x.1, a.eval x.2)) ps).toList = ps.toList.map fun p => (p.1, a.eval p.2) := by simp
      have hsm' : ¬ 2 ^ 24 < n * sz := by omega
      simp only [Instr.buildSlice, Sem.run_bind, run_und hu, Result.andThen_ok, run_size hn, gt_iff_lt, hsm', if_false]
      by_cases h0 : n * sz = 0
      · rw [h0] at h1
        have e4 : Array.range 0 = #[] := rfl
        rw [e4, Array.map_empty] at h1
        simp only [h0, if_true, e2, e4, Array.map_empty, Sem.run_bind, Sem.run_pure, Result.andThen_ok, h1]
        simp [newRow]
      · simp only [h0, if_false, Sem.run_bind, run_zero hz, Sem.run_pure, Result.andThen_ok, e2, h1]
        simp [newRow]
    · exact Res.alloc h.s (so := .arr xs el) (sv := .sl H.length 0 n n) ⟨rfl, rfl, rfl, rfl, Nat.le_refl _⟩ rfl (.inr ⟨w.heap.size, (0, 0), upd_same _ _ _, heap_push_new rfl, .inl rfl⟩) (by simp) (by simp) (by simp [V.val, upd_same]) (by simp [below]) h3
  · exact h3.elim

theorem s_slice_str (h : At P ρ H g w t a) {ty : TypeId} {x : Operand} {lo hi : Option Operand} {x' : Opd} {lo' hi' : Option Opd} (hu : P.underlying ty = some .string) (hx : cOpd x = some x') (hl : lo.mapM cOpd = some lo') (hh : hi.mapM cOpd = some hi') (hv : vcOp P (.slice none x' lo' hi') t H K) :
    GoodRes1 P ρ H K w ((do pure (Next.value (← Instr.sliceAt ty (a.eval x) (lo.map a.eval) (hi.map a.eval) none)) : Sem Next).run P w) := by
  simp only [vcOp, evK_eq, optK_eq] at hv
  have el : lo.map a.eval = lo'.map (fun y => V.val ρ (ev t y)) := by
    cases lo <;> simp at hl <;> first | (subst hl; rfl) | (obtain ⟨y, hy, rfl⟩ := hl; simp [h.eq hy])
  have eh : hi.map a.eval = hi'.map (fun y => V.val ρ (ev t y)) := by
    cases hi <;> simp at hh <;> first | (subst hh; rfl) | (obtain ⟨y, hy, rfl⟩ := hh; simp [h.eq hy])
  rw [h.eq hx]
  generalize lo.map a.eval = L at *
  generalize hi.map a.eval = R at *
  have hat : ∀ v lo hi, (Instr.sliceAt ty v lo hi none).run P w = (Instr.slice ty v lo hi none).run P w := by intro v lo hi; simp [Instr.sliceAt, run_und hu]
  have fin : ∀ s' : ByteArray, (Instr.slice ty (V.val ρ (ev t x')) L R none).run P w = .ok (.string s') w → K (.raw (.string s')) H →
      GoodRes1 P ρ H K w ((do pure (Next.value (← Instr.sliceAt ty (V.val ρ (ev t x')) L R none)) : Sem Next).run P w) :=
    fun s' h1 h2 => GoodRes1.val (by rw [hat]; exact h1) (Here.here (sv := .raw (.string s')) rfl h2)
  unfold vcSlice at hv
  split at hv
  · rename_i s _ e0
    rw [e0] at fin ⊢
    split at hv
    · rename_i h1 h2
      simp only [Option.map_eq_none_iff] at h1 h2
      subst h1 h2; subst el eh
      refine fin s ?_ (by rw [e0] at hv; exact hv)
      simp only [V.val, Option.map_none]; rw [run_slice_string_all w ty s hu]; simp
    · rename_i k i h1 h2
      simp only [Option.map_eq_none_iff, Option.map_eq_some_iff] at h1 h2
      obtain ⟨y, rfl, hy⟩ := h1
      subst h2; subst el eh
      refine fin _ ?_ hv.2
      simp only [V.val, Option.map_none, Option.map_some, hy]; rw [run_slice_string_l w ty s hu k i hv.1.1 hv.1.2]
    · rename_i k i h1 h2
      simp only [Option.map_eq_none_iff, Option.map_eq_some_iff] at h1 h2
      obtain ⟨y, rfl, hy⟩ := h2
      subst h1; subst el eh
      refine fin _ ?_ hv.2
      simp only [V.val, Option.map_none, Option.map_some, hy]; rw [run_slice_string_h w ty s hu k i hv.1.1 hv.1.2]
    · rename_i k i k' i' h1 h2
      simp only [Option.map_eq_some_iff] at h1 h2
      obtain ⟨y, rfl, hy⟩ := h1
      obtain ⟨z, rfl, hz⟩ := h2
      subst el eh
      refine fin _ ?_ hv.2
      obtain ⟨⟨h0, h1, h2⟩, _⟩ := hv
      simp only [V.val, Option.map_some, hy, hz]
      have e1 : (i'.toNat : Int) = i' := Int.toNat_of_nonneg (by omega)
      simp [Instr.slice, run_und hu, Instr.sliceBounds, run_sliceBound, h0, h1, h2, e1, (by omega : 0 ≤ i')]
    · exact hv.elim
  · rename_i hz _; cases hz
  · exact hv.elim
end
end Go.V
