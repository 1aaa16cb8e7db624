/- Part of the proof that the statement named in the last file holds: lemmas of the prover's own. No conditions. -/
import Derived.Test.YtmidamdjpabpbaaV6
namespace Go.V
open Go

section
variable {P : Program} {ρ : Rho} {H : List SO} {g : Fr} {w : World} {K : SV → List SO → Prop} {t : List SV} {a : Act} {o : Oper}

theorem GoodRes.val {s : Sem Value} {v : Value} {w' : World} (h : s.run P w = .ok v w') (hr : Res ρ H g K v w') :
    GoodRes P ρ H g K ((do pure (Next.value (← s)) : Sem Next).run P w) := by
  simp [h, GoodRes, hr]
theorem GoodRes.unit {s : Sem Unit} {w' : World} (h : s.run P w = .ok () w') (hr : Res ρ H g K undef w') :
    GoodRes P ρ H g K ((do s; pure Next.skip : Sem Next).run P w) := by
  simp [h, GoodRes, hr]

theorem GoodRes1.val {s : Sem Value} {v : Value} (h : s.run P w = .ok v w) (hr : Here ρ H K v) :
    GoodRes1 P ρ H K w ((do pure (Next.value (← s)) : Sem Next).run P w) := by
  simp [h, GoodRes1_ok, hr]

/-- Everything that a proof of one operation has at hand. -/
structure At (P : Program) (ρ : Rho) (H : List SO) (g : Fr) (w : World) (t : List SV) (a : Act) : Prop where
  f : Frm ρ t a
  b : belowL H.length t = true
  s : St ρ H g w

theorem At.eq (h : At P ρ H g w t a) {x : Operand} {y : Opd} (hx : cOpd x = some y) : a.eval x = V.val ρ (ev t y) := eval_ev h.f hx
theorem At.bel (h : At P ρ H g w t a) {x : Operand} {y : Opd} (hx : cOpd x = some y) : below H.length (ev t y) = true := below_ev h.b hx

theorem evL_map (h : At P ρ H g w t a) : ∀ {l : List Operand} {m : List Opd}, l.mapM cOpd = some m → l.map a.eval = valL ρ (evL t m) ∧ belowL H.length (evL t m) = true
  | [], m, hm => by simp at hm; subst hm; exact ⟨rfl, rfl⟩
  | x :: l, m, hm => by
    simp [List.mapM_cons, Option.bind_eq_some_iff] at hm
    obtain ⟨y, hy, m', hm', rfl⟩ := hm
    obtain ⟨h1, h2⟩ := evL_map h hm'
    exact ⟨by simp [evL, valL, h.eq hy, h1], by simp [evL, belowL, h.bel hy, h2]⟩

theorem s_mov (h : At P ρ H g w t a) {x : Operand} {y : Opd} (hx : cOpd x = some y) (hv : vcOp P (.mov y) t H K) :
    GoodRes1 P ρ H K w ((pure (Next.value (a.eval x)) : Sem Next).run P w) := by
  simp only [vcOp, evK_eq] at hv
  simp only [Sem.run_pure, GoodRes1_ok, h.eq hx]
  exact Here.here (h.bel hx) hv

theorem asB_val {v : SV} {b : Bool} (h : asB v = some b) : V.val ρ v = .bool b := by
  cases v <;> simp [asB] at h
  · rename_i x
    cases x <;> simp at h
    subst h; rfl
  · subst h; rfl

theorem s_pick (h : At P ρ H g w t a) {c x y : Operand} {c' x' y' : Opd} (hc : cOpd c = some c') (hx : cOpd x = some x') (hy : cOpd y = some y') (hv : vcOp P (.pick c' x' y') t H K) :
    GoodRes1 P ρ H K w ((do pure (Next.value (if ← asBool (a.eval c) then a.eval x else a.eval y)) : Sem Next).run P w) := by
  simp only [vcOp, evK_eq] at hv
  have hcv := h.eq hc
  have hxv := h.eq hx
  have hyv := h.eq hy
  have hxb := h.bel hx
  have hyb := h.bel hy
  have key : ∀ p : Bool, a.eval c = .bool p → (p = true → K (ev t x') H) → (p = false → K (ev t y') H) →
      GoodRes1 P ρ H K w ((do pure (Next.value (if ← asBool (a.eval c) then a.eval x else a.eval y)) : Sem Next).run P w) := by
    intro p hp h1 h2
    rw [hp]
    cases p
    · simp [asBool, GoodRes1_ok, hyv]; exact Here.here hyb (h2 rfl)
    · simp [asBool, GoodRes1_ok, hxv]; exact Here.here hxb (h1 rfl)
  unfold vcPick at hv
  split at hv
  · rename_i e; exact key true (by rw [hcv, e]; rfl) (fun _ => hv) (fun e => by cases e)
  · rename_i e; exact key false (by rw [hcv, e]; rfl) (fun e => by cases e) (fun _ => hv)
  · rename_i p e
    split at hv
    · rename_i b1 b2 e1 e2
      rw [hcv, e, hxv, hyv, asB_val e1, asB_val e2]
      have := Here.here (ρ := ρ) (K := K) (sv := .raw (.bool (bif p then b1 else b2))) rfl hv
      cases p <;> simpa [asBool, GoodRes1_ok, V.val] using this
    · exact key p (by rw [hcv, e]; rfl) hv.1 hv.2
  · exact hv.elim

theorem s_new (h : At P ρ H g w t a) {e : TypeId} {zs : List Value} (hz : zeroCellsT P e = some zs) (hv : vcOp P (.new e zs) t H K) :
    GoodRes P ρ H g K ((do pure (Next.value (← Instr.alloc e true (.tuple #[]))) : Sem Next).run P w) := by
  simp only [vcOp, rawsK_eq, newHK_eq] at hv
  unfold zeroCellsT at hz
  cases hz0 : zeroT P e with
  | none => simp [hz0] at hz
  | some z =>
    simp [hz0] at hz
    refine GoodRes.val (v := .pointer (some ⟨w.heap.size, 0, none⟩)) (w' := w.alloc (.cells z.cells e)) ?_ ?_
    · simp [Instr.alloc, run_zero hz0, newVar, newRow]
    · refine Res.alloc h.s (so := .cells (zs.map .raw) e) (sv := .ptr H.length 0) ⟨rfl, rfl, rfl, rfl, Nat.le_refl _⟩ rfl ⟨w.heap.size, upd_same _ _ _, ?_⟩ ?_ (by simp) (by simp [V.val, upd_same]) (by simp [below]) hv
      · have : (valL (upd ρ H.length (some w.heap.size)) (zs.map .raw)).toArray = z.cells := by
          rw [valL_eq]; simp only [List.map_map, Function.comp_def, V.val, List.map_id']; rw [← hz]
        rw [heap_push_new rfl, this]
      · intro l e2 he; cases he; exact below_raws _ _

theorem s_box (h : At P ρ H g w t a) {e : TypeId} {x : Operand} {y : Opd} (hx : cOpd x = some y) (hv : vcOp P (.box e y) t H K) :
    GoodRes P ρ H g K ((do pure (Next.value (← Instr.box e (a.eval x))) : Sem Next).run P w) := by
  simp only [vcOp, evK_eq] at hv
  have hb := h.bel hx
  have key : ∀ l : List SV, (V.val ρ (ev t y)).cells.toList = valL ρ l → belowL H.length l = true → K (.ptr H.length 0) (H ++ [.cells l e]) →
      GoodRes P ρ H g K ((do pure (Next.value (← Instr.box e (a.eval x))) : Sem Next).run P w) := by
    intro l h1 h2 h3
    refine GoodRes.val (v := .pointer (some ⟨w.heap.size, 0, none⟩)) (w' := w.alloc (.cells (valL ρ l).toArray e)) ?_ ?_
    · rw [h.eq hx]; simp [Instr.box, newVar, newRow, ← h1]
    · refine Res.alloc h.s (so := .cells l e) (sv := .ptr H.length 0) ⟨rfl, rfl, rfl, rfl, Nat.le_refl _⟩ rfl ⟨w.heap.size, upd_same _ _ _, ?_⟩ ?_ (by simp) (by simp [V.val, upd_same]) (by simp [below]) h3
      · rw [heap_push_new rfl, valL_congr (fun k hk => upd_lt ρ _ hk) l h2]
      · intro l2 e2 he; cases he; exact h2
  have one1 : one (ev t y) = true → (V.val ρ (ev t y)).cells.toList = valL ρ [ev t y] := by
    intro h1
    cases hy : ev t y <;> simp [hy, one] at h1 <;> simp [V.val, Value.cells, valL]
    rename_i x
    cases x <;> simp_all
  split at hv
  · rename_i l e1
    rw [newHK_eq] at hv
    refine key l (by rw [e1]; simp [V.val, Value.cells]) (by rw [e1] at hb; simpa [below] using hb) hv
  · exact hv.elim
  · cases h1 : one (ev t y) with
    | false => simp [h1] at hv
    | true => simp [h1, newHK_eq] at hv; exact key [ev t y] (one1 h1) (by simp [belowL, hb]) hv

theorem s_load (h : At P ρ H g w t a) {ty : TypeId} {x : Operand} {y : Opd} {n : Option Nat} (hs : shapeT P ty = some n) (hx : cOpd x = some y) (hv : vcOp P (.load n y) t H K) :
    GoodRes1 P ρ H K w ((do pure (Next.value (← Instr.loadAt ty (a.eval x))) : Sem Next).run P w) := by
  simp only [vcOp, evK_eq] at hv
  obtain ⟨v, h1, h2⟩ := sound_load hs h.s hv
  rw [h.eq hx]
  exact GoodRes1.val h1 h2
theorem s_store (h : At P ρ H g w t a) {ty : TypeId} {x v : Operand} {y z : Opd} {n : Option Nat} (hs : shapeT P ty = some n) (hx : cOpd x = some y) (hz : cOpd v = some z) (hv : vcOp P (.store n y z) t H K) :
    GoodRes P ρ H g K ((do Instr.storeAt ty (a.eval x) (a.eval v); pure Next.skip : Sem Next).run P w) := by
  simp only [vcOp, evK_eq] at hv
  obtain ⟨w', h1, h2⟩ := sound_store hs h.s (h.bel hz) hv
  rw [h.eq hx, h.eq hz]
  exact GoodRes.unit h1 h2

theorem s_nilck (h : At P ρ H g w t a) {x : Operand} {y : Opd} (ho : o.op = .nilCheck x) (hx : cOpd x = some y) (hv : vcOp P (.nilck y) t H K) :
    GoodRes1 P ρ H K w ((execOp a.eval o).run P w) := by
  simp only [vcOp, evK_eq] at hv
  split at hv
  · rename_i k off e
    rw [objK_eq] at hv
    split at hv
    · rename_i l e2 hk
      obtain ⟨_, _, b, hb, _⟩ := cells_of h.s hk
      have hev : a.eval x = .pointer (some ⟨b, off, none⟩) := by rw [h.eq hx, e]; simp [V.val, hb]
      have hbl := h.bel hx
      rw [e] at hbl
      simp only [execOp, ho, hev, Sem.run_pure, GoodRes1_ok]
      have := Here.here (ρ := ρ) (K := K) hbl hv
      simpa [V.val, hb] using this
    · exact hv.elim
  · exact hv.elim

theorem s_un (h : At P ρ H g w t a) {op : UnOp} {x : Operand} {y : Opd} (hx : cOpd x = some y) (hv : vcOp P (.un op y) t H K) :
    GoodRes1 P ρ H K w ((do pure (Next.value (← Op.unary op (a.eval x))) : Sem Next).run P w) := by
  simp only [vcOp, evK_eq] at hv
  rw [h.eq hx]
  unfold vcUn at hv
  split at hv
  · rename_i e; rw [e]; exact GoodRes1.val (by simp [V.val, Op.unary]) (Here.here (sv := .kb false) rfl hv)
  · rename_i e; rw [e]; exact GoodRes1.val (by simp [V.val, Op.unary]) (Here.here (sv := .kb true) rfl hv)
  · rename_i b e; rw [e]; exact GoodRes1.val (by simp [V.val, Op.unary]) (Here.here (sv := .raw (.bool (!b))) rfl hv)
  · rename_i k n e; rw [e]
    obtain ⟨c, hc, hk⟩ := hv
    exact GoodRes1.val (by simp only [V.val, Op.unary, Op.intArith, hc, Sem.run_pure]) (Here.here (sv := .raw (.int k c)) rfl hk)
  · rename_i k n e; rw [e]
    obtain ⟨c, hc, hk⟩ := hv
    refine GoodRes1.val (v := .int k c) ?_ (Here.here (sv := .raw (.int k c)) rfl hk)
    simp only [V.val, Op.unary, Op.intBits, Sem.run_pure]
    rw [← hc]; rfl
  · exact hv.elim

theorem s_faddr (h : At P ρ H g w t a) {s : TypeId} {x : Operand} {y : Opd} {f : Nat} {fs : Array Field} {fd : Field} {n : Nat} (hs : P.underlying s = some (.struct fs)) (hfd : fs[f]? = some fd) (hn : sizeT P fd.type = some n) (h0 : n ≠ 0)
    (hx : cOpd x = some y) (hv : vcOp P (.faddr fd.offset y) t H K) :
    GoodRes1 P ρ H K w ((do pure (Next.value (← Instr.fieldAt s (a.eval x) f)) : Sem Next).run P w) := by
  simp only [vcOp, evK_eq] at hv
  have hb := h.bel hx
  split at hv
  all_goals first
    | exact hv.elim
    | (rename_i k off e
       rw [e] at hb
       refine GoodRes1.val ?_ (Here.here ?_ hv)
       · rw [h.eq hx, e]
         simp [V.val, Instr.fieldAt, run_und hs, hfd, Instr.sureAddr, fieldPlace, run_size hn, h0, add_eq]
       · simpa [below] using hb)

theorem s_field (h : At P ρ H g w t a) {s : TypeId} {x : Operand} {y : Opd} {f : Nat} {fs : Array Field} {fd : Field} {n : Option Nat} (hs : P.underlying s = some (.struct fs)) (hfd : fs[f]? = some fd) (hn : shapeT P fd.type = some n)
    (hx : cOpd x = some y) (hv : vcOp P (.field fd.offset n y) t H K) :
    GoodRes1 P ρ H K w ((do pure (Next.value (← Instr.field s (a.eval x) f)) : Sem Next).run P w) := by
  simp only [vcOp, evK_eq] at hv
  have hb := h.bel hx
  unfold vcField at hv
  split at hv
  · rename_i l e
    rw [e] at hb
    simp only [below] at hb
    have hl : (V.val ρ (ev t y)) = .agg (valL ρ l).toArray := by rw [e]; rfl
    split at hv
    · split at hv
      · rename_i v hvl
        refine GoodRes1.val ?_ (Here.here ((belowL_eq _ _).1 hb v (List.mem_of_getElem? hvl)) hv)
        rw [h.eq hx, hl]
        simp [Instr.field, run_und hs, hfd, asAgg, part, run_isAgg (shape_none hn).1, valL_eq, hvl]
      · exact hv.elim
    · rename_i m
      split at hv
      · rename_i l' hc
        obtain ⟨c1, c2⟩ := cut_spec hc
        refine GoodRes1.val ?_ (Here.here (sv := .agg l') (by simp only [below]; rw [belowL_eq] at hb ⊢; exact fun v hv => hb v (cut_mem hc v hv)) hv)
        rw [h.eq hx, hl]
        simp [Instr.field, asAgg, part, V.val, run_und hs, hfd, run_isAgg (shape_some hn).1, run_size (shape_some hn).2]
        have hm : m ≠ 0 := fun e0 => shape_zero (e0 ▸ hn)
        apply List.ext_getElem?
        intro j
        by_cases hj : j < m
        · rw [List.getElem?_take_of_lt (by omega), List.getElem?_drop]
          simp only [valL_eq, List.getElem?_map, c2 j hj]
        · have e1 : (valL ρ l').length ≤ j := by rw [valL_eq, List.length_map]; omega
          rw [List.getElem?_eq_none e1, List.getElem?_eq_none (by simp; omega)]
      · exact hv.elim
  · exact hv.elim

theorem s_iaddr (h : At P ρ H g w t a) {ty el : TypeId} {x i : Operand} {y j : Opd} {sz : Nat} (len : Option Nat) (hs : P.underlying ty = some (match len with | some n => .array n el | none => .slice el)) (hn : sizeT P el = some sz) (h1 : sz ≠ 0) (h2 : ∀ n, len = some n → 1 < n)
    (hx : cOpd x = some y) (hj : cOpd i = some j) (hv : vcOp P (.iaddr sz len y j) t H K) :
    GoodRes1 P ρ H K w ((do pure (Next.value (← Instr.indexAt ty (a.eval x) (a.eval i))) : Sem Next).run P w) := by
  simp only [vcOp, evK_eq] at hv
  have hb := h.bel hx
  have arr : ∀ (k off n : Nat) (ik : IntKind) (iv : Int) (sv : SV), len = some n → V.val ρ (ev t y) = .pointer (some ⟨(ρ k).getD 0, off, none⟩) → V.val ρ (ev t j) = .int ik iv → (0 ≤ iv ∧ iv < n) →
      V.val ρ sv = .pointer (some ⟨(ρ k).getD 0, off + iv.toNat * sz, none⟩) → below H.length sv = true → K sv H →
      GoodRes1 P ρ H K w ((do pure (Next.value (← Instr.indexAt ty (a.eval x) (a.eval i))) : Sem Next).run P w) := by
    intro k off n ik iv sv e0 e1 e2 hr e3 hbl hk
    subst e0
    refine GoodRes1.val ?_ (Here.here hbl hk)
    rw [h.eq hx, h.eq hj, e1, e2, e3]
    simp [Instr.indexAt, asIntOf, run_und hs, Instr.sureAddr, hr, run_size hn, add_eq]
  unfold vcIaddr at hv
  split at hv
  · rename_i k off n e
    rw [e] at hb
    split at hv
    · rename_i ik iv e2
      cases hc : decide (0 ≤ iv) && decide (iv < n) with
      | false => simp [hc] at hv
      | true =>
        simp only [hc, cond_true] at hv
        exact arr k off n ik iv (.ptr k (off + iv.toNat * sz)) rfl (by rw [e]; rfl) (by rw [e2]; rfl) (by simpa using hc) rfl (by simpa [below] using hb) hv
    · rename_i ik iv _ e2
      exact arr k off n ik iv (.ptx k (off + iv.toNat * sz)) rfl (by rw [e]; rfl) (by rw [e2]; rfl) hv.1 rfl (by simpa [below] using hb) hv.2
    · exact hv.elim
  · rename_i k off n e
    rw [e] at hb
    split at hv
    · rename_i ik iv e2
      exact arr k off n ik iv (.ptx k (off + iv.toNat * sz)) rfl (by rw [e]; rfl) (by rw [e2]; rfl) hv.1 rfl (by simpa [below] using hb) hv.2
    · exact hv.elim
  · rename_i k off n c e
    rw [e] at hb
    split at hv
    · rename_i ik iv e2
      rw [objK_eq] at hv
      have key : ∀ (xs : List Value) (e' : TypeId), (obj H k = .arr xs e' ∨ obj H k = .ro xs e') → (0 ≤ iv ∧ iv < n ∧ off + n * sz ≤ xs.length) → K (.ptx k (off + iv.toNat * sz)) H →
          GoodRes1 P ρ H K w ((do pure (Next.value (← Instr.indexAt ty (a.eval x) (a.eval i))) : Sem Next).run P w) := by
        intro xs e' hk hr hkk
        rcases row_of h.s hk with rfl | ⟨b, fr, hb2, _⟩
        · exfalso
          obtain ⟨r1, r2, r3⟩ := hr
          have h4 : n * sz = 0 := by simp only [List.length_nil] at r3; omega
          rcases Nat.mul_eq_zero.1 h4 with h3 | h3 <;> omega
        · refine GoodRes1.val ?_ (Here.here (sv := .ptx k (off + iv.toNat * sz)) (by simpa [below] using hb) hkk)
          rw [h.eq hx, h.eq hj, e, e2]
          simp [V.val, hb2, Instr.indexAt, asIntOf, run_und hs, hr.1, hr.2.1, run_size hn, add_eq]
      split at hv
      · rename_i xs e' hk; exact key xs e' (.inl hk) hv.1 hv.2
      · rename_i xs e' hk; exact key xs e' (.inr hk) hv.1 hv.2
      · exact hv.elim
    · exact hv.elim
  · exact hv.elim
end
end Go.V
