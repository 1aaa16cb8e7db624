/- Part of the proof that the statement named in the last file holds: lemmas of the prover's own. No conditions. -/
import Derived.Test.YtmidamdjpabpbaaV9
import Derived.Laws.Append
import Derived.Laws.Slices
namespace Go.V
open Go

section
variable {P : Program} {ρ : Rho} {H : List SO} {g : Fr} {w : World} {K : SV → List SO → Prop} {t : List SV} {a : Act} {o : Oper}

theorem map_of (hS : St ρ H g w) {j : Nat} {es : List MapEntry} {c : Nat} (hk : obj H j = .map es c) : H[j]? = some (.map es c) ∧ ∃ b, ρ j = some b ∧ w.heap[b]? = some (.map es.toArray c) := by
  have hk' : H[j]? = some (.map es c) := by rw [← hk]; exact obj_some (by simp [hk])
  exact ⟨hk', hS.ent j _ hk'⟩

theorem s_mkif (h : At P ρ H g w t a) {ty : TypeId} {x : Operand} {y : Opd} {d : TypeDesc} (hu : P.underlying ty = some d) (hd : ∀ ms, d ≠ .interface ms) (hx : cOpd x = some y) (hv : vcOp P (.mkif ty y) t H K) :
    GoodRes1 P ρ H K w ((do pure (Next.value (← Instr.makeInterface ty (a.eval x))) : Sem Next).run P w) := by
  simp only [vcOp, evK_eq] at hv
  refine GoodRes1.val (v := .iface ty (a.eval x)) ?_ ?_
  · cases d <;> first | (exact absurd rfl (hd _)) | simp [Instr.makeInterface, run_und hu]
  · rw [h.eq hx]; exact Here.here (sv := .ifc ty (ev t y)) (by simp only [below]; exact h.bel hx) hv

theorem s_mkfn (h : At P ρ H g w t a) {f : FuncId} {caps : Array Operand} {l : List Opd} (hx : cOpds caps = some l) (hv : vcOp P (.mkfn f l) t H K) :
    GoodRes1 P ρ H K w ((do pure (Next.value (← Instr.makeFunc (.func f) (#[].map a.eval) (caps.map a.eval))) : Sem Next).run P w) := by
  simp only [vcOp, evLK_eq] at hv
  obtain ⟨h1, h2⟩ := evL_map h (l := caps.toList) hx
  refine GoodRes1.val ?_ (Here.here (sv := .fn f (evL t l)) (by simp only [below]; exact h2) hv)
  have e : caps.map a.eval = (valL ρ (evL t l)).toArray := Array.ext' (by simp only [Array.toList_map]; exact h1)
  simp [Instr.makeFunc, V.val, e]

theorem s_mkmap (h : At P ρ H g w t a) {ty : TypeId} (hv : vcOp P .mkmap t H K) :
    GoodRes P ρ H g K ((do pure (Next.value (← Instr.makeMap ty none)) : Sem Next).run P w) := by
  simp only [vcOp, newHK_eq] at hv
  refine GoodRes.val (v := .map (some w.heap.size)) (w' := w.alloc (.map #[] 0)) ?_ ?_
  · simp [Instr.makeMap]
  · exact Res.alloc h.s (so := .map [] 0) (sv := .mp H.length) ⟨rfl, rfl, rfl, rfl, Nat.le_refl _⟩ rfl ⟨w.heap.size, upd_same _ _ _, heap_push_new rfl⟩ (by simp) (by simp) (by simp [V.val, upd_same]) (by simp [below]) hv

theorem s_extr (h : At P ρ H g w t a) {x : Operand} {y : Opd} {i : Nat} (hx : cOpd x = some y) (hv : vcOp P (.extr y i) t H K) :
    GoodRes1 P ρ H K w ((do pure (Next.value (← Instr.extract (a.eval x) i)) : Sem Next).run P w) := by
  simp only [vcOp, evK_eq] at hv
  have hb := h.bel hx
  split at hv
  · rename_i l e
    rw [e] at hb
    split at hv
    · rename_i v hl
      refine GoodRes1.val ?_ (Here.here ((belowL_eq _ _).1 hb v (List.mem_of_getElem? hl)) hv)
      rw [h.eq hx, e]
      simp [V.val, Instr.extract, valL_eq, hl]
    · exact hv.elim
  · exact hv.elim

theorem s_min (h : At P ρ H g w t a) {x y : Operand} {x' y' : Opd} {ts : Array TypeId} {ty : TypeId} (hx : cOpd x = some x') (hy : cOpd y = some y') (hv : vcOp P (.min x' y') t H K) :
    GoodRes1 P ρ H K w ((do pure (Next.value (← Builtin.min_ ts ty #[a.eval x, a.eval y])) : Sem Next).run P w) := by
  simp only [vcOp, evK_eq] at hv
  split at hv
  · rename_i k p k' q e1 e2
    refine GoodRes1.val ?_ (Here.here (sv := .raw (.int k (if q < p then q else p))) rfl hv)
    rw [h.eq hx, h.eq hy, e1, e2]
    exact run_min_int2 w ts ty k k' p q
  · exact hv.elim
theorem s_max (h : At P ρ H g w t a) {x y : Operand} {x' y' : Opd} {ts : Array TypeId} {ty : TypeId} (hx : cOpd x = some x') (hy : cOpd y = some y') (hv : vcOp P (.max x' y') t H K) :
    GoodRes1 P ρ H K w ((do pure (Next.value (← Builtin.max_ ts ty #[a.eval x, a.eval y])) : Sem Next).run P w) := by
  simp only [vcOp, evK_eq] at hv
  split at hv
  · rename_i k p k' q e1 e2
    refine GoodRes1.val ?_ (Here.here (sv := .raw (.int k (if q > p then q else p))) rfl hv)
    rw [h.eq hx, h.eq hy, e1, e2]
    exact run_max_int2 w ts ty k k' p q
  · exact hv.elim

theorem s_len (h : At P ρ H g w t a) {x : Operand} {y : Opd} {ts : Array TypeId} {ty u : TypeId} {k : LK} (ht : ts[0]? = some u) (hk : lenKind P u = some k) (hx : cOpd x = some y) (hv : vcOp P (.len k y) t H K) :
    GoodRes1 P ρ H K w ((do pure (Next.value (← Builtin.len_ ts ty #[a.eval x])) : Sem Next).run P w) := by
  simp only [vcOp, evK_eq] at hv
  rw [h.eq hx]
  generalize ev t y = v at *
  have hd : ∃ d, P.underlying u = some d ∧ (match k, d with | .str, .string => True | .sl, .slice _ => True | .mp, .map _ _ => True | _, _ => False) := by
    unfold lenKind at hk
    cases hu : P.underlying u with
    | none => simp [hu] at hk
    | some d => cases d <;> simp [hu] at hk <;> subst hk <;> exact ⟨_, rfl, trivial⟩
  obtain ⟨d, hu, hd⟩ := hd
  have key : ∀ n : Nat, (Builtin.len_ ts ty #[V.val ρ v]).run P w = .ok (.int .i64 n) w → K (.raw (.int .i64 n)) H → GoodRes1 P ρ H K w ((do pure (Next.value (← Builtin.len_ ts ty #[V.val ρ v])) : Sem Next).run P w) := by
    intro n h1 h2
    exact GoodRes1.val h1 (Here.here (sv := .raw (.int .i64 n)) rfl h2)
  unfold vcLen at hv
  split at hv
  · cases d <;> simp at hd
    exact key _ (by simp [Builtin.len_, ht, run_und hu, V.val, goInt]) hv
  · cases d <;> simp at hd
    exact key _ (by simp [Builtin.len_, ht, run_und hu, V.val, goInt]) hv
  · cases d <;> simp at hd
    exact key _ (by simp [Builtin.len_, ht, run_und hu, V.val, goInt]) hv
  · cases d <;> simp at hd
    exact key 0 (by simp [Builtin.len_, ht, run_und hu, V.val, goInt]) hv
  · rename_i j
    cases d <;> simp at hd
    simp only [objK_eq] at hv
    split at hv
    · rename_i es c hk'
      obtain ⟨_, b, hb, hh⟩ := map_of h.s hk'
      exact key _ (by simp [Builtin.len_, ht, run_und hu, V.val, hb, getObj, Sem.run, hh, goInt]) hv
    · exact hv.elim
  · exact hv.elim

theorem s_cap (h : At P ρ H g w t a) {x : Operand} {y : Opd} {ts : Array TypeId} {ty u : TypeId} (ht : ts[0]? = some u) (hk : lenKind P u = some .sl) (hx : cOpd x = some y) (hv : vcOp P (.cap y) t H K) :
    GoodRes1 P ρ H K w ((do pure (Next.value (← Builtin.cap_ ts ty #[a.eval x])) : Sem Next).run P w) := by
  simp only [vcOp, evK_eq] at hv
  rw [h.eq hx]
  have hu : ∃ e, P.underlying u = some (.slice e) := by
    unfold lenKind at hk
    cases hu : P.underlying u with
    | none => simp [hu] at hk
    | some d => cases d <;> simp [hu] at hk <;> exact ⟨_, rfl⟩
  obtain ⟨e, hu⟩ := hu
  split at hv
  · rename_i c e1
    rw [e1]
    exact GoodRes1.val (by simp [Builtin.cap_, ht, run_und hu, V.val, goInt]) (Here.here (sv := .raw (.int .i64 c)) rfl hv)
  · rename_i c e1
    rw [e1]
    exact GoodRes1.val (by simp [Builtin.cap_, ht, run_und hu, V.val, goInt]) (Here.here (sv := .raw (.int .i64 c)) rfl hv)
  · exact hv.elim

theorem s_sindex (h : At P ρ H g w t a) {x i : Operand} {x' i' : Opd} {ty : TypeId} (hu : P.underlying ty = some .string) (hx : cOpd x = some x') (hi : cOpd i = some i') (hv : vcOp P (.sindex x' i') t H K) :
    GoodRes1 P ρ H K w ((do pure (Next.value (← Instr.index ty (a.eval x) (a.eval i))) : Sem Next).run P w) := by
  simp only [vcOp, evK_eq] at hv
  rw [h.eq hx, h.eq hi]
  split at hv
  · rename_i s k j e1 e2
    obtain ⟨b, ⟨h1, h2⟩, h3⟩ := hv
    refine GoodRes1.val ?_ (Here.here (sv := .raw (.int .u8 b.toNat)) rfl h3)
    rw [e1, e2]
    have : s[j.toNat]? = some b := by
      have h4 := (List.getElem?_eq_some_iff.1 h2)
      obtain ⟨h5, h6⟩ := h4
      have h7 : j.toNat < s.size := by simpa using h5
      rw [getElem?_pos s j.toNat h7]
      congr 1
    simp [V.val, Instr.index, asIntOf, run_und hu, h1, this]
  · exact hv.elim

theorem s_aindex (h : At P ρ H g w t a) {x i : Operand} {x' i' : Opd} {ty el : TypeId} {n sz : Nat} {ag : Bool} (hu : P.underlying ty = some (.array n el)) (hn : sizeT P el = some sz) (ha : isAggT P el = some ag) (h1 : ag = false → sz = 1)
    (hx : cOpd x = some x') (hi : cOpd i = some i') (hv : vcOp P (.aindex n sz ag x' i') t H K) :
    GoodRes1 P ρ H K w ((do pure (Next.value (← Instr.index ty (a.eval x) (a.eval i))) : Sem Next).run P w) := by
  simp only [vcOp, evK_eq] at hv
  have hb := h.bel hx
  rw [h.eq hx, h.eq hi]
  split at hv
  · rename_i l k j e1 e2
    rw [e1] at hb
    simp only [below] at hb
    obtain ⟨⟨r1, r2⟩, hv⟩ := hv
    rw [e1, e2]
    cases ag with
    | true =>
      obtain ⟨l', hc, hk⟩ := hv
      obtain ⟨c1, c2⟩ := cut_spec hc
      refine GoodRes1.val ?_ (Here.here (sv := .agg l') (by simp only [below]; rw [belowL_eq] at hb ⊢; exact fun v hv => hb v (cut_mem hc v hv)) hk)
      simp only [V.val, Instr.index, asIntOf, Sem.run_bind, Sem.run_pure, Result.andThen_ok, run_und hu, r1, r2, and_self, if_true, run_size hn, part, run_isAgg ha]
      congr 2
      apply Array.ext'
      simp only [List.extract_toArray, List.extract]
      apply List.ext_getElem?
      intro m
      by_cases hm : m < sz
      · rw [List.getElem?_take_of_lt (by omega), List.getElem?_drop]
        simp only [valL_eq, List.getElem?_map, c2 m hm]
      · have e1 : (valL ρ l').length ≤ m := by rw [valL_eq, List.length_map]; omega
        rw [List.getElem?_eq_none e1, List.getElem?_eq_none (by simp; omega)]
    | false =>
      obtain ⟨v, hl, hk⟩ := hv
      refine GoodRes1.val ?_ (Here.here ((belowL_eq _ _).1 hb v (List.mem_of_getElem? hl)) hk)
      simp only [V.val, Instr.index, asIntOf, Sem.run_bind, Sem.run_pure, Result.andThen_ok, run_und hu, r1, r2, and_self, if_true, run_size hn, part, run_isAgg ha]
      simp [valL_eq, hl]
  · exact hv.elim

theorem s_lookup (h : At P ρ H g w t a) {x i : Operand} {x' i' : Opd} {ty : TypeId} {ok : Bool} (hx : cOpd x = some x') (hi : cOpd i = some i') (hv : vcOp P (.lookup ty ok x' i') t H K) :
    GoodRes1 P ρ H K w ((do pure (Next.value (← Instr.lookup ty (a.eval x) (a.eval i) ok)) : Sem Next).run P w) := by
  simp only [vcOp, evK_eq] at hv
  rw [h.eq hx, h.eq hi]
  unfold vcLookup at hv
  split at hv
  · rename_i j key e1 e2
    rw [objK_eq] at hv
    split at hv
    · rename_i es c hk
      obtain ⟨v, there, x0, h1, h2, h3⟩ := hv
      obtain ⟨_, b, hb, hh⟩ := map_of h.s hk
      have hr := h1 w b c ok hh
      rw [e1, plain_val ρ e2]
      simp only [V.val, hb]
      cases ok with
      | true =>
        refine GoodRes1.val hr ?_
        have := Here.here (ρ := ρ) (K := K) (sv := .tup [v, .raw (.bool there)]) (by simp [below, belowL, plain_below _ h2]) h3
        simpa [V.val, valL, plain_val ρ h2] using this
      | false =>
        refine GoodRes1.val hr ?_
        have := Here.here (ρ := ρ) (K := K) (plain_below _ h2) h3
        simpa [plain_val ρ h2] using this
    · exact hv.elim
  · exact hv.elim

theorem map_set (hS : St ρ H g w) {j : Nat} {es es' : List MapEntry} {c c' : Nat} (hk : obj H j = .map es c) {b : Nat} (hb : ρ j = some b) (hK : K un (H.set j (.map es' c'))) :
    Res ρ H g K undef { w with heap := w.heap.setIfInBounds b (.map es'.toArray c') } := by
  have hk' : H[j]? = some (.map es c) := by rw [← hk]; exact obj_some (by simp [hk])
  obtain ⟨b', hb', hh⟩ := hS.ent j _ hk'
  obtain rfl : b' = b := by rw [hb] at hb'; exact (Option.some.inj hb').symm
  have hlt := (Array.getElem?_eq_some_iff.1 hh).1
  refine ⟨ρ, un, H.set j (.map es' c'), by simp [V.val, undef], ?_, fun _ _ => rfl, by simp, rfl, hK⟩
  refine hS.set hk' rfl rfl hb ⟨rfl, rfl, rfl, rfl, Nat.le_refl _⟩ ⟨b', hb, ?_⟩ (by simp) (by simp)
  simp [hlt]

theorem s_mapup (h : At P ρ H g w t a) {x i v : Operand} {x' i' v' : Opd} {ty : TypeId} (hx : cOpd x = some x') (hi : cOpd i = some i') (hz : cOpd v = some v') (hv : vcOp P (.mapup ty x' i' v') t H K) :
    GoodRes P ρ H g K ((do Instr.mapUpdate ty (a.eval x) (a.eval i) (a.eval v); pure Next.skip : Sem Next).run P w) := by
  simp only [vcOp, evK_eq] at hv
  rw [h.eq hx, h.eq hi, h.eq hz]
  unfold vcMapup at hv
  split at hv
  · rename_i j key x0 e1 e2 e3
    rw [objK_eq] at hv
    split at hv
    · rename_i es c hk
      obtain ⟨es', c', h1, h2⟩ := hv
      rw [setHK_eq] at h2
      obtain ⟨_, b, hb, hh⟩ := map_of h.s hk
      have hr := h1 w b hh
      rw [e1, plain_val ρ e2, plain_val ρ e3]
      simp only [V.val, hb]
      exact GoodRes.unit hr (map_set h.s hk hb h2)
    · exact hv.elim
  · exact hv.elim

theorem s_delete (h : At P ρ H g w t a) {x i : Operand} {x' i' : Opd} {ty u : TypeId} {ts : Array TypeId} (ht : ts[0]? = some ty) (hx : cOpd x = some x') (hi : cOpd i = some i') (hv : vcOp P (.delete ty x' i') t H K) :
    GoodRes P ρ H g K ((do pure (Next.value (← Builtin.delete_ ts u #[a.eval x, a.eval i])) : Sem Next).run P w) := by
  simp only [vcOp, evK_eq] at hv
  rw [h.eq hx, h.eq hi]
  unfold vcDelete at hv
  split at hv
  · rename_i j key e1 e2
    rw [objK_eq] at hv
    split at hv
    · rename_i es c hk
      obtain ⟨es', h1, h2⟩ := hv
      rw [setHK_eq] at h2
      obtain ⟨_, b, hb, hh⟩ := map_of h.s hk
      have hr := h1 w b c hh
      have e0 : Builtin.delete_ ts u #[.map (some b), key] = Builtin.delete_ #[ty, 0] 0 #[.map (some b), key] := by
        unfold Builtin.delete_; simp [ht]
      rw [e1, plain_val ρ e2]
      simp only [V.val, hb, e0]
      exact GoodRes.val hr (map_set h.s hk hb h2)
    · exact hv.elim
  · exact hv.elim
end
end Go.V
