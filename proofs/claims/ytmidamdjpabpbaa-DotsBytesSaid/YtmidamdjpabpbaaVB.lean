/- Part of the proof that the statement named in the last file holds: lemmas of the prover's own. No conditions. -/
import Derived.Test.YtmidamdjpabpbaaVA
import Derived.Laws.Append
import Derived.Laws.Slices
import Derived.Laws.BytesArg
import Derived.Maps.RangeRun
import Derived.Laws.AppendOwn
import Derived.IntWalk
namespace Go.V
open Go

section
variable {P : Program} {ρ : Rho} {H : List SO} {g : Fr} {w : World} {K : SV → List SO → Prop} {t : List SV} {a : Act} {o : Oper}

theorem map_of (hS : St ρ H g w) {j : Nat} {es : List MapEntry} {c : Nat} (hk : obj H j = .map es c) : H[j]? = some (.map es c) ∧ ∃ b, ρ j = some b ∧ w.heap[b]? = some (.map es.toArray c) := by
  have hk' : H[j]? = some (.map es c) := by rw [← hk]; exact obj_some (by simp [hk])
  exact ⟨hk', hS.ent j _ hk'⟩

theorem s_mkif (h : At P ρ H g w t a) {ty : TypeId} {x : Operand} {y : Opd} {d : TypeDesc} (hu : P.underlying ty = some d) (hd : ∀ ms, d ≠ .interface ms) (hx : cOpd x = some y) (hv : vcOp P (.mkif ty y) t H K) :
    GoodRes1 P ρ H K w ((do pure (Next.value (← Instr.makeInterface ty (a.eval x))) : Sem Next).run P w) := by
  simp only [vcOp, evK_eq] at hv
  refine GoodRes1.val (v := .iface ty (a.eval x)) ?_ ?_
  · cases d <;> first | (exact absurd rfl (hd _)) | simp [Instr.makeInterface, run_und hu]
  · rw [h.eq hx]; exact Here.here (sv := .ifc ty (ev t y)) (by simp only [below]; exact h.bel hx) hv

theorem s_mkfn (h : At P ρ H g w t a) {f : FuncId} {caps : Array Operand} {l : List Opd} (hx : cOpds caps = some l) (hv : vcOp P (.mkfn f l) t H K) :
    GoodRes1 P ρ H K w ((do pure (Next.value (← Instr.makeFunc (.func f) (#[].map a.eval) (caps.map a.eval))) : Sem Next).run P w) := by
  simp only [vcOp, evLK_eq] at hv
  obtain ⟨h1, h2⟩ := evL_map h (l := caps.toList) hx
  refine GoodRes1.val ?_ (Here.here (sv := .fn f (evL t l)) (by simp only [below]; exact h2) hv)
  have e : caps.map a.eval = (valL ρ (evL t l)).toArray := Array.ext' (by simp only [Array.toList_map]; exact h1)
  simp [Instr.makeFunc, V.val, e]

theorem s_mkmap (h : At P ρ H g w t a) {ty : TypeId} (hv : vcOp P .mkmap t H K) :
    GoodRes P ρ H g K ((do pure (Next.value (← Instr.makeMap ty none)) : Sem Next).run P w) := by
  simp only [vcOp, newHK_eq] at hv
  refine GoodRes.val (v := .map (some w.heap.size)) (w' := w.alloc (.map #[] 0)) ?_ ?_
  · simp [Instr.makeMap]
  · exact Res.alloc h.s (so := .map [] 0) (sv := .mp H.length) ⟨rfl, rfl, rfl, rfl, Nat.le_refl _⟩ rfl ⟨w.heap.size, upd_same _ _ _, heap_push_new rfl⟩ (by simp) (by simp) (by simp [V.val, upd_same]) (by simp [below]) hv

theorem s_extr (h : At P ρ H g w t a) {x : Operand} {y : Opd} {i : Nat} (hx : cOpd x = some y) (hv : vcOp P (.extr y i) t H K) :
    GoodRes1 P ρ H K w ((do pure (Next.value (← Instr.extract (a.eval x) i)) : Sem Next).run P w) := by
  simp only [vcOp, evK_eq] at hv
  have hb := h.bel hx
  split at hv
  · rename_i l e
    rw [e] at hb
    split at hv
    · rename_i v hl
      refine GoodRes1.val ?_ (Here.here ((belowL_eq _ _).1 hb v (List.mem_of_getElem? hl)) hv)
      rw [h.eq hx, e]
      simp [V.val, Instr.extract, valL_eq, hl]
    · exact hv.elim
  · exact hv.elim

theorem s_min (h : At P ρ H g w t a) {x y : Operand} {x' y' : Opd} {ts : Array TypeId} {ty : TypeId} (hx : cOpd x = some x') (hy : cOpd y = some y') (hv : vcOp P (.min x' y') t H K) :
    GoodRes1 P ρ H K w ((do pure (Next.value (← Builtin.min_ ts ty #[a.eval x, a.eval y])) : Sem Next).run P w) := by
  simp only [vcOp, evK_eq] at hv
  split at hv
  · rename_i k p k' q e1 e2
    refine GoodRes1.val ?_ (Here.here (sv := .raw (.int k (if q < p then q else p))) rfl hv)
    rw [h.eq hx, h.eq hy, e1, e2]
    exact run_min_int2 w ts ty k k' p q
  · exact hv.elim
theorem s_max (h : At P ρ H g w t a) {x y : Operand} {x' y' : Opd} {ts : Array TypeId} {ty : TypeId} (hx : cOpd x = some x') (hy : cOpd y = some y') (hv : vcOp P (.max x' y') t H K) :
    GoodRes1 P ρ H K w ((do pure (Next.value (← Builtin.max_ ts ty #[a.eval x, a.eval y])) : Sem Next).run P w) := by
  simp only [vcOp, evK_eq] at hv
  split at hv
  · rename_i k p k' q e1 e2
    refine GoodRes1.val ?_ (Here.here (sv := .raw (.int k (if q > p then q else p))) rfl hv)
    rw [h.eq hx, h.eq hy, e1, e2]
    exact run_max_int2 w ts ty k k' p q
  · exact hv.elim

theorem s_len (h : At P ρ H g w t a) {x : Operand} {y : Opd} {ts : Array TypeId} {ty u : TypeId} {k : LK} (ht : ts[0]? = some u) (hk : lenKind P u = some k) (hx : cOpd x = some y) (hv : vcOp P (.len k y) t H K) :
    GoodRes1 P ρ H K w ((do pure (Next.value (← Builtin.len_ ts ty #[a.eval x])) : Sem Next).run P w) := by
  simp only [vcOp, evK_eq] at hv
  rw [h.eq hx]
  generalize ev t y = v at *
  have hd : ∃ d, P.underlying u = some d ∧ (match k, d with | .str, .string => True | .sl, .slice _ => True | .mp, .map _ _ => True | _, _ => False) := by
    unfold lenKind at hk
    cases hu : P.underlying u with
    | none => simp [hu] at hk
    | some d => cases d <;> simp [hu] at hk <;> subst hk <;> exact ⟨_, rfl, trivial⟩
  obtain ⟨d, hu, hd⟩ := hd
  have key : ∀ n : Nat, (Builtin.len_ ts ty #[V.val ρ v]).run P w = .ok (.int .i64 n) w → K (.raw (.int .i64 n)) H → GoodRes1 P ρ H K w ((do pure (Next.value (← Builtin.len_ ts ty #[V.val ρ v])) : Sem Next).run P w) := by
    intro n h1 h2
    exact GoodRes1.val h1 (Here.here (sv := .raw (.int .i64 n)) rfl h2)
  unfold vcLen at hv
  split at hv
  · cases d <;> simp at hd
    exact key _ (by simp [Builtin.len_, ht, run_und hu, V.val, goInt]) hv
  · cases d <;> simp at hd
    exact key _ (by simp [Builtin.len_, ht, run_und hu, V.val, goInt]) hv
  · cases d <;> simp at hd
    exact key _ (by simp [Builtin.len_, ht, run_und hu, V.val, goInt]) hv
  · cases d <;> simp at hd
    exact key 0 (by simp [Builtin.len_, ht, run_und hu, V.val, goInt]) hv
  · rename_i j
    cases d <;> simp at hd
    simp only [objK_eq] at hv
    split at hv
    · rename_i es c hk'
      obtain ⟨_, b, hb, hh⟩ := map_of h.s hk'
      exact key _ (by simp [Builtin.len_, ht, run_und hu, V.val, hb, getObj, Sem.run, hh, goInt]) hv
    · exact hv.elim
  · exact hv.elim

theorem s_cap (h : At P ρ H g w t a) {x : Operand} {y : Opd} {ts : Array TypeId} {ty u : TypeId} (ht : ts[0]? = some u) (hk : lenKind P u = some .sl) (hx : cOpd x = some y) (hv : vcOp P (.cap y) t H K) :
    GoodRes1 P ρ H K w ((do pure (Next.value (← Builtin.cap_ ts ty #[a.eval x])) : Sem Next).run P w) := by
  simp only [vcOp, evK_eq] at hv
  rw [h.eq hx]
  have hu : ∃ e, P.underlying u = some (.slice e) := by
    unfold lenKind at hk
    cases hu : P.underlying u with
    | none => simp [hu] at hk
    | some d => cases d <;> simp [hu] at hk <;> exact ⟨_, rfl⟩
  obtain ⟨e, hu⟩ := hu
  split at hv
  · rename_i c e1
    rw [e1]
    exact GoodRes1.val (by simp [Builtin.cap_, ht, run_und hu, V.val, goInt]) (Here.here (sv := .raw (.int .i64 c)) rfl hv)
  · rename_i c e1
    rw [e1]
    exact GoodRes1.val (by simp [Builtin.cap_, ht, run_und hu, V.val, goInt]) (Here.here (sv := .raw (.int .i64 c)) rfl hv)
  · exact hv.elim

theorem s_sindex (h : At P ρ H g w t a) {x i : Operand} {x' i' : Opd} {ty : TypeId} (hu : P.underlying ty = some .string) (hx : cOpd x = some x') (hi : cOpd i = some i') (hv : vcOp P (.sindex x' i') t H K) :
    GoodRes1 P ρ H K w ((do pure (Next.value (← Instr.index ty (a.eval x) (a.eval i))) : Sem Next).run P w) := by
  simp only [vcOp, evK_eq] at hv
  rw [h.eq hx, h.eq hi]
  split at hv
  · rename_i s k j e1 e2
    obtain ⟨b, ⟨h1, h2⟩, h3⟩ := hv
    refine GoodRes1.val ?_ (Here.here (sv := .raw (.int .u8 b.toNat)) rfl h3)
    rw [e1, e2]
    have : s[j.toNat]? = some b := by
      have h4 := (List.getElem?_eq_some_iff.1 h2)
      obtain ⟨h5, h6⟩ := h4
      have h7 : j.toNat < s.size := by simpa using h5
      rw [getElem?_pos s j.toNat h7]
      congr 1
    simp [V.val, Instr.index, asIntOf, run_und hu, h1, this]
  · exact hv.elim

theorem s_aindex (h : At P ρ H g w t a) {x i : Operand} {x' i' : Opd} {ty el : TypeId} {n sz : Nat} {ag : Bool} (hu : P.underlying ty = some (.array n el)) (hn : sizeT P el = some sz) (ha : isAggT P el = some ag) (h1 : ag = false → sz = 1)
    (hx : cOpd x = some x') (hi : cOpd i = some i') (hv : vcOp P (.aindex n sz ag x' i') t H K) :
    GoodRes1 P ρ H K w ((do pure (Next.value (← Instr.index ty (a.eval x) (a.eval i))) : Sem Next).run P w) := by
  simp only [vcOp, evK_eq] at hv
  have hb := h.bel hx
  rw [h.eq hx, h.eq hi]
  split at hv
  · rename_i l k j e1 e2
    rw [e1] at hb
    simp only [below] at hb
    obtain ⟨⟨r1, r2⟩, hv⟩ := hv
    rw [e1, e2]
    cases ag with
    | true =>
      obtain ⟨l', hc, hk⟩ := hv
      obtain ⟨c1, c2⟩ := cut_spec hc
      refine GoodRes1.val ?_ (Here.here (sv := .agg l') (by simp only [below]; rw [belowL_eq] at hb ⊢; exact fun v hv => hb v (cut_mem hc v hv)) hk)
      simp only [V.val, Instr.index, asIntOf, Sem.run_bind, Sem.run_pure, Result.andThen_ok, run_und hu, r1, r2, and_self, if_true, run_size hn, part, run_isAgg ha]
      congr 2
      apply Array.ext'
      simp only [List.extract_toArray, List.extract]
      apply List.ext_getElem?
      intro m
      by_cases hm : m < sz
      · rw [List.getElem?_take_of_lt (by omega), List.getElem?_drop]
        simp only [valL_eq, List.getElem?_map, c2 m hm]
      · have e1 : (valL ρ l').length ≤ m := by rw [valL_eq, List.length_map]; omega
        rw [List.getElem?_eq_none e1, List.getElem?_eq_none (by simp; omega)]
    | false =>
      obtain ⟨v, hl, hk⟩ := hv
      refine GoodRes1.val ?_ (Here.here ((belowL_eq _ _).1 hb v (List.mem_of_getElem? hl)) hk)
      simp only [V.val, Instr.index, asIntOf, Sem.run_bind, Sem.run_pure, Result.andThen_ok, run_und hu, r1, r2, and_self, if_true, run_size hn, part, run_isAgg ha]
      simp [valL_eq, hl]
  · exact hv.elim

theorem s_lookup (h : At P ρ H g w t a) {x i : Operand} {x' i' : Opd} {ty : TypeId} {ok : Bool} (hx : cOpd x = some x') (hi : cOpd i = some i') (hv : vcOp P (.lookup ty ok x' i') t H K) :
    GoodRes1 P ρ H K w ((do pure (Next.value (← Instr.lookup ty (a.eval x) (a.eval i) ok)) : Sem Next).run P w) := by
  simp only [vcOp, evK_eq] at hv
  rw [h.eq hx, h.eq hi]
  unfold vcLookup at hv
  split at hv
  · rename_i j key e1 e2
    rw [objK_eq] at hv
    split at hv
    · rename_i es c hk
      obtain ⟨v, there, x0, h1, h2, h3⟩ := hv
      obtain ⟨_, b, hb, hh⟩ := map_of h.s hk
      have hr := h1 w b c ok hh
      rw [e1, plain_val ρ e2]
      simp only [V.val, hb]
      cases ok with
      | true =>
        refine GoodRes1.val hr ?_
        have := Here.here (ρ := ρ) (K := K) (sv := .tup [v, .raw (.bool there)]) (by simp [below, belowL, plain_below _ h2]) h3
        simpa [V.val, valL, plain_val ρ h2] using this
      | false =>
        refine GoodRes1.val hr ?_
        have := Here.here (ρ := ρ) (K := K) (plain_below _ h2) h3
        simpa [plain_val ρ h2] using this
    · exact hv.elim
  · exact hv.elim

theorem map_set (hS : St ρ H g w) {j : Nat} {es es' : List MapEntry} {c c' : Nat} (hk : obj H j = .map es c) {b : Nat} (hb : ρ j = some b) (hK : K un (H.set j (.map es' c'))) :
    Res ρ H g K undef { w with heap := w.heap.setIfInBounds b (.map es'.toArray c') } := by
  have hk' : H[j]? = some (.map es c) := by rw [← hk]; exact obj_some (by simp [hk])
  obtain ⟨b', hb', hh⟩ := hS.ent j _ hk'
  obtain rfl : b' = b := by rw [hb] at hb'; exact (Option.some.inj hb').symm
  have hlt := (Array.getElem?_eq_some_iff.1 hh).1
  refine ⟨ρ, un, H.set j (.map es' c'), by simp [V.val, undef], ?_, fun _ _ => rfl, by simp, rfl, hK⟩
  refine hS.set hk' rfl rfl hb ⟨rfl, rfl, rfl, rfl, Nat.le_refl _⟩ ⟨b', hb, ?_⟩ (by simp) (by simp)
  simp [hlt]

theorem s_mapup (h : At P ρ H g w t a) {x i v : Operand} {x' i' v' : Opd} {ty : TypeId} (hx : cOpd x = some x') (hi : cOpd i = some i') (hz : cOpd v = some v') (hv : vcOp P (.mapup ty x' i' v') t H K) :
    GoodRes P ρ H g K ((do Instr.mapUpdate ty (a.eval x) (a.eval i) (a.eval v); pure Next.skip : Sem Next).run P w) := by
  simp only [vcOp, evK_eq] at hv
  rw [h.eq hx, h.eq hi, h.eq hz]
  unfold vcMapup at hv
  split at hv
  · rename_i j key x0 e1 e2 e3
    rw [objK_eq] at hv
    split at hv
    · rename_i es c hk
      obtain ⟨es', c', h1, h2⟩ := hv
      rw [setHK_eq] at h2
      obtain ⟨_, b, hb, hh⟩ := map_of h.s hk
      have hr := h1 w b hh
      rw [e1, plain_val ρ e2, plain_val ρ e3]
      simp only [V.val, hb]
      exact GoodRes.unit hr (map_set h.s hk hb h2)
    · exact hv.elim
  · exact hv.elim

theorem s_delete (h : At P ρ H g w t a) {x i : Operand} {x' i' : Opd} {ty u : TypeId} {ts : Array TypeId} (ht : ts[0]? = some ty) (hx : cOpd x = some x') (hi : cOpd i = some i') (hv : vcOp P (.delete ty x' i') t H K) :
    GoodRes P ρ H g K ((do pure (Next.value (← Builtin.delete_ ts u #[a.eval x, a.eval i])) : Sem Next).run P w) := by
  simp only [vcOp, evK_eq] at hv
  rw [h.eq hx, h.eq hi]
  unfold vcDelete at hv
  split at hv
  · rename_i j key e1 e2
    rw [objK_eq] at hv
    split at hv
    · rename_i es c hk
      obtain ⟨es', h1, h2⟩ := hv
      rw [setHK_eq] at h2
      obtain ⟨_, b, hb, hh⟩ := map_of h.s hk
      have hr := h1 w b c hh
      have e0 : Builtin.delete_ ts u #[.map (some b), key] = Builtin.delete_ #[ty, 0] 0 #[.map (some b), key] := by
        unfold Builtin.delete_; simp [ht]
      rw [e1, plain_val ρ e2]
      simp only [V.val, hb, e0]
      exact GoodRes.val hr (map_set h.s hk hb h2)
    · exact hv.elim
  · exact hv.elim
end
end Go.V

namespace Go.V
open Go

section
variable {P : Program} {ρ : Rho} {H : List SO} {g : Fr} {w : World} {K : SV → List SO → Prop} {t : List SV} {a : Act} {o : Oper}

/-! ### Slices' elements -/
def ElemsAt (w : World) (adr : Option Addr) (ys : List Value) : Prop :=
  (adr = none ∧ ys = []) ∨ ∃ b off, adr = some ⟨b, off, none⟩ ∧ ∀ (j : Nat) x, ys[j]? = some x → w.cell? ⟨b, off + j, none⟩ = some x
theorem slElems_spec (hS : St ρ H g w) {sz : Nat} {v : SV} {ys : List Value} {m : Nat} (h : slElems H sz v = some (ys, m)) :
    (∃ adr c, val ρ v = .slice adr m c ∧ ElemsAt w adr ys) ∨
    (∃ s : ByteArray, val ρ v = .string s ∧ m = s.size ∧ ys = s.data.toList.map fun b => .int .u8 b.toNat) := by
  have key : ∀ (k o n : Nat) xs e, (obj H k = .arr xs e ∨ obj H k = .ro xs e) → ElemsAt w ((ρ k).map fun b => ⟨b, o, none⟩) ((xs.drop o).take (n * sz)) := by
    intro k o n xs e hk
    rcases row_of hS hk with rfl | ⟨b, fr, hb, hh⟩
    · cases hr : ρ k with
      | none => exact .inl ⟨rfl, by simp⟩
      | some b => exact .inr ⟨b, o, rfl, fun j x hj => by simp at hj⟩
    · refine .inr ⟨b, o, by simp [hb], fun j x hj => ?_⟩
      rw [cell_of hh]
      have : j < n * sz := by
        have := (List.getElem?_eq_some_iff.1 hj).1; simp at this; omega
      rw [List.getElem?_take_of_lt this, List.getElem?_drop] at hj
      simpa using hj
  unfold slElems at h
  split at h
  · rename_i k o n c
    split at h
    · rename_i xs e hk; cases h; exact .inl ⟨_, c, rfl, key k o m xs e (.inl hk)⟩
    · rename_i xs e hk; cases h; exact .inl ⟨_, c, rfl, key k o m xs e (.inr hk)⟩
    · cases h
  · cases h
    exact .inl ⟨none, _, rfl, .inl ⟨rfl, rfl⟩⟩
  · cases h
    exact .inr ⟨_, rfl, rfl, rfl⟩
  · cases h

theorem s_conv_int (h : At P ρ H g w t a) {src dst : TypeId} {x : Operand} {y : Opd} {q k : IntKind} (h1 : P.underlying src = some (.int q)) (h2 : P.underlying dst = some (.int k)) (hx : cOpd x = some y) (hv : vcOp P (.conv (.int k) y) t H K) :
    GoodRes1 P ρ H K w ((do pure (Next.value (← convert src dst (a.eval x))) : Sem Next).run P w) := by
  simp only [vcOp, evK_eq] at hv
  rw [h.eq hx]
  generalize ev t y = v at *
  cases v <;> simp only [vcConv] at hv
  rename_i v
  cases v <;> simp only at hv
  rename_i k' n
  obtain ⟨m, hm, hk⟩ := hv
  refine GoodRes1.val (v := .int k m) ?_ (Here.here (sv := .raw (.int k m)) rfl hk)
  simp [V.val, convert, run_und h1, run_und h2, Conv.intToInt, hm]

theorem s_conv_same (h : At P ρ H g w t a) {src dst : TypeId} {x : Operand} {y : Opd} (h1 : P.underlying src = some .string) (h2 : P.underlying dst = some .string) (hx : cOpd x = some y) (hv : vcOp P (.conv .same y) t H K) :
    GoodRes1 P ρ H K w ((do pure (Next.value (← convert src dst (a.eval x))) : Sem Next).run P w) := by
  simp only [vcOp, evK_eq] at hv
  rw [h.eq hx]
  generalize ev t y = v at *
  cases v <;> simp only [vcConv] at hv
  rename_i v
  cases v <;> simp only at hv
  rename_i s
  refine GoodRes1.val (v := .string s) ?_ (Here.here (sv := .raw (.string s)) rfl hv)
  simp [V.val, convert, run_und h1, run_und h2]

theorem s_conv_s2b (h : At P ρ H g w t a) {src dst e : TypeId} {x : Operand} {y : Opd} (h1 : P.underlying src = some .string) (h2 : P.underlying dst = some (.slice e)) (h3 : P.underlying e = some (.int .u8)) (hx : cOpd x = some y) (hv : vcOp P (.conv (.s2b e) y) t H K) :
    GoodRes P ρ H g K ((do pure (Next.value (← convert src dst (a.eval x))) : Sem Next).run P w) := by
  simp only [vcOp, evK_eq] at hv
  rw [h.eq hx]
  generalize ev t y = v at *
  cases v <;> simp only [vcConv] at hv
  rename_i v
  cases v <;> simp only at hv
  rename_i s
  let cp := (Question.appendCap s.size 0 e).cut (w.tape w.drawn (.appendCap s.size 0 e))
  have hcp : s.size ≤ cp := by simp only [cp, Question.cut]; omega
  have hk := hv cp hcp
  rw [newHK_eq] at hk
  let xs : List Value := s.data.toList.map (fun b => Value.int .u8 b.toNat) ++ List.replicate (cp - s.size) (.int .u8 0)
  have hlen : xs.length = cp := by simp [xs]; omega
  let w1 : World := { { w with drawn := w.drawn + 1 } with heap := w.heap.push (.cells xs.toArray e (0, 0)) }
  let w2 : World := w1.freeze ⟨w.heap.size, cp, none⟩ 1
  have hw2 : w2.heap = w.heap.push (.cells xs.toArray e (cp, cp + 1)) := by
    simp only [w2, w1, World.freeze]
    apply Array.ext_getElem?
    intro j
    by_cases hj : w.heap.size = j
    · subst hj; simp [Array.getElem_modify]
    · simp only [Nat.one_ne_zero, if_false, Array.getElem?_modify, hj]
      simp [Array.getElem?_push, Ne.symm hj]
  refine GoodRes.val (v := .slice (some ⟨w.heap.size, 0, none⟩) s.size cp) (w' := w2) ?_ ?_
  · have hconv : (convert src dst (.string s)).run P w = (Conv.stringToBytes e s).run P w := by simp [convert, run_und h1, run_und h2, run_und h3]
    simp only [V.val]
    rw [hconv]
    have harr : Array.map (fun b : UInt8 => Value.int IntKind.u8 b.toNat) s.data ++ Array.replicate (cp - s.size) (Value.int IntKind.u8 0) = xs.toArray := by
      apply Array.ext'; simp [xs]
    simp only [Conv.stringToBytes, Sem.run_bind, run_choose, Question.forced, Bool.false_eq_true, if_false, Result.andThen_ok, newRow, run_newObj, Sem.run_pure]
    have harr' : Array.map (fun b : UInt8 => Value.int IntKind.u8 b.toNat) s.data ++ Array.replicate ((Question.appendCap s.size 0 e).cut (w.tape w.drawn (Question.appendCap s.size 0 e)) - s.size) (Value.int IntKind.u8 0) = xs.toArray := harr
    rw [harr']
    simp only [markStringish, Sem.run_bind, run_shape, Result.andThen_ok, World.shape?]
    simp [hlen, w2, w1, cp]
  · refine Res.alloc h.s (so := .arr xs e) (sv := .sl H.length 0 s.size cp) ⟨hw2, rfl, rfl, rfl, Nat.le_succ _⟩ rfl (.inr ⟨w.heap.size, (cp, cp + 1), upd_same _ _ _, heap_push_new hw2, .inr (by simp [hlen])⟩) (by simp) (by simp) (by simp [V.val, upd_same]) (by simp [below]) hk

theorem s_conv_b2s (h : At P ρ H g w t a) {src dst e : TypeId} {x : Operand} {y : Opd} (h1 : P.underlying src = some (.slice e)) (h2 : P.underlying dst = some .string) (h3 : P.underlying e = some (.int .u8)) (hx : cOpd x = some y) (hv : vcOp P (.conv .b2s y) t H K) :
    GoodRes1 P ρ H K w ((do pure (Next.value (← convert src dst (a.eval x))) : Sem Next).run P w) := by
  simp only [vcOp, evK_eq] at hv
  rw [h.eq hx]
  generalize ev t y = v at *
  unfold vcConv at hv
  split at hv
  case h_1 hcc => cases hcc
  case h_2 hcc => cases hcc
  case h_3 hcc => cases hcc
  case h_5 =>
    exact GoodRes1.val (by simp only [V.val]; exact run_convert_bytes_nil w src e h1 h3 0 _ dst h2) (Here.here (sv := .raw (.string ByteArray.empty)) rfl hv)
  case h_6 => exact hv.elim
  · rename_i k o n c
    obtain ⟨s, hs, hk⟩ := hv
    refine GoodRes1.val (v := .string s) ?_ (Here.here (sv := .raw (.string s)) rfl hk)
    rcases slElems_spec h.s hs with ⟨adr, cc, hv, hel⟩ | ⟨s', hv, _⟩
    · rw [hv]
      rcases hel with ⟨rfl, h0⟩ | ⟨b, off, rfl, hc⟩
      · have h0' : s.data.toList = [] := List.map_eq_nil_iff.1 h0
        have hse : s = ByteArray.empty := by
          obtain ⟨⟨l⟩⟩ := s
          simp at h0'; subst h0'; rfl
        rw [run_convert_bytes_nil w src e h1 h3 _ _ dst h2, hse]
      · have hr := run_convert_bytes_arg (P := P) w src e h1 h3 b off s.size cc (s.data.toList.map fun b => (b.toNat : Int)) (by simp) (fun i hi => by
          have hi' : i < s.data.toList.length := by simpa using hi
          have hi2 : i < s.data.size := by simpa using hi
          refine hc i _ ?_
          rw [List.getElem?_map, List.getElem?_eq_getElem hi']
          simp only [List.getD, List.getElem?_map, List.getElem?_eq_getElem hi', Option.map_some, Option.getD_some]) dst h2
        rw [hr]
        congr 2
        obtain ⟨⟨l⟩⟩ := s
        simp [strOfNums, Function.comp_def]
    · simp [V.val] at hv

/-! ### Composite values -/
theorem fold_get (off : Nat) : ∀ (ys : List Value) (k : Nat) (c : Array Value), off + k + ys.length ≤ c.size →
    ((ys.zipIdx k).foldl (fun c (x : Value × Nat) => c.setIfInBounds (off + x.2) x.1) c).size = c.size ∧
    ∀ j, ((ys.zipIdx k).foldl (fun c (x : Value × Nat) => c.setIfInBounds (off + x.2) x.1) c)[j]? = if off + k ≤ j ∧ j < off + k + ys.length then ys[j - (off + k)]? else c[j]?
  | [], k, c, _ => ⟨rfl, fun j => by rw [if_neg (by simp)]; rfl⟩
  | y :: ys, k, c, h => by
    simp only [List.length_cons] at h
    obtain ⟨h1, h2⟩ := fold_get off ys (k + 1) (c.setIfInBounds (off + k) y) (by rw [Array.size_setIfInBounds]; omega)
    simp only [List.zipIdx_cons, List.foldl_cons]
    refine ⟨by rw [h1, Array.size_setIfInBounds], fun j => ?_⟩
    rw [h2 j]
    by_cases e1 : j = off + k
    · subst e1
      rw [if_neg (by omega), if_pos ⟨Nat.le_refl _, by simp only [List.length_cons]; omega⟩]
      simp [show off + k < c.size by omega]
    · by_cases e2 : off + (k + 1) ≤ j ∧ j < off + (k + 1) + ys.length
      · rw [if_pos e2, if_pos ⟨by omega, by simp only [List.length_cons]; omega⟩]
        rw [show j - (off + k) = (j - (off + (k + 1))) + 1 by omega]; simp
      · rw [if_neg e2, if_neg (by simp only [List.length_cons]; omega)]
        rw [Array.getElem?_setIfInBounds_ne (by omega)]

theorem partCells_val {v : SV} {ys : List SV} (h : partCells v = some ys) : (V.val ρ v).cells.toList = valL ρ ys ∧ ∀ n, below n v = true → belowL n ys = true := by
  cases v
  case agg l =>
    simp only [partCells] at h
    cases h
    exact ⟨by simp [V.val, Value.cells], fun n hn => by simpa [below] using hn⟩
  case raw x =>
    cases x <;> simp [partCells, one] at h <;> subst h <;> exact ⟨by simp [V.val, Value.cells, valL], fun n hn => by simp [belowL, below]⟩
  all_goals
    simp [partCells, one] at h
  all_goals
    subst h
    exact ⟨by simp [V.val, Value.cells, valL], fun n hn => by simpa [belowL] using hn⟩

/-- The parts of the model's code and their twins. -/
def Par (place : Nat → Option (Nat × Nat)) : List (Nat × Operand) → List (Nat × Nat × Opd) → Prop
  | [], [] => True
  | (i, x) :: ps, (off, n, y) :: qs => place i = some (off, n) ∧ cOpd x = some y ∧ Par place ps qs
  | _, _ => False

theorem pasteK_sound (h : At P ρ H g w t a) {place : Nat → Option (Nat × Nat)} {Kl : List SV → Prop} : ∀ (ps : List (Nat × Operand)) (qs : List (Nat × Nat × Opd)) (l : List SV), belowL H.length l = true →
    Par place ps qs → pasteK t l qs Kl →
    ∃ l', Instr.fill place (valL ρ l).toArray (ps.map fun p => (p.1, a.eval p.2)) = some (valL ρ l').toArray ∧ belowL H.length l' = true ∧ Kl l'
  | [], [], l, hb, _, hk => ⟨l, rfl, hb, hk⟩
  | (i, x) :: ps, (off, n, y) :: qs, l, hb, ⟨hp, hx, hm⟩, hk => by
    simp only [pasteK, evK_eq] at hk
    split at hk
    · rename_i ys hys
      cases hn : ys.length == n with
      | false => simp [hn] at hk
      | true =>
        simp only [hn, cond_true] at hk
        split at hk
        · rename_i l1 hl1
          obtain ⟨c1, c2⟩ := partCells_val (ρ := ρ) hys
          obtain ⟨p1, p2, p3⟩ := paste_spec hl1
          have hyl : (valL ρ ys).length = ys.length := by rw [valL_eq]; simp
          have hll : (valL ρ l).length = l.length := by rw [valL_eq]; simp
          have hb1 : belowL H.length l1 = true := by
            rw [belowL_eq] at hb ⊢
            intro v hv
            rcases paste_mem hl1 v hv with h1 | h1
            · exact hb v h1
            · exact (belowL_eq _ _).1 (c2 _ (h.bel hx)) v h1
          obtain ⟨l', f1, f2, f3⟩ := pasteK_sound h ps qs l1 hb1 hm hk
          refine ⟨l', ?_, f2, f3⟩
          simp only [List.map_cons, Instr.fill, hp, h.eq hx]
          have hsz : (V.val ρ (ev t y)).cells.size = n := by
            rw [← Array.length_toList, c1, hyl]; simpa using hn
          have hn' : ys.length = n := by simpa using hn
          rw [if_neg (by
            simp only [hsz, List.size_toArray, hll]
            simp; omega)]
          have hfold := fold_get off (V.val ρ (ev t y)).cells.toList 0 (valL ρ l).toArray (by rw [c1, hyl, List.size_toArray, hll]; omega)
          have hfin : (V.val ρ (ev t y)).cells.zipIdx.foldl (fun cs (x : Value × Nat) => cs.setIfInBounds (off + x.2) x.1) (valL ρ l).toArray = (valL ρ l1).toArray := by
            rw [← Array.foldl_toList, Array.toList_zipIdx]
            apply Array.ext_getElem?
            intro j
            rw [hfold.2 j, c1]
            simp only [List.getElem?_toArray, valL_eq, List.getElem?_map, p3 j, List.length_map, Nat.add_zero]
            split <;> simp
          have := f1
          simp only [hfin]
          exact f1
        · exact hk.elim
    · exact hk.elim

theorem par_struct {fs : Array Field} : ∀ {l : List (Nat × Operand)} {qs : List (Nat × Nat × Opd)}, partsStruct P fs l = some qs → Par (fun i => (fs[i]?).bind fun f => (sizeT P f.type).map fun n => (f.offset, n)) l qs
  | [], qs, h => by simp [partsStruct] at h; subst h; trivial
  | (i, x) :: l, qs, h => by
    simp [partsStruct, List.mapM_cons, Option.bind_eq_some_iff] at h
    obtain ⟨_, _, _, ⟨f, hf, n, hn, y, hy, rfl, rfl, rfl⟩, qs', hq, rfl⟩ := h
    refine ⟨by simp [hf, hn], hy, par_struct (by simpa [partsStruct] using hq)⟩
theorem par_row {sz : Nat} : ∀ {l : List (Nat × Operand)} {qs : List (Nat × Nat × Opd)}, partsRow sz l = some qs → Par (fun i => some (i * sz, sz)) l qs
  | [], qs, h => by simp [partsRow] at h; subst h; trivial
  | (i, x) :: l, qs, h => by
    simp [partsRow, List.mapM_cons, Option.bind_eq_some_iff] at h
    obtain ⟨_, _, _, ⟨y, hy, rfl, rfl, rfl⟩, qs', hq, rfl⟩ := h
    exact ⟨rfl, hy, par_row (by simpa [partsRow] using hq)⟩
end
end Go.V

namespace Go.V
open Go

section
variable {P : Program} {ρ : Rho} {H : List SO} {g : Fr} {w : World} {K : SV → List SO → Prop} {t : List SV} {a : Act} {o : Oper}

theorem run_mapM_places {fs : Array Field} (h : fs.toList.all (fun f => (sizeT P f.type).isSome) = true) :
    (fs.mapM (m := Sem) fun f => do pure (f.offset, ← sizeOf f.type)).run P w = .ok (fs.map fun f => (f.offset, (sizeT P f.type).getD 0)) w := by
  rw [Array.mapM_eq_mapM_toList]
  have : ∀ l : List Field, l.all (fun f => (sizeT P f.type).isSome) = true → (l.mapM (m := Sem) fun f => do pure (f.offset, ← sizeOf f.type)).run P w = .ok (l.map fun f => (f.offset, (sizeT P f.type).getD 0)) w := by
    intro l
    induction l with
    | nil => intro _; simp
    | cons f l ih =>
      intro hl
      simp only [List.all_cons, Bool.and_eq_true] at hl
      obtain ⟨n, hn⟩ := Option.isSome_iff_exists.1 hl.1
      simp only [List.mapM_cons, Sem.run_bind, run_size hn, Result.andThen_ok, Sem.run_pure, ih hl.2, List.map_cons, hn, Option.getD_some]
  simp only [Sem.run_map, this fs.toList h, Result.andThen_ok]
  congr 1
  apply Array.ext'
  simp

theorem s_build_struct (h : At P ρ H g w t a) {ty : TypeId} {fs : Array Field} {zs : List Value} {ps : Array (Nat × Operand)} {qs : List (Nat × Nat × Opd)} (hu : P.underlying ty = some (.struct fs)) (hz : zeroCellsT P ty = some zs)
    (hall : fs.toList.all (fun f => (sizeT P f.type).isSome) = true) (hq : partsStruct P fs ps.toList = some qs) (hv : vcOp P (.build zs qs) t H K) :
    GoodRes1 P ρ H K w ((do pure (Next.value (← Instr.build ty (ps.map fun (i, x) => (i, a.eval x)))) : Sem Next).run P w) := by
  simp only [vcOp, rawsK_eq] at hv
  obtain ⟨l', h1, h2, h3⟩ := pasteK_sound h ps.toList qs (zs.map .raw) (below_raws _ _) (par_struct hq) hv
  unfold zeroCellsT at hz
  cases hz0 : zeroT P ty with
  | none => simp [hz0] at hz
  | some z =>
    simp [hz0] at hz
    refine GoodRes1.val (v := .agg (valL ρ l').toArray) ?_ (Here.here (sv := .agg l') (by simp only [below]; exact h2) h3)
    have e0 : (valL ρ (zs.map .raw)).toArray = z.cells := by
      rw [valL_eq]; simp only [List.map_map, Function.comp_def, V.val, List.map_id']; rw [← hz]
    rw [e0] at h1
    have e1 : (fun (i : Nat) => (fs.map fun (f : Field) => (f.offset, (sizeT P f.type).getD 0))[i]?) = fun (i : Nat) => (fs[i]?).bind fun (f : Field) => (sizeT P f.type).map fun n => (f.offset, n) := by
      funext i
      rw [Array.getElem?_map]
      cases hf : fs[i]? with
      | none => rfl
      | some f =>
        have hmem : f ∈ fs.toList := by simpa using Array.mem_of_getElem? hf
        obtain ⟨n, hn⟩ := Option.isSome_iff_exists.1 (List.all_eq_true.1 hall f hmem)
        simp [hn]
    simp only [Instr.build, Sem.run_bind, run_zero hz0, run_und hu, Result.andThen_ok, run_mapM_places hall]
    rw [e1]
    have e2 : (Array.map (fun (x : Nat × Operand) => (x.1, a.eval x.2)) ps).toList = ps.toList.map fun p => (p.1, a.eval p.2) := by simp
    simp only [e2, h1]
    rfl

theorem s_build_array (h : At P ρ H g w t a) {ty el : TypeId} {n sz : Nat} {zs : List Value} {ps : Array (Nat × Operand)} {qs : List (Nat × Nat × Opd)} (hu : P.underlying ty = some (.array n el)) (hz : zeroCellsT P ty = some zs) (hn : sizeT P el = some sz)
    (hq : partsRow sz ps.toList = some qs) (hv : vcOp P (.build zs qs) t H K) :
    GoodRes1 P ρ H K w ((do pure (Next.value (← Instr.build ty (ps.map fun (i, x) => (i, a.eval x)))) : Sem Next).run P w) := by
  simp only [vcOp, rawsK_eq] at hv
  obtain ⟨l', h1, h2, h3⟩ := pasteK_sound h ps.toList qs (zs.map .raw) (below_raws _ _) (par_row hq) hv
  unfold zeroCellsT at hz
  cases hz0 : zeroT P ty with
  | none => simp [hz0] at hz
  | some z =>
    simp [hz0] at hz
    refine GoodRes1.val (v := .agg (valL ρ l').toArray) ?_ (Here.here (sv := .agg l') (by simp only [below]; exact h2) h3)
    have e0 : (valL ρ (zs.map .raw)).toArray = z.cells := by
      rw [valL_eq]; simp only [List.map_map, Function.comp_def, V.val, List.map_id']; rw [← hz]
    rw [e0] at h1
    have e2 : (Array.map (fun (x : Nat × Operand) => (x.1, a.eval x.2)) ps).toList = ps.toList.map fun p => (p.1, a.eval p.2) := by simp
    simp only [Instr.build, Sem.run_bind, run_zero hz0, run_und hu, Result.andThen_ok, run_size hn, e2, h1]
    rfl

theorem s_bslice (h : At P ρ H g w t a) {ty el : TypeId} {n sz : Nat} {z : Value} {ps : Array (Nat × Operand)} {qs : List (Nat × Nat × Opd)} (hu : P.underlying ty = some (.slice el)) (hz : zeroT P el = some z) (hn : sizeT P el = some sz)
    (hsm : ¬ n * sz > 1000) (hq : partsRow sz ps.toList = some qs) (hv : vcOp P (.bslice el n ((List.range (n * sz)).map fun i => z.cells.toList[i % z.cells.toList.length]!) qs) t H K) :
    GoodRes P ρ H g K ((do pure (Next.value (← Instr.buildSlice ty n (ps.map fun (i, x) => (i, a.eval x)))) : Sem Next).run P w) := by
  simp only [vcOp, rawsK_eq] at hv
  obtain ⟨l', h1, h2, h3⟩ := pasteK_sound h ps.toList qs _ (below_raws _ _) (par_row hq) hv
  split at h3
  · rename_i xs hxs
    rw [newHK_eq] at h3
    have hx : valL ρ l' = xs := plainL_val ρ hxs
    refine GoodRes.val (v := .slice (some ⟨w.heap.size, 0, none⟩) n n) (w' := w.alloc (.cells xs.toArray el)) ?_ ?_
    · have e0 : (valL ρ (((List.range (n * sz)).map fun i => z.cells.toList[i % z.cells.toList.length]!).map .raw)).toArray = (Array.range (n * sz)).map fun i => z.cells[i % z.cells.size]! := by
        rw [valL_eq]; simp only [List.map_map, Function.comp_def, V.val]
        apply Array.ext'
        simp
        intro i _
        rw [Array.getElem!_eq_getD, Array.getD_eq_getD_getElem?]
      rw [e0, hx] at h1
      have e2 : (Array.map (fun (x : Nat × Operand) => (x.1, a.eval x.2)) ps).toList = ps.toList.map fun p => (p.1, a.eval p.2) := by simp
      have hsm' : ¬ 2 ^ 24 < n * sz := by omega
      simp only [Instr.buildSlice, Sem.run_bind, run_und hu, Result.andThen_ok, run_size hn, gt_iff_lt, hsm', if_false]
      by_cases h0 : n * sz = 0
      · rw [h0] at h1
        have e4 : Array.range 0 = #[] := rfl
        rw [e4, Array.map_empty] at h1
        simp only [h0, if_true, e2, e4, Array.map_empty, Sem.run_bind, Sem.run_pure, Result.andThen_ok, h1]
        simp [newRow]
      · simp only [h0, if_false, Sem.run_bind, run_zero hz, Sem.run_pure, Result.andThen_ok, e2, h1]
        simp [newRow]
    · exact Res.alloc h.s (so := .arr xs el) (sv := .sl H.length 0 n n) ⟨rfl, rfl, rfl, rfl, Nat.le_refl _⟩ rfl (.inr ⟨w.heap.size, (0, 0), upd_same _ _ _, heap_push_new rfl, .inl rfl⟩) (by simp) (by simp) (by simp [V.val, upd_same]) (by simp [below]) h3
  · exact h3.elim

theorem s_slice_str (h : At P ρ H g w t a) {ty : TypeId} {x : Operand} {lo hi : Option Operand} {x' : Opd} {lo' hi' : Option Opd} (hu : P.underlying ty = some .string) (hx : cOpd x = some x') (hl : lo.mapM cOpd = some lo') (hh : hi.mapM cOpd = some hi') (hv : vcOp P (.slice none x' lo' hi') t H K) :
    GoodRes1 P ρ H K w ((do pure (Next.value (← Instr.sliceAt ty (a.eval x) (lo.map a.eval) (hi.map a.eval) none)) : Sem Next).run P w) := by
  simp only [vcOp, evK_eq, optK_eq] at hv
  have el : lo.map a.eval = lo'.map (fun y => V.val ρ (ev t y)) := by
    cases lo <;> simp at hl <;> first | (subst hl; rfl) | (obtain ⟨y, hy, rfl⟩ := hl; simp [h.eq hy])
  have eh : hi.map a.eval = hi'.map (fun y => V.val ρ (ev t y)) := by
    cases hi <;> simp at hh <;> first | (subst hh; rfl) | (obtain ⟨y, hy, rfl⟩ := hh; simp [h.eq hy])
  rw [h.eq hx]
  generalize lo.map a.eval = L at *
  generalize hi.map a.eval = R at *
  have hat : ∀ v lo hi, (Instr.sliceAt ty v lo hi none).run P w = (Instr.slice ty v lo hi none).run P w := by intro v lo hi; simp [Instr.sliceAt, run_und hu]
  have fin : ∀ s' : ByteArray, (Instr.slice ty (V.val ρ (ev t x')) L R none).run P w = .ok (.string s') w → K (.raw (.string s')) H →
      GoodRes1 P ρ H K w ((do pure (Next.value (← Instr.sliceAt ty (V.val ρ (ev t x')) L R none)) : Sem Next).run P w) :=
    fun s' h1 h2 => GoodRes1.val (by rw [hat]; exact h1) (Here.here (sv := .raw (.string s')) rfl h2)
  unfold vcSlice at hv
  split at hv
  · rename_i s _ e0
    rw [e0] at fin ⊢
    split at hv
    · rename_i h1 h2
      simp only [Option.map_eq_none_iff] at h1 h2
      subst h1 h2; subst el eh
      refine fin s ?_ (by rw [e0] at hv; exact hv)
      simp only [V.val, Option.map_none]; rw [run_slice_string_all w ty s hu]; simp
    · rename_i k i h1 h2
      simp only [Option.map_eq_none_iff, Option.map_eq_some_iff] at h1 h2
      obtain ⟨y, rfl, hy⟩ := h1
      subst h2; subst el eh
      refine fin _ ?_ hv.2
      simp only [V.val, Option.map_none, Option.map_some, hy]; rw [run_slice_string_l w ty s hu k i hv.1.1 hv.1.2]
    · rename_i k i h1 h2
      simp only [Option.map_eq_none_iff, Option.map_eq_some_iff] at h1 h2
      obtain ⟨y, rfl, hy⟩ := h2
      subst h1; subst el eh
      refine fin _ ?_ hv.2
      simp only [V.val, Option.map_none, Option.map_some, hy]; rw [run_slice_string_h w ty s hu k i hv.1.1 hv.1.2]
    · rename_i k i k' i' h1 h2
      simp only [Option.map_eq_some_iff] at h1 h2
      obtain ⟨y, rfl, hy⟩ := h1
      obtain ⟨z, rfl, hz⟩ := h2
      subst el eh
      refine fin _ ?_ hv.2
      obtain ⟨⟨h0, h1, h2⟩, _⟩ := hv
      simp only [V.val, Option.map_some, hy, hz]
      have e1 : (i'.toNat : Int) = i' := Int.toNat_of_nonneg (by omega)
      simp [Instr.slice, run_und hu, Instr.sliceBounds, run_sliceBound, h0, h1, h2, e1, (by omega : 0 ≤ i')]
    · exact hv.elim
  · rename_i hz _; cases hz
  · exact hv.elim
end
end Go.V

namespace Go.V
open Go

section
variable {P : Program} {ρ : Rho} {H : List SO} {g : Fr} {w : World} {K : SV → List SO → Prop} {t : List SV} {a : Act} {o : Oper}

theorem s_slice_sl (h : At P ρ H g w t a) {ty el : TypeId} {z : Nat} {x : Operand} {lo hi : Option Operand} {x' : Opd} {lo' hi' : Option Opd} (hu : P.underlying ty = some (.slice el)) (hsz : sizeT P el = some z) (hx : cOpd x = some x') (hl : lo.mapM cOpd = some lo') (hh : hi.mapM cOpd = some hi') (hv : vcOp P (.slice (some z) x' lo' hi') t H K) :
    GoodRes1 P ρ H K w ((do pure (Next.value (← Instr.sliceAt ty (a.eval x) (lo.map a.eval) (hi.map a.eval) none)) : Sem Next).run P w) := by
  simp only [vcOp, evK_eq, optK_eq] at hv
  have hb := h.bel hx
  have el' : lo.map a.eval = lo'.map (fun y => V.val ρ (ev t y)) := by
    cases lo <;> simp at hl <;> first | (subst hl; rfl) | (obtain ⟨y, hy, rfl⟩ := hl; simp [h.eq hy])
  have eh : hi.map a.eval = hi'.map (fun y => V.val ρ (ev t y)) := by
    cases hi <;> simp at hh <;> first | (subst hh; rfl) | (obtain ⟨y, hy, rfl⟩ := hh; simp [h.eq hy])
  rw [h.eq hx]
  generalize lo.map a.eval = L at *
  generalize hi.map a.eval = R at *
  have hat : ∀ v lo hi, (Instr.sliceAt ty v lo hi none).run P w = (Instr.slice ty v lo hi none).run P w := by intro v lo hi; simp [Instr.sliceAt, run_und hu]
  have he : P.elem ty = el := by simp [Program.elem, hu]
  have hu' : P.underlying ty = some (.slice (P.elem ty)) := by rw [he]; exact hu
  have hsz' : (sizeOf (P.elem ty)).run P w = .ok z w := by rw [he]; exact run_size hsz
  unfold vcSlice at hv
  split at hv
  · rename_i hz _; cases hz
  · rename_i z' k o n c hz e0
    cases hz
    rw [e0] at hb ⊢
    simp only [below] at hb
    have slc : ∀ (l h' : Nat) (m : Nat), m = c → sliced ((ρ k).map fun b => ⟨b, o, none⟩) l h' m z = V.val ρ (.sl k (if c = l then o else o + l * z) (h' - l) (c - l)) := by
      intro l h' m hm
      subst hm
      simp only [sliced, V.val]
      by_cases hml : m = l
      · simp [hml]
      · simp only [hml, if_false]
        cases ρ k <;> simp [add_eq]
    have fin : ∀ sv, (Instr.slice ty (V.val ρ (.sl k o n c)) L R none).run P w = .ok (V.val ρ sv) w → below H.length sv = true → K sv H →
        GoodRes1 P ρ H K w ((do pure (Next.value (← Instr.sliceAt ty (V.val ρ (.sl k o n c)) L R none)) : Sem Next).run P w) :=
      fun sv h1 h2 h3 => GoodRes1.val (by rw [hat]; exact h1) (Here.here h2 h3)
    split at hv
    · rename_i h1 h2
      simp only [Option.map_eq_none_iff] at h1 h2
      subst h1 h2; subst el' eh
      refine fin (.sl k o n c) ?_ (by simpa [below] using hb) (by rw [e0] at hv; exact hv)
      simp only [V.val, Option.map_none]
      rw [run_slice_all w ty _ n c hu', hsz']
      simp only [Result.andThen_ok]
      rw [slc 0 n c rfl]
      simp only [V.val, Nat.zero_mul, Nat.add_zero, Nat.sub_zero, ite_self]
    · rename_i kk i h1 h2
      simp only [Option.map_eq_none_iff, Option.map_eq_some_iff] at h1 h2
      obtain ⟨y, rfl, hy⟩ := h1
      subst h2; subst el' eh
      obtain ⟨⟨r1, r2⟩, o', rfl, hk⟩ := hv
      refine fin _ ?_ (by simpa [below] using hb) hk
      rw [← slc i.toNat n c rfl]
      simp only [V.val, Option.map_none, Option.map_some, hy]
      rw [run_slice_l w ty _ n c hu' kk i r1 r2, hsz']; rfl
    · rename_i kk i h1 h2
      simp only [Option.map_eq_none_iff, Option.map_eq_some_iff] at h1 h2
      obtain ⟨y, rfl, hy⟩ := h2
      subst h1; subst el' eh
      obtain ⟨⟨r1, r2⟩, hk⟩ := hv
      refine fin _ ?_ (by simpa [below] using hb) hk
      have := slc 0 i.toNat c rfl
      simp only [Nat.zero_mul, Nat.add_zero, Nat.sub_zero, ite_self] at this
      rw [← this]
      simp only [V.val, Option.map_none, Option.map_some, hy]
      rw [run_slice_h w ty _ n c hu' kk i r1 r2, hsz']; rfl
    · rename_i kk i kk' i' h1 h2
      simp only [Option.map_eq_some_iff] at h1 h2
      obtain ⟨y, rfl, hy⟩ := h1
      obtain ⟨y', rfl, hy'⟩ := h2
      subst el' eh
      obtain ⟨⟨r0, r1, r2⟩, o', rfl, hk⟩ := hv
      refine fin _ ?_ (by simpa [below] using hb) hk
      rw [← slc i.toNat i'.toNat c rfl]
      simp only [V.val, Option.map_some, hy, hy']
      rw [run_slice_lh w ty _ n c hu' kk kk' i i' r0 r1 r2, hsz']; rfl
    · exact hv.elim
  · exact hv.elim

theorem s_tassert (h : At P ρ H g w t a) {xT ty : TypeId} {x : Operand} {y : Opd} {ok : Bool} {z : Value} {d : TypeDesc} (hu : P.underlying ty = some d) (hd : ∀ ms, d ≠ .interface ms) (hz : zeroT P ty = some z) (hx : cOpd x = some y) (hv : vcOp P (.tassert ty ok z y) t H K) :
    GoodRes1 P ρ H K w ((do pure (Next.value (← Instr.typeAssert (a.eval x) xT ty ok)) : Sem Next).run P w) := by
  simp only [vcOp, evK_eq] at hv
  have hb := h.bel hx
  rw [h.eq hx]
  have fails : ∀ v : Value, (∀ m, (Instr.typeAssert v xT ty true).run P w = .ok (.tuple #[z, .bool false]) m ∨ True) → True := fun _ _ => trivial
  unfold vcTassert at hv
  split at hv
  · rename_i u v e
    rw [e] at hb ⊢
    simp only [below] at hb
    cases hut : u == ty with
    | true =>
      have hut' : u = ty := by simpa using hut
      subst hut'
      simp only [beq_self_eq_true, cond_true] at hv
      cases ok with
      | true =>
        refine GoodRes1.val ?_ (Here.here (sv := .tup [v, .kb true]) (by simp [below, belowL, hb]) hv)
        cases d <;> first | (exact absurd rfl (hd _)) | simp [V.val, valL, Instr.typeAssert, run_und hu]
      | false =>
        refine GoodRes1.val ?_ (Here.here hb hv)
        cases d <;> first | (exact absurd rfl (hd _)) | simp [V.val, Instr.typeAssert, run_und hu]
    | false =>
      have hut' : u ≠ ty := by simpa using hut
      simp only [hut, cond_false] at hv
      cases ok with
      | true =>
        simp only [cond_true] at hv
        refine GoodRes1.val ?_ (Here.here (sv := .tup [svConst z, .kb false]) (by simp [below, belowL, below_svConst]) hv)
        cases d <;> first | (exact absurd rfl (hd _)) | simp [V.val, valL, val_svConst, Instr.typeAssert, run_und hu, hut', run_zero hz]
      | false => exact hv.elim
  · rename_i e
    rw [e]
    cases ok with
    | true =>
      simp only [cond_true] at hv
      refine GoodRes1.val ?_ (Here.here (sv := .tup [svConst z, .kb false]) (by simp [below, belowL, below_svConst]) hv)
      cases d <;> first | (exact absurd rfl (hd _)) | simp [V.val, valL, val_svConst, Instr.typeAssert, run_und hu, run_zero hz]
    | false => exact hv.elim
  · exact hv.elim

theorem s_range (h : At P ρ H g w t a) {ty k e : TypeId} {x : Operand} {y : Opd} (hu : P.underlying ty = some (.map k e)) (hx : cOpd x = some y) (hv : vcOp P (.range false y) t H K) :
    GoodRes P ρ H g K ((do pure (Next.value (← Instr.range ty (a.eval x))) : Sem Next).run P w) := by
  simp only [vcOp, evK_eq] at hv
  have hb := h.bel hx
  rw [h.eq hx]
  split at hv
  · rename_i j e0
    rw [e0] at hb ⊢
    simp only [below, decide_eq_true_eq] at hb
    rw [objK_eq] at hv
    split at hv
    · rename_i es c hk
      rw [newHK_eq] at hv
      obtain ⟨_, b, hb', hh⟩ := map_of h.s hk
      refine GoodRes.val (v := .pointer (some ⟨w.heap.size, 0, none⟩)) (w' := w.alloc (.mapIter (some b) c #[] c)) ?_ ?_
      · simp [V.val, hb', Instr.range, run_und hu, getObj, Sem.run, hh]
      · refine Res.alloc h.s (so := .iter (some j) c [] c) (sv := .ptr H.length 0) ⟨rfl, rfl, rfl, rfl, Nat.le_refl _⟩ rfl ⟨w.heap.size, upd_same _ _ _, ?_⟩ (by simp) ?_ (by simp [V.val, upd_same]) (by simp [below]) hv
        · rw [heap_push_new rfl]; simp [upd_lt ρ _ hb, hb']
        · intro m s seen st he; cases he; exact hb
    · exact hv.elim
  · rename_i e0
    rw [e0]
    rw [newHK_eq] at hv
    refine GoodRes.val (v := .pointer (some ⟨w.heap.size, 0, none⟩)) (w' := w.alloc (.mapIter none 0 #[] 0)) ?_ ?_
    · simp [V.val, Instr.range, run_und hu]
    · exact Res.alloc h.s (so := .iter none 0 [] 0) (sv := .ptr H.length 0) ⟨rfl, rfl, rfl, rfl, Nat.le_refl _⟩ rfl ⟨w.heap.size, upd_same _ _ _, by rw [heap_push_new rfl]; rfl⟩ (by simp) (by simp) (by simp [V.val, upd_same]) (by simp [below]) hv
  · exact hv.elim

theorem iter_of (hS : St ρ H g w) {n : Nat} {m : Option Nat} {s : Nat} {seen : List Nat} {st : Nat} (hk : obj H n = .iter m s seen st) :
    H[n]? = some (.iter m s seen st) ∧ ∃ b, ρ n = some b ∧ w.heap[b]? = some (.mapIter (m.bind ρ) s seen.toArray st) := by
  have hk' : H[n]? = some (.iter m s seen st) := by rw [← hk]; exact obj_some (by simp [hk])
  exact ⟨hk', hS.ent n _ hk'⟩

theorem s_next (h : At P ρ H g w t a) {ty : TypeId} {x : Operand} {y : Opd} (hx : cOpd x = some y) (hv : vcOp P (.next false y) t H K) :
    GoodRes P ρ H g K ((do pure (Next.value (← Instr.next (a.eval x) false ty)) : Sem Next).run P w) := by
  simp only [vcOp, evK_eq] at hv
  have hb := h.bel hx
  rw [h.eq hx]
  unfold vcNext at hv
  split at hv
  · rename_i n e0
    rw [e0]
    rw [objK_eq] at hv
    split at hv
    · rename_i s seen st hk
      obtain ⟨_, b, hb', hh⟩ := iter_of h.s hk
      refine GoodRes.val (w' := w) (v := .tuple #[.bool false]) ?_ ?_
      · simp [V.val, hb', Instr.next, getObj, Sem.run, hh]
      · simpa [V.val, valL] using Res.here (K := K) h.s (sv := .tup [.kb false]) rfl hv
    · rename_i j since seen last hk
      obtain ⟨hk1, b, hb', hh⟩ := iter_of h.s hk
      rw [objK_eq] at hv
      split at hv
      · rename_i es c hkm
        obtain ⟨hkm1, bm, hbm, hhm⟩ := map_of h.s hkm
        obtain ⟨⟨c1, c2⟩, h1, h2⟩ := hv
        simp only [Option.bind_some, hbm] at hh
        simp only [V.val, hb', Option.getD_some]
        rcases run_next_at (P := P) w ty b bm since last seen.toArray es.toArray c hh hhm (by simpa using c1) c2 with ⟨z1, z2⟩ | ⟨e, z1, w1, z2, z3⟩
        · refine GoodRes.val z2 ?_
          have hall : ∀ e ∈ es, e.born ∈ seen := by
            intro e he
            rcases Classical.em (e.born ∈ seen) with h3 | h3
            · exact h3
            · exfalso
              have : e ∈ (leftOf es.toArray seen.toArray) := by
                simp [leftOf, he, h3]
              rw [Array.eq_empty_of_size_eq_zero z1] at this
              simp at this
          simpa [V.val, valL] using Res.here (K := K) h.s (sv := .tup [.kb false]) rfl (h1 hall)
        · have hmem : e ∈ es ∧ e.born ∉ seen := by
            have := Array.mem_toList_iff.1 z1
            simp [leftOf] at this
            exact this
          refine GoodRes.val z3 ?_
          have hk2 := h2 e hmem.1 hmem.2
          rw [setHK_eq] at hk2
          have hlt := (Array.getElem?_eq_some_iff.1 hh).1
          have hheap : (Go.ChangeMaps.setBlock w1 b (.mapIter (some bm) since (seen.toArray.push e.born) c)).heap = w.heap.setIfInBounds b (.mapIter (some bm) since (seen ++ [e.born]).toArray c) := by
            have e1 : w1.heap = w.heap := by rcases z2 with rfl | rfl <;> rfl
            simp [Go.ChangeMaps.setBlock, e1]
          refine ⟨ρ, .tup [.kb true, svConst e.key, svConst e.val], _, by simp [V.val, valL, val_svConst], ?_, fun _ _ => rfl, by simp, by simp [below, belowL, below_svConst], hk2⟩
          have henv : w1.os = w.os ∧ w1.tape = w.tape ∧ w1.output = w.output ∧ w.drawn ≤ w1.drawn := by rcases z2 with rfl | rfl <;> exact ⟨rfl, rfl, rfl, by first | exact Nat.le_refl _ | exact Nat.le_succ _⟩
          refine h.s.set hk1 rfl rfl hb' ⟨hheap, henv.1, henv.2.1, henv.2.2⟩ ⟨b, hb', ?_⟩ (by simp) ?_
          · rw [hheap]; simp [hlt, hbm]
          · intro m s seen' st he; cases he; exact h.s.sci n _ _ _ _ hk1
      · exact hv.elim
    · exact hv.elim
  · exact hv.elim

theorem s_entry (h : At P ρ H g w t a) {x : Operand} {y : Opd} (hx : cOpd x = some y) (hv : vcOp P (.entry y) t H K) :
    GoodRes1 P ρ H K w ((do pure (Next.value (← Instr.entry (a.eval x))) : Sem Next).run P w) := by
  simp only [vcOp, evK_eq] at hv
  rw [h.eq hx]
  unfold vcEntry at hv
  split at hv
  · rename_i n e0
    rw [e0]
    rw [objK_eq] at hv
    split at hv
    · rename_i j since seen st hk
      obtain ⟨hk1, b, hb', hh⟩ := iter_of h.s hk
      rw [objK_eq] at hv
      split at hv
      · rename_i es c hkm
        obtain ⟨hkm1, bm, hbm, hhm⟩ := map_of h.s hkm
        obtain ⟨s, e, h1, h2, h3, h4⟩ := hv
        simp only [Option.bind_some, hbm] at hh
        have hback : seen.toArray.back? = some s := by rw [Array.back?_eq_getElem?]; rw [List.getLast?_eq_getElem?] at h1; simpa using h1
        have hfind : es.toArray.find? (·.born == s) = some e := by simpa using h2
        refine GoodRes1.val (v := .tuple #[e.key, e.val]) ?_ (by simpa [V.val, valL, val_svConst] using Here.here (ρ := ρ) (K := K) (sv := .tup [svConst e.key, svConst e.val]) (by simp [below, belowL, below_svConst]) h4)
        subst h3
        simp [V.val, hb', Instr.entry, getObj, Sem.run, hh, hhm, hback, hfind]
      · exact hv.elim
    · exact hv.elim
  · exact hv.elim
end
end Go.V

namespace Go.V
open Go

section
variable {P : Program} {ρ : Rho} {H : List SO} {g : Fr} {w : World} {K : SV → List SO → Prop} {t : List SV} {a : Act} {o : Oper}

theorem run_typeInfo {t : TypeId} {i : TypeInfo} (h : P.info? t = some i) : (typeInfo t).run P w = .ok i w := by simp [typeInfo, h]

/-- 'append' where the second operand's elements are known. -/
theorem run_append_any {ts : Array TypeId} {st xt el ty : TypeId} {i : TypeInfo} {z : Value} (ht0 : ts[0]? = some st) (ht1 : ts[1]? = some xt) (hs : P.underlying st = some (.slice el)) {dx : TypeDesc} (hx : P.underlying xt = some dx) (hdx : ∀ k, dx ≠ .int k)
    (hi : P.info? el = some i) (hz : i.zero = some z) (base : Option Addr) (sLen sCap : Nat) (y : Value) (n : Nat) (news : List Value)
    (hlen : ∀ w', (Builtin.lenOf y).run P w' = .ok n w') (hfirst : ∀ w', w'.heap = w.heap → (Builtin.firstCells i.size n y).run P w' = .ok news.toArray w') :
    (sLen + n ≤ sCap → (Builtin.append_ ts ty #[.slice base sLen sCap, y]).run P w =
      (match base with | some b => (storeCells (b.add (sLen * i.size)) news).run P w | none => .ok () w).andThen fun _ w' => .ok (.slice base (sLen + n) sCap) w') ∧
    (sCap < sLen + n → (sLen + n) * i.bytes ≤ 1099511627776 → ((sLen + n : Nat) : Int) ≤ 9223372036854775807 → ∀ olds : List Value, (∀ w', w'.heap = w.heap → (Builtin.firstCells i.size sLen (.slice base sLen sCap)).run P w' = .ok olds.toArray w') →
      (Builtin.append_ ts ty #[.slice base sLen sCap, y]).run P w =
      .ok (.slice (some ⟨w.heap.size, 0, none⟩) (sLen + n) (grownCap w (sLen + n) sCap el)) (w.drew.alloc (.cells (olds.toArray ++ news.toArray ++ Builtin.zeroCells z.cells (grownCap w (sLen + n) sCap el - (sLen + n))) el))) := by
  have hsz : ∀ w', (sizeOf el).run P w' = .ok i.size w' := fun w' => by simp [sizeOf, typeInfo, hi]
  have hzero : ∀ w', (zeroValue el).run P w' = .ok z w' := fun w' => by simp [zeroValue, typeInfo, hi, hz]
  have a0 : (#[Value.slice base sLen sCap, y] : Array Value)[0]? = some (.slice base sLen sCap) := rfl
  have a1 : (#[Value.slice base sLen sCap, y] : Array Value)[1]? = some y := rfl
  constructor
  · intro hle
    simp only [Builtin.append_, ht0, ht1, a0, a1, Sem.run_bind, run_und hs, run_und hx, hsz, Result.andThen_ok, Sem.run_pure, hlen, hfirst w rfl, hle, if_true, Bool.false_eq_true, if_false, Bool.not_false]
    cases base <;> simp
  · intro hlt hb h63 olds hold
    have h1 : ¬ (sLen + n ≤ sCap) := by omega
    have h2 : ¬ (((sLen + n : Nat) : Int) > IntKind.i64.max) := by
      have e : IntKind.i64.max = 9223372036854775807 := by decide
      rw [e]; omega
    have h3 : ¬ (Builtin.nextslicecap (sLen + n) sCap * i.bytes > 2 ^ 48) := by
      have := growslice_fits (bytes := i.bytes) hlt (by omega); omega
    simp only [Builtin.append_, ht0, ht1, a0, a1, Sem.run_bind, run_und hs, run_und hx, hsz, hzero, Result.andThen_ok, Sem.run_pure, hlen, h1, if_false, Bool.false_eq_true, Bool.not_false, run_typeInfo hi, h2, false_and, h3, if_true, run_choose, Question.forced, run_askRoom, World.drew_eq, hfirst w.drew rfl, hold w.drew rfl, newRow, run_newObj, grownCap, World.alloc_eq]
    simp

/-! ### Append -/
theorem first_of {sz n : Nat} {adr : Option Addr} {ys : List Value} {l c : Nat} (h : ElemsAt w adr ys) (hl : ys.length = n * sz) (w' : World) (hw : w'.heap = w.heap) :
    (Builtin.firstCells sz n (.slice adr l c)).run P w' = .ok ys.toArray w' := by
  rcases h with ⟨rfl, rfl⟩ | ⟨b, off, rfl, hc⟩
  · simp [Builtin.firstCells]
  · refine run_firstCells_some w' sz n _ l c ys hl fun j v hj => ?_
    rw [add_eq]
    have := hc j v hj
    simpa [World.cell?, hw] using this
theorem elems_of (hS : St ρ H g w) {sz : Nat} {v : SV} {ys : List Value} {m : Nat} (h : slElems H sz v = some (ys, m)) (hl : ys.length = m * sz) :
    (∀ w', (Builtin.lenOf (V.val ρ v)).run P w' = .ok m w') ∧ ∀ w', w'.heap = w.heap → (Builtin.firstCells sz m (V.val ρ v)).run P w' = .ok ys.toArray w' := by
  rcases slElems_spec hS h with ⟨adr, c, hv, hel⟩ | ⟨s, hv, h1, h2⟩
  · rw [hv]; exact ⟨fun w' => by simp [Builtin.lenOf], fun w' hw => first_of hel hl w' hw⟩
  · rw [hv]; subst h1
    refine ⟨fun w' => by simp [Builtin.lenOf], fun w' _ => ?_⟩
    have e : s.extract 0 s.size = s := by
      apply ByteArray.ext
      rw [ByteArray.data_extract]
      simp
    rw [h2]
    simp only [Builtin.firstCells, e, Sem.run_pure]
    congr 1
    apply Array.toList_inj.1; simp

theorem cellsOK_spec : ∀ {l : List Value}, cellsOK l = true → ∀ v ∈ l, v.oneCell' = true
  | [], _ => by simp
  | x :: l, h => by
    intro v hv
    have h2 : x.oneCell' = true ∧ cellsOK l = true := by
      cases x <;> simp_all [cellsOK, Value.oneCell']
    rcases List.mem_cons.1 hv with rfl | hv
    · exact h2.1
    · exact cellsOK_spec h2.2 v hv

/-- An entry is given up. -/
theorem St.giveUp (h : St ρ H g w) (k : Nat) : St ρ (H.set k .gone) g w := by
  have hget : ∀ (j : Nat) s, (H.set k .gone)[j]? = some s → s = .gone ∨ H[j]? = some s := by
    intro j s hj
    by_cases hjk : k = j
    · subst hjk
      rw [List.getElem?_set_self'] at hj
      cases hH : H[k]? <;> simp [hH] at hj
      exact .inl hj.symm
    · rw [List.getElem?_set_ne hjk] at hj; exact .inr hj
  have hown : ∀ {s : SO}, s.owned = true → s ≠ .gone := by rintro _ h1 rfl; simp [SO.owned] at h1
  have hor : ∀ {s : SO}, s.owned = true ∨ s.isRo = true → s ≠ .gone := by rintro _ h1 rfl; simp [SO.owned, SO.isRo] at h1
  constructor
  · intro j s hj
    rcases hget j s hj with rfl | h1
    · trivial
    · exact h.ent j s h1
  · intro i j si sj b hij hi hj ho hoj hb
    exact h.dis i j si sj b hij ((hget i si hi).resolve_left (hown ho)) ((hget j sj hj).resolve_left (hor hoj)) ho hoj hb
  · intro i j si gh b hi ho hj hb
    exact h.gho i j si gh b ((hget i si hi).resolve_left (hown ho)) ho ((hget j _ hj).resolve_left (by simp)) hb
  · exact h.env
  · exact h.frm
  · intro i si b hi ho hb
    exact h.frd i si b ((hget i si hi).resolve_left (hown ho)) ho hb
  · intro j l e hj
    simpa using h.scp j l e ((hget j _ hj).resolve_left (by simp))
  · intro j m s seen st hj
    simpa using h.sci j m s seen st ((hget j _ hj).resolve_left (by simp))

/-- The row of a nil slice. -/
theorem St.nilRow (h : St ρ H g w) (e : TypeId) : St (upd ρ H.length none) (H ++ [.arr [] e]) g w := by
  have hget : ∀ (j : Nat) s, (H ++ [SO.arr [] e])[j]? = some s → (j < H.length ∧ H[j]? = some s) ∨ (j = H.length ∧ s = SO.arr [] e) := by
    intro j s hj
    rcases Nat.lt_trichotomy j H.length with h1 | h1 | h1
    · rw [List.getElem?_append_left h1] at hj; exact .inl ⟨h1, hj⟩
    · subst h1; rw [List.getElem?_append_right (by simp)] at hj; simp at hj; exact .inr ⟨rfl, hj.symm⟩
    · rw [List.getElem?_eq_none (by simp; omega)] at hj; cases hj
  constructor
  · intro j s hj
    rcases hget j s hj with ⟨h1, h2⟩ | ⟨rfl, rfl⟩
    · refine entryOK_congr h1 (h.ent j s h2) (fun i hi => upd_lt ρ _ hi) ?_ ?_ (fun b o _ hb _ _ => hb)
      · rintro l e rfl; exact h.scp j l e h2
      · rintro m s' seen st rfl; exact h.sci j m s' seen st h2
    · exact .inl ⟨upd_same _ _ _, rfl⟩
  · intro i j si sj b hij hi' hj' ho hoj hb
    rcases hget i si hi' with ⟨h1, h2⟩ | ⟨rfl, rfl⟩
    · rw [upd_lt ρ _ h1] at hb
      rcases hget j sj hj' with ⟨h3, h4⟩ | ⟨rfl, rfl⟩
      · rw [upd_lt ρ _ h3]; exact h.dis i j si sj b hij h2 h4 ho hoj hb
      · rw [upd_same]; simp
    · rw [upd_same] at hb; cases hb
  · intro i j si gh b hi' ho hj' hb
    rcases hget i si hi' with ⟨h1, h2⟩ | ⟨rfl, rfl⟩
    · rw [upd_lt ρ _ h1] at hb
      rcases hget j _ hj' with ⟨h3, h4⟩ | ⟨_, h4⟩
      · exact h.gho i j si gh b h2 ho h4 hb
      · cases h4
    · rw [upd_same] at hb; cases hb
  · exact h.env
  · exact h.frm
  · intro i si b hi' ho hb
    rcases hget i si hi' with ⟨h1, h2⟩ | ⟨rfl, rfl⟩
    · rw [upd_lt ρ _ h1] at hb; exact h.frd i si b h2 ho hb
    · rw [upd_same] at hb; cases hb
  · intro j l e2 hj
    rcases hget j _ hj with ⟨h1, h2⟩ | ⟨_, h2⟩
    · exact belowL_mono (by simp) l (h.scp j l e2 h2)
    · cases h2
  · intro j m s' seen st hj
    rcases hget j _ hj with ⟨h1, h2⟩ | ⟨_, h2⟩
    · have := h.sci j m s' seen st h2; simp; omega
    · cases h2

theorem zeroCells_size (z : Array Value) (n : Nat) : (Builtin.zeroCells z n).size = n * z.size := by simp [Builtin.zeroCells]

theorem s_append (h : At P ρ H g w t a) {e st xt ty : TypeId} {ts : Array TypeId} {sz by' : Nat} {zs : List Value} {lk : LK} {x y : Operand} {x' y' : Opd} (ht0 : ts[0]? = some st) (ht1 : ts[1]? = some xt) (hs : P.underlying st = some (.slice e)) (hk : lenKind P xt = some lk)
    (hsz : sizeT P e = some sz) (hby : bytesT P e = some by') (hzs : zeroCellsT P e = some zs) (h0 : sz ≠ 0) (hzl : zs.length = sz) (hb0 : by' ≠ 0) (hx : cOpd x = some x') (hy : cOpd y = some y') (hv : vcOp P (.append e sz by' zs x' y') t H K) :
    GoodRes P ρ H g K ((do pure (Next.value (← Builtin.append_ ts ty #[a.eval x, a.eval y])) : Sem Next).run P w) := by
  simp only [vcOp, evK_eq] at hv
  rw [h.eq hx, h.eq hy]
  have hbx := h.bel hx
  generalize ev t x' = u at *
  generalize ev t y' = v at *
  cases hi : P.info? e with
  | none => simp [sizeT, hi] at hsz
  | some i =>
  simp [sizeT, hi] at hsz
  simp [bytesT, hi] at hby
  simp [zeroCellsT, zeroT, hi] at hzs
  obtain ⟨z, hz, hzs⟩ := hzs
  obtain ⟨dx, hdx, hni⟩ : ∃ dx, P.underlying xt = some dx ∧ ∀ k, dx ≠ .int k := by
    unfold lenKind at hk
    cases hd : P.underlying xt with
    | none => simp [hd] at hk
    | some d => exact ⟨d, rfl, fun k e => by subst e; simp [hd] at hk⟩
  have hzz : z.cells.size = sz := by rw [← hzl, ← hzs]; simp
  unfold vcAppend at hv
  cases hel : slElems H sz v with
  | none => rw [hel] at hv; exact hv.elim
  | some q =>
  obtain ⟨ys, m⟩ := q
  rw [hel] at hv
  simp only at hv
  have grow : ∀ (base : Option Addr) (n c : Nat) (olds : List Value), V.val ρ u = .slice base n c → ElemsAt w base olds → olds.length = n * sz → ys.length = m * sz → (n + m) * by' ≤ 1099511627776 → c < n + m →
      (∀ (zs' : List Value) (c' : Nat), n + m ≤ c' → zs'.length = c' * sz → zs'.take ((n + m) * sz) = olds ++ ys → Res ρ H g K (.slice (some ⟨w.heap.size, 0, none⟩) (n + m) c') (w.drew.alloc (.cells zs'.toArray e))) →
      GoodRes P ρ H g K ((do pure (Next.value (← Builtin.append_ ts ty #[V.val ρ u, V.val ρ v])) : Sem Next).run P w) := by
    intro base n c olds e1 ho ho2 hl hb hc hres
    obtain ⟨l1, l2⟩ := elems_of (P := P) h.s hel hl
    have hnm : n + m ≤ (n + m) * by' := Nat.le_mul_of_pos_right _ (by omega)
    have := (run_append_any (P := P) (w := w) (ty := ty) ht0 ht1 hs hdx hni hi hz base n c (V.val ρ v) m ys l1 (by rw [hsz]; exact l2)).2 hc (by rw [hby]; exact hb) (by omega) olds (by rw [hsz]; exact fun w' hw => first_of ho ho2 w' hw)
    rw [e1]
    refine GoodRes.val this ?_
    have hge := grownCap_ge w (n + m) c e
    have key := hres (olds ++ ys ++ (Builtin.zeroCells z.cells (grownCap w (n + m) c e - (n + m))).toList) (grownCap w (n + m) c e) hge ?_ ?_
    · have e5 : (olds ++ ys ++ (Builtin.zeroCells z.cells (grownCap w (n + m) c e - (n + m))).toList).toArray = olds.toArray ++ ys.toArray ++ Builtin.zeroCells z.cells (grownCap w (n + m) c e - (n + m)) := by simp
      rw [e5] at key; exact key
    · simp only [List.length_append, Array.length_toList, zeroCells_size, hzz, ho2, hl]
      rw [← Nat.add_mul, ← Nat.add_mul]; congr 1; omega
    · rw [List.take_append_of_le_length (by simp [ho2, hl, Nat.add_mul])]
      exact List.take_of_length_le (by simp [ho2, hl, Nat.add_mul])
  have fresh : ∀ (H1 : List SO) (ρ1 : Rho), St ρ1 H1 g w → H1.length = H.length → (∀ k, k < H.length → ρ1 k = ρ k) → ∀ (zs' : List Value) (n c' : Nat), K (.sl H.length 0 n c') (H1 ++ [.arr zs' e]) →
      Res ρ H g K (.slice (some ⟨w.heap.size, 0, none⟩) n c') (w.drew.alloc (.cells zs'.toArray e)) := by
    intro H1 ρ1 hS1 hl1 hr1 zs' n c' hK
    have := Res.alloc (K := K) (v := .slice (some ⟨w.heap.size, 0, none⟩) n c') (w' := w.drew.alloc (.cells zs'.toArray e)) (hS1.heap (w' := w.drew) ⟨rfl, rfl, rfl, rfl, Nat.le_succ _⟩) (so := .arr zs' e) (o := .cells zs'.toArray e) (sv := .sl H1.length 0 n c') ⟨rfl, rfl, rfl, rfl, Nat.le_refl _⟩ rfl
      (.inr ⟨w.heap.size, (0, 0), by rw [upd_same]; rfl, heap_push_new (w := w.drew) rfl, .inl rfl⟩) (by simp) (by simp) (by simp [V.val, upd_same]) (by simp [below]) (by rw [hl1]; exact hK)
    obtain ⟨ρ', sv, H', a1, a2, a3, a4, a5, a6⟩ := this
    exact ⟨ρ', sv, H', a1, a2, fun k hk => (a3 k (by omega)).trans (hr1 k hk), by omega, a5, a6⟩
  split at hv
  · rename_i k off n c
    rw [objK_eq] at hv
    cases hobj : obj H k <;> rw [hobj] at hv <;> try exact hv.elim
    rename_i xs e'
    obtain ⟨⟨⟨hnc, hlen, rfl⟩, ⟨hyl, hy1⟩, hbd⟩, hv⟩ := hv
    have hk' : H[k]? = some (.arr xs e') := by rw [← hobj]; exact obj_some (by simp [hobj])
    have hkl : k < H.length := (List.getElem?_eq_some_iff.1 hk').1
    have helx : slElems H sz (.sl k off n c) = some ((xs.drop off).take (n * sz), n) := by simp [slElems, hobj]
    have hnl : n * sz ≤ c * sz := Nat.mul_le_mul_right _ hnc
    have hlx : ((xs.drop off).take (n * sz)).length = n * sz := by simp; omega
    have hEl : ElemsAt w ((ρ k).map fun b => ⟨b, off, none⟩) ((xs.drop off).take (n * sz)) := by
      rcases slElems_spec h.s helx with ⟨adr, cc, hv, hel⟩ | ⟨s, hv, _⟩
      · simp only [V.val] at hv; cases hv; exact hel
      · simp [V.val] at hv
    simp only [setHK_eq, newHK_eq, List.length_set] at hv
    by_cases hfit : n + m ≤ c
    · -- in place
      obtain ⟨l1, l2⟩ := elems_of (P := P) h.s hel hyl
      have hrun := (run_append_any (P := P) (w := w) (ty := ty) ht0 ht1 hs hdx hni hi hz ((ρ k).map fun b => ⟨b, off, none⟩) n c (V.val ρ v) m ys l1 (by rw [hsz]; exact l2)).1 hfit
      have hent := h.s.ent k _ hk'
      rcases hent with ⟨hr0, hx0⟩ | ⟨b, fr, hb, hh, hfr⟩
      · have hc0 : c * sz = 0 := by rw [hx0] at hlen; simp at hlen; omega
        have hm0 : m = 0 := by rcases Nat.mul_eq_zero.1 hc0 with h1 | h1 <;> omega
        have hn0 : n = 0 := by rcases Nat.mul_eq_zero.1 hc0 with h1 | h1 <;> omega
        have hy0 : ys = [] := by rw [hm0] at hyl; simpa using hyl
        subst hx0
        have := hv [] off c ⟨hfit, hlen, by subst hm0; simp [hy0, hn0]⟩
        simp only [hr0, Option.map_none, Result.andThen_ok] at hrun
        refine GoodRes.val (w' := w) (v := .slice none (n + m) c) (by simp only [V.val, hr0, Option.map_none]; exact hrun) ?_
        refine ⟨upd ρ H.length none, .sl H.length off (n + m) c, H.set k .gone ++ [.arr [] e'], ?_, ?_, fun j hj => upd_lt ρ _ hj, by simp, by simp [below], this⟩
        · simp [V.val, upd_same]
        · have := (h.s.giveUp k).nilRow e'
          simpa using this
      · have hnms : (n + m) * sz ≤ c * sz := Nat.mul_le_mul_right _ hfit
        rw [Nat.add_mul] at hnms
        obtain ⟨w', c', r1, r2, r3, r4⟩ := run_storeCells (P := P) (o := off + n * sz) ys 0 xs.toArray w hh (cellsOK_spec hy1) (by simp; omega) (by simpa using hfr)
        simp only [hb, Option.map_some, add_eq, hsz, r1, Result.andThen_ok] at hrun
        have hl' : c'.toList.length = xs.length := by simpa using r3
        have hcell : (c'.toList.drop off).take ((n + m) * sz) = (xs.drop off).take (n * sz) ++ ys := by
          apply List.ext_getElem?
          intro j
          rw [Nat.add_mul]
          by_cases j1 : j < n * sz
          · rw [List.getElem?_take_of_lt (by omega), List.getElem?_drop, List.getElem?_append_left (by omega), List.getElem?_take_of_lt j1, List.getElem?_drop]
            have := r4 (off + j)
            rw [if_neg (by omega)] at this
            simpa using this
          · rw [List.getElem?_append_right (by omega), hlx]
            by_cases j2 : j < n * sz + m * sz
            · rw [List.getElem?_take_of_lt (by omega), List.getElem?_drop]
              have := r4 (off + j)
              rw [if_pos (by omega)] at this
              rw [show off + j - (off + n * sz + 0) = j - n * sz by omega] at this
              simpa using this
            · rw [List.getElem?_eq_none (by simp; omega), List.getElem?_eq_none (by omega)]
        have := hv c'.toList off c ⟨hfit, by omega, hcell⟩
        refine GoodRes.val (w' := w') (v := .slice (some ⟨b, off, none⟩) (n + m) c) (by simp only [V.val, hb, Option.map_some]; exact hrun) ?_
        have hlt := (Array.getElem?_eq_some_iff.1 hh).1
        have hS1 : St ρ (H.set k (.arr c'.toList e')) g w' := h.s.set hk' rfl rfl hb r2 (.inr ⟨b, fr, hb, by rw [r2.1]; simp [hlt], hfr.imp id (by omega)⟩) (by simp) (by simp)
        have hS2 := hS1.move (k := k) (so := .arr c'.toList e') (by simp [hkl]) rfl
        refine ⟨upd ρ H.length (ρ k), .sl H.length off (n + m) c, H.set k .gone ++ [.arr c'.toList e'], by simp [V.val, upd_same, hb], ?_, fun j hj => upd_lt ρ _ hj, by simp, by simp [below], this⟩
        simpa using hS2
    · exact grow ((ρ k).map fun b => ⟨b, off, none⟩) n c _ rfl hEl hlx hyl hbd (by omega) fun zs' c' q1 q2 q3 => by
        have := hv zs' 0 c' ⟨q1, by omega, by simpa using q3⟩
        exact fresh _ ρ (h.s.giveUp k) (by simp) (fun _ _ => rfl) zs' (n + m) c' this
  · obtain ⟨⟨hyl, hbd⟩, hv⟩ := hv
    simp only [newHK_eq] at hv
    by_cases hm : m = 0
    · subst hm
      obtain ⟨l1, l2⟩ := elems_of (P := P) h.s hel hyl
      have hrun := (run_append_any (P := P) (w := w) (ty := ty) ht0 ht1 hs hdx hni hi hz none 0 0 (V.val ρ v) 0 ys l1 (by rw [hsz]; exact l2)).1 (by omega)
      have := hv [] 0 ⟨by omega, by simp, by simp at hyl; simp [hyl]⟩
      refine GoodRes.val (w' := w) (v := .slice none 0 0) (by simpa [V.val] using hrun) ?_
      exact ⟨upd ρ H.length none, .sl H.length 0 0 0, H ++ [.arr [] e], by simp [V.val, upd_same], h.s.nilRow e, fun j hj => upd_lt ρ _ hj, by simp, by simp [below], this⟩
    · refine grow none 0 0 [] rfl (.inl ⟨rfl, rfl⟩) (by simp) hyl (by simpa using hbd) (by omega) fun zs' c' q1 q2 q3 => ?_
      have := hv zs' c' ⟨by omega, by omega, by simpa using q3⟩
      exact fresh H ρ h.s rfl (fun _ _ => rfl) zs' (0 + m) c' (by simpa using this)
  · exact hv.elim
end
end Go.V

namespace Go.V
open Go

section
variable {P : Program} {ρ : Rho} {H : List SO} {g : Fr} {w : World} {K : SV → List SO → Prop} {t : List SV} {a : Act} {o : Oper}

/-! ### Blocks under other names -/
theorem nodup_spec : ∀ {σ : List Nat}, nodup σ = true → ∀ (i j k : Nat), σ[i]? = some k → σ[j]? = some k → i = j
  | [], _ => by simp
  | x :: σ, h => by
    simp only [nodup, Bool.and_eq_true, Bool.not_eq_true', List.contains_eq_mem, decide_eq_false_iff_not] at h
    intro i j k hi hj
    cases i with
    | zero =>
      cases j with
      | zero => rfl
      | succ j => simp at hi hj; subst hi; exact absurd (List.mem_of_getElem? hj) h.1
    | succ i =>
      cases j with
      | zero => simp at hi hj; subst hj; exact absurd (List.mem_of_getElem? hi) h.1
      | succ j => simp at hi hj; rw [nodup_spec h.2 i j k hi hj]

theorem okσ_spec {n m : Nat} {σ : List Nat} (h : okσ n m σ = true) : σ.length = n ∧ (∀ (i j k : Nat), σ[i]? = some k → σ[j]? = some k → i = j) ∧ ∀ k ∈ σ, k < m := by
  simp only [okσ, Bool.and_eq_true, beq_iff_eq, List.all_eq_true, decide_eq_true_eq] at h
  exact ⟨h.1.1, nodup_spec h.1.2, h.2⟩

theorem sub_lt {σ : List Nat} {n m k : Nat} (hl : σ.length = n) (hm : ∀ k ∈ σ, k < m) (hk : k < n) : sub σ n m k < m := by
  unfold sub
  rw [List.getElem?_eq_getElem (by omega)]
  exact hm _ (List.getElem_mem _)
theorem sub_get {σ : List Nat} {n m k j : Nat} (h : σ[k]? = some j) : sub σ n m k = j := by simp [sub, h]
theorem sub_some {σ : List Nat} {n m k : Nat} (hl : σ.length = n) (hk : k < n) : σ[k]? = some (sub σ n m k) := by
  simp [sub, List.getElem?_eq_getElem (show k < σ.length by omega)]
theorem sub_ge {σ : List Nat} {n m k : Nat} (hl : σ.length = n) (hk : n ≤ k) : sub σ n m k = m + (k - n) := by
  simp [sub, List.getElem?_eq_none (show σ.length ≤ k by omega)]

mutual
theorem below_of_ren {s : Nat → Nat} {n m : Nat} (h : ∀ k, s k < m → k < n) : ∀ (v : SV), below m (ren s v) = true → below n v = true
  | .raw _ | .kb _ => fun _ => rfl
  | .ptr k _ | .ptx k _ | .sl k _ _ _ | .mp k => fun hb => by
    simp only [ren, below, decide_eq_true_eq] at hb ⊢
    exact h _ hb
  | .agg l | .tup l => fun hb => by
    simp only [ren, below] at hb ⊢
    exact belowL_of_ren h l hb
  | .fn _ l => fun hb => by
    simp only [ren, below] at hb ⊢
    exact belowL_of_ren h l hb
  | .ifc _ v => fun hb => by
    simp only [ren, below] at hb ⊢
    exact below_of_ren h v hb
theorem belowL_of_ren {s : Nat → Nat} {n m : Nat} (h : ∀ k, s k < m → k < n) : ∀ (l : List SV), belowL m (renL s l) = true → belowL n l = true
  | [] => fun _ => rfl
  | v :: l => fun hb => by
    simp only [renL, belowL, Bool.and_eq_true] at hb ⊢
    exact ⟨below_of_ren h v hb.1, belowL_of_ren h l hb.2⟩
end

theorem renH_get (s : Nat → Nat) : ∀ (r : List SO) (i : Nat), (renH s r)[i]? = (r[i]?).map (·.ren s)
  | [], i => by simp [renH]
  | o :: r, 0 => by simp [renH]
  | o :: r, i + 1 => by simp [renH, renH_get s r i]
theorem renS_get (s : Nat → Nat) : ∀ (r : List SO) (i : Nat), (renS s r)[i]? = (r[i]?).map fun o => strip (o.ren s)
  | [], i => by simp [renS]
  | o :: r, 0 => by simp [renS]
  | o :: r, i + 1 => by simp [renS, renS_get s r i]
theorem renS_len (s : Nat → Nat) : ∀ (r : List SO), (renS s r).length = r.length
  | [] => rfl
  | o :: r => by simp [renS, renS_len s r]
theorem pickH_get (H : List SO) : ∀ (r : List SO) (σ : List Nat) (i : Nat) (o : SO) (k : Nat), r[i]? = some o → σ[i]? = some k → (pickH H r σ)[i]? = some (asked o (obj H k))
  | [], _, _, _, _, h, _ => by simp at h
  | _ :: _, [], _, _, _, _, h => by simp at h
  | x :: r, y :: σ, 0, o, k, h, h' => by simp at h h'; subst h h'; simp [pickH]
  | x :: r, y :: σ, i + 1, o, k, h, h' => by simp at h h'; simpa [pickH] using pickH_get H r σ i o k h h'

/-- The entry in the caller's list that stands behind one of the callee's. -/
theorem behind {σ : List Nat} {H0 : List SO} {s : Nat → Nat} (hp : pickH H H0 σ = renH s H0) (hl : σ.length = H0.length) {i : Nat} {so : SO} (hi : H0[i]? = some so) :
    ∃ k, σ[i]? = some k ∧ asked so (obj H k) = so.ren s := by
  have hi' := (List.getElem?_eq_some_iff.1 hi).1
  have h1 : σ[i]? = some σ[i] := List.getElem?_eq_getElem (by omega)
  have h2 := pickH_get H H0 σ i so _ hi h1
  rw [hp, renH_get, hi] at h2
  simp at h2
  exact ⟨_, h1, h2.symm⟩

theorem asked_eq (a b : SO) : asked a b = b ∨ ∃ xs e, a.isRo = true ∧ b = .arr xs e ∧ asked a b = .ro xs e := by
  cases a <;> cases b <;> simp [asked, SO.isRo]
theorem ren_owned (s : Nat → Nat) (o : SO) : (o.ren s).owned = o.owned := by
  cases o <;> try rfl
  rename_i m _ _ _; cases m <;> rfl
theorem ren_isRo (s : Nat → Nat) (o : SO) : (o.ren s).isRo = o.isRo := by
  cases o <;> try rfl
  rename_i m _ _ _; cases m <;> rfl

theorem entryOK_ren (s : Nat → Nat) (k : Nat) (o : SO) : entryOK ρ w (s k) (o.ren s) ↔ entryOK (fun i => ρ (s i)) w k o := by
  cases o <;> simp only [SO.ren, entryOK, valL_ren]
  rename_i m _ _ _
  cases m <;> simp

/-- A part of the blocks, under names of its own. -/
theorem St.pick (h : St ρ H g w) {σ : List Nat} {H0 : List SO} (hp : pickH H H0 σ = renH (sub σ H0.length H.length) H0) (hσ : okσ H0.length H.length σ = true) :
    St (fun i => ρ (sub σ H0.length H.length i)) H0 g w := by
  obtain ⟨hl, hnd, hlt⟩ := okσ_spec hσ
  generalize hs : sub σ H0.length H.length = s at *
  have hsg : ∀ {i k : Nat}, σ[i]? = some k → s i = k := fun h => hs ▸ sub_get h
  have hinv : ∀ k, s k < H.length → k < H0.length := by
    intro k hk
    by_cases hk' : k < H0.length
    · exact hk'
    · rw [← hs, sub_ge hl (by omega)] at hk; omega
  -- an owned entry is owned by the caller; one that is read stands there as read or owned
  have own : ∀ {i : Nat} {so : SO}, H0[i]? = some so → (so.owned = true ∨ so.isRo = true) → ∃ so', H[s i]? = some so' ∧ (so.owned = true → so'.owned = true) ∧ (so'.owned = true ∨ so'.isRo = true) := by
    intro i so hi ho
    obtain ⟨k, hk, hk2⟩ := behind hp hl hi
    rw [hsg hk]
    have hng : obj H k ≠ .gone := by
      intro hg
      rcases asked_eq so (obj H k) with e | ⟨xs, e, e1, e2, _⟩
      · rw [e, hg] at hk2
        have h1 := ren_owned s so; have h2 := ren_isRo s so
        rw [← hk2] at h1 h2
        rcases ho with ho | ho
        · rw [ho] at h1; cases h1
        · rw [ho] at h2; cases h2
      · rw [hg] at e2; cases e2
    refine ⟨obj H k, obj_some hng, ?_, ?_⟩
    · intro ho'
      rcases asked_eq so (obj H k) with e | ⟨xs, e, e1, e2, _⟩
      · rw [← e, hk2, ren_owned, ho']
      · rw [e2]; rfl
    · rcases asked_eq so (obj H k) with e | ⟨xs, e, e1, e2, _⟩
      · rw [← e, hk2, ren_owned, ren_isRo]; exact ho
      · rw [e2]; exact .inl rfl
  constructor
  · intro i so hi
    obtain ⟨k, hk, hk2⟩ := behind hp hl hi
    rw [← entryOK_ren, hsg hk, ← hk2]
    by_cases hng : obj H k = .gone
    · rcases asked_eq so (obj H k) with e | ⟨xs, e, e1, e2, _⟩
      · rw [e, hng]; trivial
      · rw [hng] at e2; cases e2
    · have := h.ent k _ (obj_some hng)
      rcases asked_eq so (obj H k) with e | ⟨xs, e, e1, e2, e3⟩
      · rw [e]; exact this
      · rw [e3]; rw [e2] at this
        rcases this with ⟨a, b⟩ | ⟨b, fr, a, c, _⟩
        · exact .inl ⟨a, b⟩
        · exact .inr ⟨b, fr, a, c⟩
  · intro i j si sj b hij hi hj ho hoj hb
    obtain ⟨si', a1, a2, _⟩ := own hi (.inl ho)
    obtain ⟨sj', b1, _, b3⟩ := own hj hoj
    refine h.dis (s i) (s j) si' sj' b ?_ a1 b1 (a2 ho) b3 hb
    intro e
    obtain ⟨k, hk, _⟩ := behind hp hl hi
    obtain ⟨k', hk', _⟩ := behind hp hl hj
    rw [hsg hk, hsg hk'] at e
    subst e
    exact hij (hnd i j k hk hk')
  · intro i j si gh b hi ho hj hb
    obtain ⟨si', a1, a2, _⟩ := own hi (.inl ho)
    obtain ⟨k, hk, hk2⟩ := behind hp hl hj
    have hg : obj H k = .ghost gh := by
      rcases asked_eq (.ghost gh) (obj H k) with e | ⟨xs, e, e1, e2, _⟩
      · rw [← e, hk2]; rfl
      · simp [SO.isRo] at e1
    have := obj_some (H := H) (k := k) (by rw [hg]; simp)
    rw [hg] at this
    exact h.gho (s i) k si' gh b a1 (a2 ho) this hb
  · exact h.env
  · exact h.frm
  · intro i si b hi ho hb
    obtain ⟨si', a1, a2, _⟩ := own hi (.inl ho)
    exact h.frd (s i) si' b a1 (a2 ho) hb
  · intro i l e hi
    obtain ⟨k, hk, hk2⟩ := behind hp hl hi
    have hg : obj H k = .cells (renL s l) e := by
      rcases asked_eq (.cells l e) (obj H k) with e' | ⟨xs, e', e1, e2, _⟩
      · rw [← e', hk2]; rfl
      · simp [SO.isRo] at e1
    have := obj_some (H := H) (k := k) (by rw [hg]; simp)
    rw [hg] at this
    exact belowL_of_ren hinv l (h.scp k _ _ this)
  · intro i m s' seen st hi
    obtain ⟨k, hk, hk2⟩ := behind hp hl hi
    have hg : obj H k = .iter (some (s m)) s' seen st := by
      rcases asked_eq (.iter (some m) s' seen st) (obj H k) with e' | ⟨xs, e', e1, e2, _⟩
      · rw [← e', hk2]; rfl
      · simp [SO.isRo] at e1
    have := obj_some (H := H) (k := k) (by rw [hg]; simp)
    rw [hg] at this
    exact hinv _ (h.sci k _ _ _ _ this)

theorem St.other (h : St ρ H g w) {g' : Fr} (h0 : w.os = g'.os ∧ w.tape = g'.tape ∧ w.output = g'.out ∧ g'.dr ≤ w.drawn) (h1 : ∀ b o, g'.f b = some o → w.heap[b]? = some o) (h2 : ∀ (i : Nat) si b, H[i]? = some si → si.owned = true → ρ i = some b → g'.f b = none) : St ρ H g' w :=
  ⟨h.ent, h.dis, h.gho, h0, h1, h2, h.scp, h.sci⟩

theorem putH_spec (s : Nat → Nat) : ∀ (σ : List Nat) (H fs r : List SO), σ.length = fs.length → σ.length ≤ r.length → (∀ k ∈ σ, k < H.length) → nodup σ = true →
    (putH s H fs r σ).length = H.length + (r.length - σ.length) ∧
    ∀ (j : Nat) s', (putH s H fs r σ)[j]? = some s' →
      (∃ (i : Nat) (f o : SO), σ[i]? = some j ∧ fs[i]? = some f ∧ f.keeps = false ∧ r[i]? = some o ∧ s' = strip (o.ren s)) ∨
      (H[j]? = some s' ∧ ∀ (i : Nat) f, σ[i]? = some j → fs[i]? = some f → f.keeps = true) ∨
      (∃ (i : Nat) (o : SO), j = H.length + i ∧ r[σ.length + i]? = some o ∧ s' = strip (o.ren s))
  | [], H, fs, r, h1, h2, h3, h4 => by
    have hf : fs = [] := List.eq_nil_of_length_eq_zero h1.symm
    subst hf
    have e : putH s H [] r [] = H ++ renS s r := by simp [putH]
    rw [e]
    refine ⟨by simp [renS_len], fun j s' hj => ?_⟩
    by_cases hlt : j < H.length
    · rw [List.getElem?_append_left hlt] at hj
      exact .inr (.inl ⟨hj, by simp⟩)
    · rw [List.getElem?_append_right (by omega), renS_get] at hj
      cases hr : r[j - H.length]? with
      | none => rw [hr] at hj; cases hj
      | some o => rw [hr] at hj; cases hj; exact .inr (.inr ⟨j - H.length, o, by omega, by simpa using hr, rfl⟩)
  | k :: σ, H, [], r, h1, _, _, _ => by simp at h1
  | k :: σ, H, f :: fs, [], _, h2, _, _ => by simp at h2
  | k :: σ, H, f :: fs, o :: r, h1, h2, h3, h4 => by
    simp only [List.length_cons] at h1 h2
    have h4' : nodup σ = true ∧ k ∉ σ := by simp [nodup] at h4; exact ⟨h4.2, h4.1⟩
    have hk : k < H.length := h3 k (by simp)
    cases hf : f.keeps with
    | true =>
      have e : putH s H (f :: fs) (o :: r) (k :: σ) = putH s H fs r σ := by
        cases f <;> simp [SO.keeps] at hf <;> simp [putH]
      rw [e]
      obtain ⟨a, b⟩ := putH_spec s σ H fs r (by omega) (by omega) (fun k hk => h3 k (by simp [hk])) h4'.1
      refine ⟨by rw [a]; simp, fun j s' hj => ?_⟩
      rcases b j s' hj with ⟨i, f', o', c1, c2, c3, c4, c5⟩ | ⟨c1, c2⟩ | ⟨i, o', c1, c2, c3⟩
      · exact .inl ⟨i + 1, f', o', by simpa using c1, by simpa using c2, c3, by simpa using c4, c5⟩
      · refine .inr (.inl ⟨c1, fun i f' d1 d2 => ?_⟩)
        cases i with
        | zero => simp at d2; subst d2; exact hf
        | succ i => simp at d1 d2; exact c2 i f' d1 d2
      · exact .inr (.inr ⟨i, o', c1, by rw [List.length_cons, show σ.length + 1 + i = (σ.length + i) + 1 by omega]; simpa using c2, c3⟩)
    | false =>
      have e : putH s H (f :: fs) (o :: r) (k :: σ) = putH s (H.set k (strip (o.ren s))) fs r σ := by
        cases f <;> simp [SO.keeps] at hf <;> simp [putH]
      rw [e]
      obtain ⟨a, b⟩ := putH_spec s σ (H.set k (strip (o.ren s))) fs r (by omega) (by omega) (fun k hk => by simpa using h3 k (by simp [hk])) h4'.1
      refine ⟨by rw [a]; simp, fun j s' hj => ?_⟩
      rcases b j s' hj with ⟨i, f', o', c1, c2, c3, c4, c5⟩ | ⟨c1, c2⟩ | ⟨i, o', c1, c2, c3⟩
      · exact .inl ⟨i + 1, f', o', by simpa using c1, by simpa using c2, c3, by simpa using c4, c5⟩
      · by_cases hjk : j = k
        · subst hjk
          simp [hk] at c1
          exact .inl ⟨0, f, o, by simp, by simp, hf, by simp, c1.symm⟩
        · rw [List.getElem?_set_ne (Ne.symm hjk)] at c1
          refine .inr (.inl ⟨c1, fun i f' d1 d2 => ?_⟩)
          cases i with
          | zero => simp at d1; exact absurd d1.symm hjk
          | succ i => simp at d1 d2; exact c2 i f' d1 d2
      · exact .inr (.inr ⟨i, o', by simpa using c1, by rw [List.length_cons, show σ.length + 1 + i = (σ.length + i) + 1 by omega]; simpa using c2, c3⟩)

theorem strip_own {o : SO} (h : (strip o).owned = true) : strip o = o ∧ o.owned = true := by
  cases o <;> simp [strip, SO.owned] at h ⊢
theorem strip_isRo (o : SO) : (strip o).isRo = false := by cases o <;> rfl
theorem strip_cells {o : SO} {l : List SV} {e : TypeId} (h : strip o = .cells l e) : o = .cells l e := by
  cases o <;> simp [strip] at h ⊢; exact h
theorem strip_iter {o : SO} {m : Option Nat} {s : Nat} {se : List Nat} {st : Nat} (h : strip o = .iter m s se st) : o = .iter m s se st := by
  cases o <;> simp [strip] at h ⊢; exact h
theorem strip_ghost {o : SO} {gh : Nat → Option Obj} : strip o ≠ .ghost gh := by cases o <;> simp [strip]
theorem keeps_iff (o : SO) (h : o.owned = true) : o.keeps = false := by cases o <;> simp [SO.owned, SO.keeps] at h ⊢

/-! ### A nil slice as a slice of a block of its own -/
theorem St.nil (h : St ρ H g w) (e : TypeId) : St (upd ρ H.length none) (H ++ [.arr [] e]) g w := by
  have hget : ∀ (k : Nat) s, (H ++ [SO.arr [] e])[k]? = some s → (k < H.length ∧ H[k]? = some s) ∨ (k = H.length ∧ s = .arr [] e) := by
    intro k s hk
    rcases Nat.lt_trichotomy k H.length with h1 | h1 | h1
    · exact .inl ⟨h1, by rwa [List.getElem?_append_left h1] at hk⟩
    · subst h1; simp at hk; exact .inr ⟨rfl, hk.symm⟩
    · rw [List.getElem?_eq_none (by simp; omega)] at hk; cases hk
  constructor
  · intro k s hk
    rcases hget k s hk with ⟨h1, h2⟩ | ⟨h1, h2⟩
    · refine entryOK_congr h1 (h.ent k s h2) (fun j hj => upd_lt ρ _ hj) ?_ ?_ (fun b o' _ hb _ _ => hb)
      · rintro l e' rfl; exact h.scp k l e' h2
      · rintro m s' seen st rfl; exact h.sci k m s' seen st h2
    · subst h1 h2; exact .inl ⟨upd_same _ _ _, rfl⟩
  · intro i j si sj b hij hi hj ho hoj hb
    rcases hget i si hi with ⟨h1, h2⟩ | ⟨h1, h2⟩
    · rw [upd_lt ρ _ h1] at hb
      rcases hget j sj hj with ⟨h3, h4⟩ | ⟨h3, h4⟩
      · rw [upd_lt ρ _ h3]; exact h.dis i j si sj b hij h2 h4 ho hoj hb
      · subst h3; rw [upd_same]; simp
    · subst h1; rw [upd_same] at hb; cases hb
  · intro i j si gh b hi ho hj hb
    rcases hget i si hi with ⟨h1, h2⟩ | ⟨h1, h2⟩
    · rw [upd_lt ρ _ h1] at hb
      rcases hget j _ hj with ⟨h3, h4⟩ | ⟨h3, h4⟩
      · exact h.gho i j si gh b h2 ho h4 hb
      · cases h4
    · subst h1; rw [upd_same] at hb; cases hb
  · exact h.env
  · exact h.frm
  · intro i si b hi ho hb
    rcases hget i si hi with ⟨h1, h2⟩ | ⟨h1, h2⟩
    · rw [upd_lt ρ _ h1] at hb; exact h.frd i si b h2 ho hb
    · subst h1; rw [upd_same] at hb; cases hb
  · intro k l e' hk
    rcases hget k _ hk with ⟨h1, h2⟩ | ⟨h1, h2⟩
    · exact belowL_mono (by simp) l (h.scp k l e' h2)
    · cases h2
  · intro k m s seen st hk
    rcases hget k _ hk with ⟨h1, h2⟩ | ⟨h1, h2⟩
    · have := h.sci k m s seen st h2; simp; omega
    · cases h2
theorem St.cellsTo (h : St ρ H g w) {b : Nat} {l l' : List SV} {e : TypeId} (hb : H[b]? = some (.cells l e)) (hv : valL ρ l' = valL ρ l) (hbl : belowL H.length l' = true) : St ρ (H.set b (.cells l' e)) g w := by
  have hlt := (List.getElem?_eq_some_iff.1 hb).1
  have hget : ∀ (i : Nat) s, (H.set b (.cells l' e))[i]? = some s → (i ≠ b ∧ H[i]? = some s) ∨ (i = b ∧ s = .cells l' e) := by
    intro i s hi
    by_cases hib : i = b
    · subst hib; rw [List.getElem?_set_self hlt] at hi; cases hi; exact .inr ⟨rfl, rfl⟩
    · rw [List.getElem?_set_ne (Ne.symm hib)] at hi; exact .inl ⟨hib, hi⟩
  have old : ∀ (i : Nat) s, (H.set b (.cells l' e))[i]? = some s → ∃ s0, H[i]? = some s0 ∧ s0.owned = s.owned ∧ s0.isRo = s.isRo := by
    intro i s hi
    rcases hget i s hi with ⟨_, h2⟩ | ⟨rfl, rfl⟩
    · exact ⟨s, h2, rfl, rfl⟩
    · exact ⟨_, hb, rfl, rfl⟩
  constructor
  · intro k s hk
    rcases hget k s hk with ⟨_, h2⟩ | ⟨rfl, rfl⟩
    · exact h.ent k s h2
    · obtain ⟨b', h3, h4⟩ := h.ent k _ hb
      exact ⟨b', h3, by rw [hv]; exact h4⟩
  · intro i j si sj b' hij hi hj ho hoj hb'
    obtain ⟨s0, h1, h2, _⟩ := old i si hi
    obtain ⟨s1, h3, h4, h5⟩ := old j sj hj
    exact h.dis i j s0 s1 b' hij h1 h3 (h2 ▸ ho) (by rw [h4, h5]; exact hoj) hb'
  · intro i j si gh b' hi ho hj hb'
    obtain ⟨s0, h1, h2, _⟩ := old i si hi
    rcases hget j _ hj with ⟨_, h4⟩ | ⟨_, h4⟩
    · exact h.gho i j s0 gh b' h1 (h2 ▸ ho) h4 hb'
    · cases h4
  · exact h.env
  · exact h.frm
  · intro i si b' hi ho hb'
    obtain ⟨s0, h1, h2, _⟩ := old i si hi
    exact h.frd i s0 b' h1 (h2 ▸ ho) hb'
  · intro k l2 e2 hk
    rw [List.length_set]
    rcases hget k _ hk with ⟨_, h2⟩ | ⟨_, h2⟩
    · exact h.scp k l2 e2 h2
    · cases h2; exact hbl
  · intro k m s seen st hk
    rw [List.length_set]
    rcases hget k _ hk with ⟨_, h2⟩ | ⟨_, h2⟩
    · exact h.sci k m s seen st h2
    · cases h2
theorem setNil_spec {k : Nat} : ∀ {pos : List Nat} {l l' : List SV}, setNil k l pos = some l' → l'.length = l.length ∧ (∀ ρ : Rho, ρ k = none → valL ρ l' = valL ρ l) ∧ (∀ n, k < n → belowL n l = true → belowL n l' = true)
  | [], l, l', h => by simp only [setNil, Option.some.injEq] at h; subst h; exact ⟨rfl, fun _ _ => rfl, fun _ _ h => h⟩
  | p :: ps, l, l', h => by
    simp only [setNil] at h
    split at h
    · rename_i hp
      obtain ⟨h1, h2, h3⟩ := setNil_spec h
      refine ⟨by rw [h1]; simp, fun ρ hk => ?_, fun n hn hb => h3 n hn (belowL_set hb p (by simp [below, hn]))⟩
      rw [h2 ρ hk, valL_eq, valL_eq]
      apply List.ext_getElem?
      intro i
      by_cases hi : p = i
      · subst hi
        have hlt := (List.getElem?_eq_some_iff.1 hp).1
        simp only [List.getElem?_map, List.getElem?_set_self hlt, hp, Option.map_some, V.val, hk]; rfl
      · simp only [List.getElem?_map, List.getElem?_set_ne hi]
    · cases h
theorem setNilH_St {k : Nat} {x : SO} (hk : ρ k = none) : ∀ {posH : List (Nat × Nat)} {H H' : List SO}, setNilH k H posH = some H' → H.length = k → St ρ (H ++ [x]) g w → St ρ (H' ++ [x]) g w ∧ H'.length = k
  | [], H, H', h, hl, hS => by simp only [setNilH, Option.some.injEq] at h; subst h; exact ⟨hS, hl⟩
  | (b, p) :: ps, H, H', h, hl, hS => by
    simp only [setNilH] at h
    split at h
    · rename_i l e ho
      split at h
      · rename_i hp
        have hb : H[b]? = some (.cells l e) := by have := obj_some (H := H) (k := b) (by rw [ho]; simp); rw [ho] at this; exact this
        have hblt := (List.getElem?_eq_some_iff.1 hb).1
        have hb2 : (H ++ [x])[b]? = some (.cells l e) := by rw [List.getElem?_append_left hblt]; exact hb
        have hs : setNil k l [p] = some (l.set p (.sl k 0 0 0)) := by simp [setNil, hp]
        obtain ⟨_, h2, h3⟩ := setNil_spec hs
        have := hS.cellsTo hb2 (h2 ρ hk) (h3 _ (by simp; omega) (hS.scp b l e hb2))
        rw [List.set_append_left _ _ hblt] at this
        exact setNilH_St hk h (by simpa using hl) this
      · cases h
    · cases h

/-- A call by contract. -/
theorem sound_call1 {f : FuncId} {vs : List SV} (hS : St ρ H g w) (hb : belowL H.length vs = true) (hv : VCall1 P f vs H K) :
    Calls P f (valL ρ vs).toArray w fun e w' => ∃ v, e = .returned v ∧ Res ρ H g K v w' := by
  classical
  obtain ⟨σ, spec, ⟨hargs, hp, hσ⟩, hk⟩ := hv
  rename_i af Hf Post
  have hσ' := hσ
  obtain ⟨hl, hnd, hlt⟩ := okσ_spec hσ
  have hndb : nodup σ = true := by simp only [okσ, Bool.and_eq_true] at hσ'; exact hσ'.1.2
  have hS0 := hS.pick hp hσ
  generalize hs : sub σ Hf.length H.length = s at *
  have hsg : ∀ {i k : Nat}, σ[i]? = some k → s i = k := fun h => hs ▸ sub_get h
  have hinv : ∀ k, s k < H.length → k < Hf.length := by
    intro k hk
    by_cases hk' : k < Hf.length
    · exact hk'
    · rw [← hs, sub_ge hl (by omega)] at hk; omega
  have hslt : ∀ k, k < Hf.length → s k < H.length := fun k hk => hs ▸ sub_lt hl hlt hk
  have hsge : ∀ k, Hf.length ≤ k → s k = H.length + (k - Hf.length) := fun k hk => hs ▸ sub_ge hl hk
  -- the frame: everything that the callee does not own
  let gf : Fr := ⟨fun b => if (∃ (i : Nat) (si : SO), Hf[i]? = some si ∧ si.owned = true ∧ ρ (s i) = some b) then none else w.heap[b]?, w.os, w.tape, w.output, w.drawn⟩
  have hgf1 : ∀ b o, gf.f b = some o → w.heap[b]? = some o := by
    intro b o h
    by_cases hc : ∃ (i : Nat) (si : SO), Hf[i]? = some si ∧ si.owned = true ∧ ρ (s i) = some b
    · simp only [gf, if_pos hc] at h; cases h
    · simpa only [gf, if_neg hc] using h
  have hgf2 : ∀ (i : Nat) si b, Hf[i]? = some si → si.owned = true → ρ (s i) = some b → gf.f b = none := by
    intro i si b h1 h2 h3
    simp only [gf]; exact if_pos ⟨i, si, h1, h2, h3⟩
  have hgf3 : ∀ b, (∀ (i : Nat) si, Hf[i]? = some si → si.owned = true → ρ (s i) ≠ some b) → gf.f b = w.heap[b]? := by
    intro b h
    simp only [gf]
    exact if_neg (fun ⟨i, si, h1, h2, h3⟩ => h i si h1 h2 h3)
  have hSf := hS0.other (g' := gf) ⟨rfl, rfl, rfl, Nat.le_refl _⟩ hgf1 hgf2
  rw [hargs, valL_ren]
  have hbf : belowL Hf.length af = true := belowL_of_ren hinv af (hargs ▸ hb)
  refine Calls.mono (spec _ gf w hSf hbf) ?_
  rintro e w' ⟨ρ', v, Hf', rfl, hS', hρ', hlen, hbv, hpost⟩
  refine ⟨_, rfl, ?_⟩
  have hkk := hk v Hf' hpost
  rw [fK_eq, fHK_eq] at hkk
  obtain ⟨q1, q2⟩ := putH_spec s σ H Hf Hf' hl (by omega) hlt hndb
  -- the names behind the call
  let ρ2 : Rho := fun k => if k < H.length then ρ k else ρ' (Hf.length + (k - H.length))
  have hρ2lt : ∀ k, k < H.length → ρ2 k = ρ k := fun k hk => by simp only [ρ2, if_pos hk]
  have hρ2 : ∀ k, ρ2 (s k) = ρ' k := by
    intro k
    by_cases hk : k < Hf.length
    · rw [hρ2lt _ (hslt k hk), hρ' k hk]
    · rw [hsge k (by omega)]
      simp only [ρ2]
      rw [if_neg (by omega)]
      congr 1; omega
  have hH2 : (putH s H Hf Hf' σ).length = H.length + (Hf'.length - Hf.length) := by rw [q1, hl]
  have hs2 : ∀ k, k < Hf'.length → s k < (putH s H Hf Hf' σ).length := by
    intro k hk
    rw [hH2]
    by_cases hk' : k < Hf.length
    · have := hslt k hk'; omega
    · rw [hsge k (by omega)]; omega
  -- an entry of the new list: the callee's, or the caller's own
  have cases2 : ∀ (j : Nat) s', (putH s H Hf Hf' σ)[j]? = some s' →
      (∃ (i : Nat) (o : SO), s i = j ∧ Hf'[i]? = some o ∧ s' = strip (o.ren s)) ∨
      (j < H.length ∧ H[j]? = some s' ∧ ∀ (i : Nat) f, σ[i]? = some j → Hf[i]? = some f → f.keeps = true) := by
    intro j s' hj
    rcases q2 j s' hj with ⟨i, f, o, c1, c2, c3, c4, c5⟩ | ⟨c1, c2⟩ | ⟨i, o, c1, c2, c3⟩
    · exact .inl ⟨i, o, hsg c1, c4, c5⟩
    · exact .inr ⟨(List.getElem?_eq_some_iff.1 c1).1, c1, c2⟩
    · refine .inl ⟨Hf.length + i, o, ?_, by rw [hl] at c2; exact c2, c3⟩
      rw [hsge _ (by omega), c1]; omega
  -- what the caller keeps lies in the callee's frame
  have kept : ∀ (j : Nat) s' b, j < H.length → H[j]? = some s' → (∀ (i : Nat) f, σ[i]? = some j → Hf[i]? = some f → f.keeps = true) →
      (s'.owned = true ∨ s'.isRo = true) → ρ j = some b → gf.f b = w.heap[b]? := by
    intro j s' b _ hj hkeep ho hb
    refine hgf3 b fun i si h1 h2 h3 => ?_
    obtain ⟨k, e1, e2⟩ := behind hp hl h1
    have hk1 : obj H k ≠ .gone := by
      intro hg
      rw [hg] at e2
      have : (si.ren s).owned = true := by rw [ren_owned, h2]
      rw [← e2] at this
      cases si <;> simp [asked, SO.owned] at this
    have hko : (obj H k).owned = true := by
      have h5 := ren_owned s si
      rw [h2, ← e2] at h5
      rcases asked_eq si (obj H k) with e | ⟨xs, e, e3, e4, _⟩
      · rwa [e] at h5
      · rw [e4]; rfl
    have hkj : k ≠ j := by
      rintro rfl
      have := hkeep i si e1 h1
      rw [keeps_iff si h2] at this; cases this
    rw [hsg e1] at h3
    exact hS.dis k j _ _ b hkj (obj_some hk1) hj hko ho h3 hb
  have ghosts : ∀ (j : Nat) gh b o, H[j]? = some (.ghost gh) → gh b = some o → gf.f b = w.heap[b]? := by
    intro j gh b o hj hb
    refine hgf3 b fun i si h1 h2 h3 => ?_
    obtain ⟨k, e1, e2⟩ := behind hp hl h1
    have hko : (obj H k).owned = true := by
      have h5 := ren_owned s si
      rw [h2, ← e2] at h5
      rcases asked_eq si (obj H k) with e | ⟨xs, e, e3, e4, _⟩
      · rwa [e] at h5
      · rw [e4]; rfl
    rw [hsg e1] at h3
    have := hS.gho k j _ gh b (obj_some (by intro hg; rw [hg] at hko; cases hko)) hko hj h3
    rw [this] at hb; cases hb
  refine ⟨ρ2, ren s v, putH s H Hf Hf' σ, ?_, ?_, hρ2lt, by omega, below_ren s hs2 v hbv, hkk⟩
  · rw [val_ren]; exact (congrArg (fun r => V.val r v) (funext hρ2)).symm
  constructor
  · intro j s' hj
    rcases cases2 j s' hj with ⟨i, o, rfl, c2, rfl⟩ | ⟨c1, c2, c3⟩
    · have := hS'.ent i o c2
      have h3 : entryOK ρ2 w' (s i) (o.ren s) := by
        rw [entryOK_ren]
        have : (fun i => ρ2 (s i)) = ρ' := funext hρ2
        rw [this]; assumption
      cases o <;> first | exact h3 | trivial | (rename_i m _ _ _; cases m <;> exact h3)
    · refine entryOK_congr c1 (hS.ent j s' c2) (fun i hi => hρ2lt i hi) ?_ ?_ ?_
      · rintro l e rfl; exact hS.scp j l e c2
      · rintro m s'' seen st rfl; exact hS.sci j m s'' seen st c2
      · intro b o hng hb hor hgh
        refine hS'.frm b o ?_
        by_cases ho : s'.owned = true ∨ s'.isRo = true
        · rw [kept j s' b c1 c2 c3 ho (hor ho)]; exact hb
        · cases s' <;> simp [SO.owned, SO.isRo] at ho
          · rw [ghosts j _ b o c2 (hgh _ rfl)]; exact hb
          · exact absurd rfl hng
  · intro i j si sj b hij hi hj ho hoj hbi
    rcases cases2 i si hi with ⟨i', oi, rfl, c2, rfl⟩ | ⟨c1, c2, c3⟩ <;> rcases cases2 j sj hj with ⟨j', oj, rfl, d2, rfl⟩ | ⟨d1, d2, d3⟩
    · obtain ⟨e1, e2⟩ := strip_own ho
      rw [ren_owned] at e2
      have e3 : (oj.ren s).owned = true := by
        rcases hoj with h | h
        · exact (strip_own h).2
        · rw [strip_isRo] at h; cases h
      rw [ren_owned] at e3
      rw [hρ2] at hbi ⊢
      exact hS'.dis i' j' oi oj b (fun e => hij (by rw [e])) c2 d2 e2 (.inl e3) hbi
    · obtain ⟨e1, e2⟩ := strip_own ho
      rw [ren_owned] at e2
      rw [hρ2] at hbi
      rw [hρ2lt j d1]
      intro hbj
      have h1 := hS'.frd i' oi b c2 e2 hbi
      rw [kept j sj b d1 d2 d3 hoj hbj] at h1
      have h2 := entryOK_lt (hS.ent j sj d2) hoj hbj
      rw [Array.getElem?_eq_none_iff] at h1
      omega
    · have e3 : (oj.ren s).owned = true := by
        rcases hoj with h | h
        · exact (strip_own h).2
        · rw [strip_isRo] at h; cases h
      rw [ren_owned] at e3
      rw [hρ2lt i c1] at hbi
      rw [hρ2]
      intro hbj
      have h1 := hS'.frd j' oj b d2 e3 hbj
      rw [kept i si b c1 c2 c3 (.inl ho) hbi] at h1
      have h2 := entryOK_lt (hS.ent i si c2) (.inl ho) hbi
      rw [Array.getElem?_eq_none_iff] at h1
      omega
    · rw [hρ2lt i c1] at hbi
      rw [hρ2lt j d1]
      exact hS.dis i j si sj b hij c2 d2 ho hoj hbi
  · intro i j si gh b hi ho hj hbi
    rcases cases2 j _ hj with ⟨j', oj, rfl, d2, d3⟩ | ⟨d1, d2, d3⟩
    · exact absurd d3.symm strip_ghost
    · rcases cases2 i si hi with ⟨i', oi, rfl, c2, rfl⟩ | ⟨c1, c2, c3⟩
      · obtain ⟨e1, e2⟩ := strip_own ho
        rw [ren_owned] at e2
        rw [hρ2] at hbi
        cases hg : gh b with
        | none => rfl
        | some o =>
          have h1 := hS'.frd i' oi b c2 e2 hbi
          rw [ghosts j gh b o d2 hg] at h1
          have h2 := hS.ent j _ d2 b o hg
          rw [h2] at h1; cases h1
      · rw [hρ2lt i c1] at hbi
        exact hS.gho i j si gh b c2 ho d2 hbi
  · exact ⟨hS'.env.1.trans hS.env.1, hS'.env.2.1.trans hS.env.2.1, hS'.env.2.2.1.trans hS.env.2.2.1, Nat.le_trans hS.env.2.2.2 hS'.env.2.2.2⟩
  · intro b o hb
    refine hS'.frm b o ?_
    rw [hgf3 b]
    · exact hS.frm b o hb
    · intro i si h1 h2 h3
      have := hS0.frd i si b h1 h2 h3
      rw [this] at hb; cases hb
  · intro i si b hi ho hbi
    rcases cases2 i si hi with ⟨i', oi, rfl, c2, rfl⟩ | ⟨c1, c2, c3⟩
    · obtain ⟨e1, e2⟩ := strip_own ho
      rw [ren_owned] at e2
      rw [hρ2] at hbi
      cases hg : g.f b with
      | none => rfl
      | some o =>
        have h1 := hS'.frd i' oi b c2 e2 hbi
        rw [hgf3 b] at h1
        · rw [hS.frm b o hg] at h1; cases h1
        · intro k sk h1 h2 h3
          have := hS0.frd k sk b h1 h2 h3
          rw [this] at hg; cases hg
    · rw [hρ2lt i c1] at hbi
      exact hS.frd i si b c2 ho hbi
  · intro j l e hj
    rcases cases2 j _ hj with ⟨j', oj, rfl, d2, d3⟩ | ⟨d1, d2, d3⟩
    · have := strip_cells d3.symm
      cases oj <;> simp [SO.ren] at this
      · obtain ⟨rfl, rfl⟩ := this
        exact belowL_ren s hs2 _ (hS'.scp j' _ _ d2)
      · rename_i m _ _ _; cases m <;> simp at this
    · exact belowL_mono (by omega) l (hS.scp j l e d2)
  · intro j m s'' seen st hj
    rcases cases2 j _ hj with ⟨j', oj, rfl, d2, d3⟩ | ⟨d1, d2, d3⟩
    · have := strip_iter d3.symm
      cases oj <;> simp [SO.ren] at this
      rename_i m' _ _ _
      cases m' with
      | none => simp at this
      | some m' =>
        simp at this
        obtain ⟨rfl, _⟩ := this
        exact hs2 _ (hS'.sci j' _ _ _ _ d2)
    · have := hS.sci j m s'' seen st d2; omega

theorem sound_call {f : FuncId} {vs : List SV} (hS : St ρ H g w) (hb : belowL H.length vs = true) (hv : VCall P f vs H K) :
    Calls P f (valL ρ vs).toArray w fun e w' => ∃ v, e = .returned v ∧ Res ρ H g K v w' := by
  induction hv generalizing ρ with
  | one h => exact sound_call1 hS hb h
  | nil e pos posH fit k ih =>
    rename_i args H K args' H'
    obtain ⟨f1, f2⟩ := fit
    obtain ⟨h1, h2, h3⟩ := setNil_spec f1
    obtain ⟨hS', hl'⟩ := setNilH_St (upd_same ρ H.length none) f2 rfl (hS.nil e)
    have hb' : belowL (H' ++ [SO.arr [] e]).length args' = true := by
      refine h3 _ (by simp [hl']) (belowL_mono (by simp [hl']) _ hb)
    have hval : valL (upd ρ H.length none) args' = valL ρ args := by
      rw [h2 _ (upd_same _ _ _)]
      exact valL_congr (n := H.length) (fun k hk => upd_lt ρ _ hk) args hb
    have := ih hS' hb'
    rw [hval] at this
    refine Calls.mono this ?_
    rintro e' w' ⟨v, rfl, ρ2, sv, H2, q1, q2, q3, q4, q5, q6⟩
    refine ⟨v, rfl, ρ2, sv, H2, q1, q2, fun k hk => ?_, ?_, q5, q6⟩
    · rw [q3 k (by simp [hl']; omega)]; exact upd_lt ρ _ hk
    · simp [hl'] at q4; omega

theorem run_enters {f : FuncId} (he : enters P f = true) (args : Array Value) : (callFunc f args).run P w = .ok (.enter f args) w := by
  unfold enters at he
  cases hf : P.funcs[f]? with
  | none => simp [hf] at he
  | some fn =>
    simp only [hf, Bool.and_eq_true, Bool.not_eq_true'] at he
    obtain ⟨h1, h2⟩ := he
    have h1' : fn.name ≠ "runtime.NumGoroutine" := by simpa using h1
    simp [callFunc, hf, h1']
    cases hb : fn.body with
    | none => simp [hb] at h2
    | some c => simp

theorem s_call (h : At P ρ H g w t a) {f : FuncId} {args : Array Operand} {ats : Array TypeId} {l : List Opd} (ho : o.op = .call { callee := .value (.func f), args := args, argTypes := ats }) (he : enters P f = true) (hx : cOpds args = some l) (hv : vcOp P (.call f l) t H K) :
    GoodRes P ρ H g K ((execOp a.eval o).run P w) := by
  simp only [vcOp, evLK_eq] at hv
  obtain ⟨h1, h2⟩ := evL_map h hx
  have e : args.map a.eval = (valL ρ (evL t l)).toArray := by
    rw [← h1]; apply Array.toList_inj.1; simp
  have := sound_call h.s h2 hv
  simp [execOp, ho, resolve, Act.eval, Deferred.ofValue, invoke, run_enters he, GoodRes, e, this]

theorem s_callv (h : At P ρ H g w t a) {x : Operand} {y : Opd} {args : Array Operand} {ats : Array TypeId} {l : List Opd} (ho : o.op = .call { callee := .value x, args := args, argTypes := ats }) (hx0 : cOpd x = some y) (hx : cOpds args = some l) (hv : vcOp P (.callv y l) t H K) :
    GoodRes P ρ H g K ((execOp a.eval o).run P w) := by
  simp only [vcOp, evLK_eq, evK_eq] at hv
  obtain ⟨h1, h2⟩ := evL_map h hx
  have e : args.map a.eval = (valL ρ (evL t l)).toArray := by
    rw [← h1]; apply Array.toList_inj.1; simp
  have hbx := h.bel hx0
  split at hv
  · rename_i f caps e1
    obtain ⟨he, hv⟩ := hv
    rw [e1] at hbx
    simp only [below] at hbx
    have := sound_call h.s (belowL_append.2 ⟨h2, hbx⟩) hv
    have e2 : valL ρ (evL t l ++ caps) = valL ρ (evL t l) ++ valL ρ caps := by simp [valL_eq]
    rw [e2] at this
    have e3 : a.eval x = .func (.func f) #[] (valL ρ caps).toArray := by rw [h.eq hx0, e1]; rfl
    simp [execOp, ho, resolve, e3, Deferred.ofValue, invoke, run_enters he, GoodRes, e]
    simpa using this
  · exact hv.elim
end
end Go.V

namespace Go.V
open Go

section
variable {P : Program} {ρ : Rho} {H : List SO} {g : Fr} {w : World} {K : SV → List SO → Prop} {t : List SV} {a : Act} {o : Oper}

def Both (P : Program) (ρ : Rho) (H : List SO) (g : Fr) (K : SV → List SO → Prop) (w : World) (op : VOp) (r : Result Next) : Prop :=
  GoodRes P ρ H g K r ∧ (still op = true → GoodRes1 P ρ H K w r)
theorem both (hS : St ρ H g w) {op : VOp} {r : Result Next} (h : GoodRes1 P ρ H K w r) : Both P ρ H g K w op r := ⟨h.good hS, fun _ => h⟩
theorem only {op : VOp} {r : Result Next} (h : GoodRes P ρ H g K r) (hn : still op = false) : Both P ρ H g K w op r := ⟨h, fun e => by rw [hn] at e; cases e⟩

theorem size_of_shape {ty : TypeId} (h : shapeT P ty = some none) : sizeT P ty = some 1 := (shape_none h).2

/-- Every operation that is covered, by its condition. -/
theorem vcOp_sound {op : VOp} (h : At P ρ H g w t a) (hc : cOp P o = some op) (hv : vcOp P op t H K) : Both P ρ H g K w op ((execOp a.eval o).run P w) := by
  unfold cOp at hc
  split at hc
  -- move, assign
  · rename_i x ho
    simp only [Option.bind_eq_bind, Option.bind_eq_some_iff, Option.pure_def, Option.some.injEq] at hc
    obtain ⟨y, hx, rfl⟩ := hc
    simp only [execOp, ho]; exact both h.s (s_mov h hx hv)
  · rename_i x ho
    simp only [Option.bind_eq_bind, Option.bind_eq_some_iff, Option.pure_def, Option.some.injEq] at hc
    obtain ⟨y, hx, rfl⟩ := hc
    simp only [execOp, ho]; exact both h.s (s_mov h hx hv)
  -- pick
  · rename_i c x y ho
    simp only [Option.bind_eq_bind, Option.bind_eq_some_iff, Option.pure_def, Option.some.injEq] at hc
    obtain ⟨c', hcc, x', hx, y', hy, rfl⟩ := hc
    simp only [execOp, ho]; exact both h.s (s_pick h hcc hx hy hv)
  -- alloc
  · rename_i e ho
    simp only [Option.bind_eq_bind, Option.bind_eq_some_iff, Option.pure_def, Option.some.injEq] at hc
    obtain ⟨zs, hz, rfl⟩ := hc
    simp only [execOp, ho]; exact only (s_new h hz hv) rfl
  -- box
  · rename_i e x ho
    simp only [Option.bind_eq_bind, Option.bind_eq_some_iff, Option.pure_def, Option.some.injEq] at hc
    obtain ⟨y, hx, rfl⟩ := hc
    simp only [execOp, ho]; exact only (s_box h hx hv) rfl
  -- build
  · rename_i ty ps ho
    split at hc
    · rename_i fs hu
      split at hc
      · rename_i hall
        simp only [Option.bind_eq_bind, Option.bind_eq_some_iff, Option.pure_def, Option.some.injEq] at hc
        obtain ⟨zs, hz, qs, hq, rfl⟩ := hc
        simp only [execOp, ho]; exact both h.s (s_build_struct h hu hz hall hq hv)
      · cases hc
    · rename_i n e hu
      simp only [Option.bind_eq_bind, Option.bind_eq_some_iff, Option.pure_def, Option.some.injEq] at hc
      obtain ⟨zs, hz, sz, hsz, qs, hq, rfl⟩ := hc
      simp only [execOp, ho]; exact both h.s (s_build_array h hu hz hsz hq hv)
    · cases hc
  -- buildSlice
  · rename_i ty n ps ho
    split at hc
    · rename_i e hu
      simp only [Option.bind_eq_bind, Option.bind_eq_some_iff, Option.pure_def] at hc
      obtain ⟨sz, hsz, hc⟩ := hc
      split at hc
      · cases hc
      · rename_i hn
        simp only [Option.bind_eq_some_iff, Option.some.injEq] at hc
        obtain ⟨zl, hzl, qs, hq, rfl⟩ := hc
        simp only [not_or] at hn
        cases hz : zeroT P e with
        | none => simp [hz] at hn
        | some z =>
          simp [zeroCellsT, hz] at hzl
          subst hzl
          simp only [execOp, ho]; exact only (s_bslice h hu hz hsz hn.1 hq hv) rfl
    · cases hc
  -- load
  · rename_i ty x ho
    simp only [Option.bind_eq_bind, Option.bind_eq_some_iff, Option.pure_def, Option.some.injEq] at hc
    obtain ⟨n, hs, y, hx, rfl⟩ := hc
    simp only [execOp, ho]; exact both h.s (s_load h hs hx hv)
  -- store
  · rename_i ty x v ho
    simp only [Option.bind_eq_bind, Option.bind_eq_some_iff, Option.pure_def, Option.some.injEq] at hc
    obtain ⟨n, hs, y, hx, z, hz, rfl⟩ := hc
    simp only [execOp, ho]; exact only (s_store h hs hx hz hv) rfl
  -- nilCheck
  · rename_i x ho
    simp only [Option.bind_eq_bind, Option.bind_eq_some_iff, Option.pure_def, Option.some.injEq] at hc
    obtain ⟨y, hx, rfl⟩ := hc
    exact both h.s (s_nilck h ho hx hv)
  -- binOp
  · rename_i op ty x y z ho
    simp only [Option.bind_eq_bind, Option.bind_eq_some_iff, Option.pure_def, Option.some.injEq] at hc
    obtain ⟨x', hx, y', hy, rfl⟩ := hc
    simp only [execOp, ho]; exact both h.s (s_bin h hx hy hv)
  -- unOp
  · rename_i op ty x ho
    simp only [Option.bind_eq_bind, Option.bind_eq_some_iff, Option.pure_def, Option.some.injEq] at hc
    obtain ⟨y, hx, rfl⟩ := hc
    simp only [execOp, ho]; exact both h.s (s_un h hx hv)
  -- convert
  · rename_i src dst x ho
    simp only [execOp, ho]
    split at hc
    · rename_i q k h1 h2
      simp only [Option.bind_eq_bind, Option.bind_eq_some_iff, Option.pure_def, Option.some.injEq] at hc
      obtain ⟨y, hx, rfl⟩ := hc
      exact both h.s (s_conv_int h h1 h2 hx hv)
    · rename_i h1 h2
      simp only [Option.bind_eq_bind, Option.bind_eq_some_iff, Option.pure_def, Option.some.injEq] at hc
      obtain ⟨y, hx, rfl⟩ := hc
      exact both h.s (s_conv_same h h1 h2 hx hv)
    · rename_i e h1 h2
      split at hc
      · rename_i h3
        simp only [Option.bind_eq_bind, Option.bind_eq_some_iff, Option.pure_def, Option.some.injEq] at hc
        obtain ⟨y, hx, rfl⟩ := hc
        exact only (s_conv_s2b h h1 h2 h3 hx hv) rfl
      · cases hc
    · rename_i e h1 h2
      split at hc
      · rename_i h3
        simp only [Option.bind_eq_bind, Option.bind_eq_some_iff, Option.pure_def, Option.some.injEq] at hc
        obtain ⟨y, hx, rfl⟩ := hc
        exact both h.s (s_conv_b2s h h1 h2 h3 hx hv)
      · cases hc
    · cases hc
  -- makeInterface
  · rename_i ty x ho
    split at hc
    · cases hc
    · rename_i d hd hu
      simp only [Option.bind_eq_bind, Option.bind_eq_some_iff, Option.pure_def, Option.some.injEq] at hc
      obtain ⟨y, hx, rfl⟩ := hc
      simp only [execOp, ho]; exact both h.s (s_mkif h hu (fun ms e => hd ms e) hx hv)
    · cases hc
  -- makeFunc
  · rename_i f first caps ho
    split at hc
    · rename_i h0
      simp only [Option.bind_eq_bind, Option.bind_eq_some_iff, Option.pure_def, Option.some.injEq] at hc
      obtain ⟨l, hx, rfl⟩ := hc
      have e0 : first = #[] := Array.eq_empty_of_size_eq_zero h0
      subst e0
      simp only [execOp, ho]; exact both h.s (s_mkfn h hx hv)
    · cases hc
  -- makeMap
  · rename_i ty ho
    cases hc
    simp only [execOp, ho]; exact only (s_mkmap h hv) rfl
  -- makeSlice
  · split at hc
    · simp only [Option.bind_eq_bind, Option.bind_eq_some_iff, Option.pure_def, Option.some.injEq] at hc
      obtain ⟨_, _, _, _, _, _, _, _, rfl⟩ := hc
      simp only [vcOp] at hv
    · cases hc
  -- slice
  · rename_i ty x lo hi ho
    simp only [execOp, ho]
    split at hc
    · rename_i hu
      simp only [Option.bind_eq_bind, Option.bind_eq_some_iff, Option.pure_def, Option.some.injEq] at hc
      obtain ⟨x', hx, lo', hl, hi', hh, rfl⟩ := hc
      exact both h.s (s_slice_str h hu hx hl hh hv)
    · rename_i e hu
      simp only [Option.bind_eq_bind, Option.bind_eq_some_iff, Option.pure_def, Option.some.injEq] at hc
      obtain ⟨sz, hsz, x', hx, lo', hl, hi', hh, rfl⟩ := hc
      exact both h.s (s_slice_sl h hu hsz hx hl hh hv)
    · cases hc
  -- fieldAddr
  · rename_i ty x f ho
    split at hc
    · rename_i fs hu
      simp only [Option.bind_eq_bind, Option.bind_eq_some_iff, Option.pure_def] at hc
      obtain ⟨fd, hfd, n, hn, hc⟩ := hc
      split at hc
      · cases hc
      · rename_i h0
        simp only [Option.bind_eq_some_iff, Option.some.injEq] at hc
        obtain ⟨y, hx, rfl⟩ := hc
        simp only [execOp, ho]; exact both h.s (s_faddr h hu hfd hn h0 hx hv)
    · cases hc
  -- field
  · rename_i ty x f ho
    split at hc
    · rename_i fs hu
      simp only [Option.bind_eq_bind, Option.bind_eq_some_iff, Option.pure_def, Option.some.injEq] at hc
      obtain ⟨fd, hfd, n, hn, y, hx, rfl⟩ := hc
      simp only [execOp, ho]; exact both h.s (s_field h hu hfd hn hx hv)
    · cases hc
  -- indexAddr
  · rename_i ty x i ho
    simp only [execOp, ho]
    split at hc
    · rename_i n e hu
      split at hc
      · cases hc
      · rename_i hn
        simp only [Option.bind_eq_bind, Option.bind_eq_some_iff, Option.pure_def, Option.some.injEq] at hc
        obtain ⟨sz, hsz, y, hx, j, hj, rfl⟩ := hc
        simp only [not_or] at hn
        exact both h.s (s_iaddr h (some n) hu hsz (fun e0 => hn.2 (e0 ▸ hsz)) (fun m e0 => by cases e0; omega) hx hj hv)
    · rename_i e hu
      split at hc
      · cases hc
      · rename_i hn
        simp only [Option.bind_eq_bind, Option.bind_eq_some_iff, Option.pure_def, Option.some.injEq] at hc
        obtain ⟨sz, hsz, y, hx, j, hj, rfl⟩ := hc
        exact both h.s (s_iaddr h none hu hsz (fun e0 => hn (e0 ▸ hsz)) (fun m e0 => by cases e0) hx hj hv)
    · cases hc
  -- index
  · rename_i ty x i ho
    simp only [execOp, ho]
    split at hc
    · rename_i hu
      simp only [Option.bind_eq_bind, Option.bind_eq_some_iff, Option.pure_def, Option.some.injEq] at hc
      obtain ⟨x', hx, i', hi, rfl⟩ := hc
      exact both h.s (s_sindex h hu hx hi hv)
    · rename_i n e hu
      split at hc
      · rename_i hs
        simp only [Option.bind_eq_bind, Option.bind_eq_some_iff, Option.pure_def, Option.some.injEq] at hc
        obtain ⟨x', hx, i', hi, rfl⟩ := hc
        exact both h.s (s_aindex h hu (shape_none hs).2 (shape_none hs).1 (fun _ => rfl) hx hi hv)
      · rename_i m hs
        simp only [Option.bind_eq_bind, Option.bind_eq_some_iff, Option.pure_def, Option.some.injEq] at hc
        obtain ⟨x', hx, i', hi, rfl⟩ := hc
        exact both h.s (s_aindex h hu (shape_some hs).2 (shape_some hs).1 (fun e => by cases e) hx hi hv)
      · cases hc
    · cases hc
  -- lookup
  · rename_i ty x i ok ho
    split at hc
    · simp only [Option.bind_eq_bind, Option.bind_eq_some_iff, Option.pure_def, Option.some.injEq] at hc
      obtain ⟨x', hx, i', hi, rfl⟩ := hc
      simp only [execOp, ho]; exact both h.s (s_lookup h hx hi hv)
    · cases hc
  -- mapUpdate, insert
  · rename_i ty x i v ho
    simp only [Option.bind_eq_bind, Option.bind_eq_some_iff, Option.pure_def, Option.some.injEq] at hc
    obtain ⟨x', hx, i', hi, v', hz, rfl⟩ := hc
    simp only [execOp, ho]; exact only (s_mapup h hx hi hz hv) rfl
  · rename_i ty x i v ho
    simp only [Option.bind_eq_bind, Option.bind_eq_some_iff, Option.pure_def, Option.some.injEq] at hc
    obtain ⟨x', hx, i', hi, v', hz, rfl⟩ := hc
    simp only [execOp, ho]; exact only (s_mapup h hx hi hz hv) rfl
  -- range
  · rename_i ty x ho
    split at hc
    · simp only [Option.bind_eq_bind, Option.bind_eq_some_iff, Option.pure_def, Option.some.injEq] at hc
      obtain ⟨x', hx, rfl⟩ := hc
      simp only [vcOp] at hv
    · rename_i k e hu
      simp only [Option.bind_eq_bind, Option.bind_eq_some_iff, Option.pure_def, Option.some.injEq] at hc
      obtain ⟨x', hx, rfl⟩ := hc
      simp only [execOp, ho]; exact only (s_range h hu hx hv) rfl
    · cases hc
  -- next
  · rename_i it s ho
    simp only [Option.bind_eq_bind, Option.bind_eq_some_iff, Option.pure_def, Option.some.injEq] at hc
    obtain ⟨x', hx, rfl⟩ := hc
    cases s with
    | true => simp only [vcOp] at hv
    | false => simp only [execOp, ho]; exact only (s_next h hx hv) rfl
  -- entry
  · rename_i it ho
    simp only [Option.bind_eq_bind, Option.bind_eq_some_iff, Option.pure_def, Option.some.injEq] at hc
    obtain ⟨x', hx, rfl⟩ := hc
    simp only [execOp, ho]; exact both h.s (s_entry h hx hv)
  -- typeAssert
  · rename_i x xT ty ok ho
    split at hc
    · cases hc
    · rename_i d hd hu
      simp only [Option.bind_eq_bind, Option.bind_eq_some_iff, Option.pure_def, Option.some.injEq] at hc
      obtain ⟨z, hz, y, hx, rfl⟩ := hc
      simp only [execOp, ho]; exact both h.s (s_tassert h hu (fun ms e => hd ms e) hz hx hv)
    · cases hc
  -- extract
  · rename_i x i ho
    simp only [Option.bind_eq_bind, Option.bind_eq_some_iff, Option.pure_def, Option.some.injEq] at hc
    obtain ⟨y, hx, rfl⟩ := hc
    simp only [execOp, ho]; exact both h.s (s_extr h hx hv)
  -- call of a function
  · rename_i f args ats ho
    split at hc
    · rename_i he
      simp only [Option.bind_eq_bind, Option.bind_eq_some_iff, Option.pure_def, Option.some.injEq] at hc
      obtain ⟨l, hx, rfl⟩ := hc
      exact only (s_call h ho he hx hv) rfl
    · cases hc
  -- call of a function value
  · rename_i x args ats _ ho
    simp only [Option.bind_eq_bind, Option.bind_eq_some_iff, Option.pure_def, Option.some.injEq] at hc
    obtain ⟨y, hx0, l, hx, rfl⟩ := hc
    exact only (s_callv h ho hx0 hx hv) rfl
  -- invoke
  · simp only [Option.bind_eq_bind, Option.bind_eq_some_iff, Option.pure_def, Option.some.injEq] at hc
    obtain ⟨_, _, _, _, rfl⟩ := hc
    simp only [vcOp] at hv
  -- builtins
  · rename_i b args ats ho
    have arg1 : ∀ {x : Operand}, args.toList = [x] → args = #[x] := fun h => by apply Array.toList_inj.1; simpa using h
    have arg2 : ∀ {x y : Operand}, args.toList = [x, y] → args = #[x, y] := fun h => by apply Array.toList_inj.1; simpa using h
    have at0 : ∀ {t : TypeId} {l : List TypeId}, ats.toList = t :: l → ats[0]? = some t := fun h => by rw [← Array.getElem?_toList, h]; rfl
    have at1 : ∀ {t u : TypeId} {l : List TypeId}, ats.toList = t :: u :: l → ats[1]? = some u := fun h => by rw [← Array.getElem?_toList, h]; rfl
    have hb : execOp a.eval o = builtin b ats o.type (args.map fun | .const _ => true | _ => false) (args.map a.eval) := by
      simp only [execOp, ho, resolve, invoke]; rfl
    have m1 : ∀ x, (#[x] : Array Operand).map a.eval = #[a.eval x] := by simp
    have m2 : ∀ x y, (#[x, y] : Array Operand).map a.eval = #[a.eval x, a.eval y] := by simp
    rw [hb]
    split at hc
    · rename_i x u h1 h2
      simp only [Option.bind_eq_bind, Option.bind_eq_some_iff, Option.pure_def, Option.some.injEq] at hc
      obtain ⟨k, hk, y, hx, rfl⟩ := hc
      rw [arg1 h1, m1]; simp only [builtin]
      exact both h.s (s_len h (at0 h2) hk hx hv)
    · rename_i x u h1 h2
      split at hc
      · rename_i hk
        simp only [Option.bind_eq_bind, Option.bind_eq_some_iff, Option.pure_def, Option.some.injEq] at hc
        obtain ⟨y, hx, rfl⟩ := hc
        rw [arg1 h1, m1]; simp only [builtin]
        exact both h.s (s_cap h (at0 h2) hk hx hv)
      · cases hc
    · rename_i x y u u' l h1 h2
      have key : ∀ {e : TypeId} {lk : LK}, P.underlying u = some (.slice e) → lenKind P u' = some lk →
          (do let sz ← sizeT P e
              let zs ← zeroCellsT P e
              let by' ← bytesT P e
              if sz = 0 ∨ zs.length ≠ sz ∨ by' = 0 then none else pure (.append e sz by' zs (← cOpd x) (← cOpd y))) = some op →
          Both P ρ H g K w op ((builtin .append ats o.type (args.map fun | .const _ => true | _ => false) (args.map a.eval)).run P w) := by
        intro e lk hu hl hc
        simp only [Option.bind_eq_bind, Option.bind_eq_some_iff, Option.pure_def] at hc
        obtain ⟨sz, hsz, zs, hzs, by', hby, hc⟩ := hc
        split at hc
        · cases hc
        · rename_i hn
          simp only [Option.bind_eq_some_iff, Option.some.injEq] at hc
          obtain ⟨x', hx, y', hy, rfl⟩ := hc
          simp only [not_or, Decidable.not_not] at hn
          rw [arg2 h1, m2]; simp only [builtin]
          exact only (s_append h (at0 h2) (at1 h2) hu hl hsz hby hzs hn.1 hn.2.1 hn.2.2 hx hy hv) rfl
      split at hc
      · rename_i e hu hl; exact key hu hl hc
      · rename_i e hu hl; exact key hu hl hc
      · cases hc
    · rename_i x y h1
      simp only [Option.bind_eq_bind, Option.bind_eq_some_iff, Option.pure_def, Option.some.injEq] at hc
      obtain ⟨x', hx, y', hy, rfl⟩ := hc
      rw [arg2 h1, m2]; simp only [builtin]
      exact both h.s (s_min h hx hy hv)
    · rename_i x y h1
      simp only [Option.bind_eq_bind, Option.bind_eq_some_iff, Option.pure_def, Option.some.injEq] at hc
      obtain ⟨x', hx, y', hy, rfl⟩ := hc
      rw [arg2 h1, m2]; simp only [builtin]
      exact both h.s (s_max h hx hy hv)
    · rename_i x y u l h1 h2
      simp only [Option.bind_eq_bind, Option.bind_eq_some_iff, Option.pure_def, Option.some.injEq] at hc
      obtain ⟨x', hx, y', hy, rfl⟩ := hc
      rw [arg2 h1, m2]; simp only [builtin]
      exact only (s_delete h (at0 h2) hx hy hv) rfl
    · split at hc
      · simp only [Option.bind_eq_bind, Option.bind_eq_some_iff, Option.pure_def, Option.some.injEq] at hc
        obtain ⟨_, _, _, _, _, _, rfl⟩ := hc
        simp only [vcOp] at hv
      · cases hc
    · cases hc
  · cases hc
end
end Go.V

namespace Go.V
open Go

section
variable {P : Program} {ρ : Rho} {H : List SO} {g : Fr} {w : World} {t : List SV} {a : Act} {ops : Array Oper} {Q : Exit → Act → World → Prop}

/-- The state behind an instruction. -/
def Nxt (P : Program) (ρ : Rho) (H : List SO) (g : Fr) (K : List SV → List SO → Prop) (a' : Act) (w' : World) : Prop :=
  ∃ ρ' t' H', At P ρ' H' g w' t' a' ∧ a'.defers = [] ∧ (∀ k, k < H.length → ρ' k = ρ k) ∧ H.length ≤ H'.length ∧ K t' H'

theorem Res.next {K : List SV → List SO → Prop} (h : At P ρ H g w t a) (hd : a.defers = []) {d : Option Nat} {v : Value} {w' : World} (hr : Res ρ H g (fun sv H' => K (put t d sv) H') v w') : Nxt P ρ H g K (a.put d v) w' := by
  obtain ⟨ρ', sv, H', rfl, hS, hρ, hl, hb, hk⟩ := hr
  refine ⟨ρ', put t d sv, H', ⟨(h.f.ext hρ h.b).put d sv, belowL_put (belowL_mono hl t h.b) d hb, hS⟩, ?_, hρ, hl, hk⟩
  cases d <;> exact hd

theorem wp_of_good {K : List SV → List SO → Prop} (h : At P ρ H g w t a) (hd : a.defers = []) {o : Oper}
    (hg : GoodRes P ρ H g (fun sv H' => K (put t o.dst sv) H') ((execOp a.eval o).run P w)) : o.wp P a w (Nxt P ρ H g K) Q := by
  unfold Oper.wp
  generalize (execOp a.eval o).run P w = r at *
  cases r with
  | halt x w' => simp [GoodRes] at hg
  | ok n w' =>
    cases n <;> simp only [GoodRes] at hg <;> simp only [Oper.upon]
    case value v => exact hg.next h hd
    case skip => exact hg.next h hd
    case enter f args =>
      refine Calls.mono hg ?_
      rintro e w'' ⟨v, rfl, hr⟩
      exact hr.next h hd

theorem yielded_val {t : List SV} (hf : Frm ρ t a) {j gd : Nat} (hj : (ops[j]?).bind (·.dst) = some gd) {b : Bool} (hv : val ρ (t.getD gd un) = .bool b) : yielded ops a.tmps j = some b := by
  have hlt : gd < t.length := by
    rcases Nat.lt_or_ge gd t.length with h | h
    · exact h
    · rw [List.getD_eq_getElem?_getD, List.getElem?_eq_none h] at hv
      simp [val] at hv
  have : a.tmps[gd]? = some (.bool b) := by
    rw [hf, ← hv]
    simp [valL_eq, List.getElem?_eq_getElem hlt]
  simp [yielded, hj, this]

theorem yielded_un {t : List SV} (hf : Frm ρ t a) {j gd : Nat} (hj : (ops[j]?).bind (·.dst) = some gd) {tv : Array Value} (hv : val ρ (t.getD gd un) = .tuple tv) : yielded ops a.tmps j = none := by
  rcases Nat.lt_or_ge gd t.length with hlt | hge
  · have : a.tmps[gd]? = some (.tuple tv) := by
      rw [hf, ← hv]
      simp [valL_eq, List.getElem?_eq_getElem hlt]
    simp [yielded, hj, this]
  · have : a.tmps[gd]? = none := by
      rw [hf]
      simp [valL_eq, hge]
    simp [yielded, hj, this]

theorem Frm.same {t : List SV} (hf : Frm ρ t a) {j : Nat} {v : SV} (hv : val ρ (t.getD j un) = val ρ v) : Frm ρ (t.set j v) a := by
  unfold Frm at *
  rw [hf]
  congr 1
  rw [valL_eq, valL_eq]
  apply List.ext_getElem?
  intro i
  by_cases hij : j = i
  · subst hij
    by_cases hlt : j < t.length
    · simp [hlt] at hv ⊢; exact hv
    · simp [hlt]
  · simp [List.getElem?_set_ne hij]

theorem cIns_spec {o : Oper} {x : VIns} (hc : cIns P ops o = some x) : cOp P o = some x.op ∧ x.dst = o.dst ∧
    ((o.guard = none ∧ x.guard = none) ∨ ∃ j gd want, o.guard = some (j, want) ∧ (ops[j]?).bind (·.dst) = some gd ∧ x.guard = some (gd, want)) := by
  unfold cIns at hc
  simp only [Option.bind_eq_bind, Option.bind_eq_some_iff] at hc
  obtain ⟨op, h1, hc⟩ := hc
  split at hc
  · rename_i hg
    simp at hc; subst hc
    exact ⟨h1, rfl, .inl ⟨hg, rfl⟩⟩
  · rename_i j want hg
    simp only [Option.bind_eq_some_iff, Option.pure_def, Option.some.injEq] at hc
    obtain ⟨gd, h2, rfl⟩ := hc
    exact ⟨h1, rfl, .inr ⟨j, gd, want, hg, Option.bind_eq_some_iff.2 h2, rfl⟩⟩

/-- An instruction's two ways: it is carried out, or its guard says no; the table may have learned what the guard is. -/
theorem vcIns_cases {o : Oper} {x : VIns} (hc : cIns P ops o = some x) {K : List SV → List SO → Prop} (h : At P ρ H g w t a) (hv : vcIns P x t H K) :
    ∃ t', At P ρ H g w t' a ∧
      ((Region.wanted o (yielded ops a.tmps) = true ∧ vcOp P x.op t' H (fun v H' => K (put t' o.dst v) H') ∧
          (x.guard = none ∨ ∃ gd want, x.guard = some (gd, want) ∧ t'.getD gd un = .kb want)) ∨
       (Region.wanted o (yielded ops a.tmps) = false ∧ K (put t' o.dst un) H)) := by
  obtain ⟨_, hdst, hg⟩ := cIns_spec hc
  unfold vcIns at hv
  rcases hg with ⟨g1, g2⟩ | ⟨j, gd, want, g1, g2, g3⟩
  · rw [g2] at hv
    simp only [putK_eq, hdst] at hv
    exact ⟨t, h, .inl ⟨by simp [Region.wanted, g1], hv, .inl g2⟩⟩
  · rw [g3] at hv
    simp only [getK_eq] at hv
    have hw : ∀ b, val ρ (t.getD gd un) = .bool b → Region.wanted o (yielded ops a.tmps) = (b == want) := by
      intro b hb
      simp only [Region.wanted, g1, yielded_val h.f g2 hb]
      cases b <;> cases want <;> rfl
    have hset : ∀ b : Bool, val ρ (t.getD gd un) = .bool b → At P ρ H g w (t.set gd (.kb b)) a := fun b hb =>
      ⟨h.f.same (by rw [hb]; rfl), belowL_set h.b gd rfl, h.s⟩
    have hget : ∀ b : Bool, val ρ (t.getD gd un) = .bool b → (t.set gd (.kb b)).getD gd un = .kb b := by
      intro b hb
      have hlt : gd < t.length := by
        rcases Nat.lt_or_ge gd t.length with h | h
        · exact h
        · rw [List.getD_eq_getElem?_getD, List.getElem?_eq_none h] at hb
          simp [val] at hb
      simp [hlt]
    split at hv
    · rename_i b e
      have hb : val ρ (t.getD gd un) = .bool b := by rw [e]; rfl
      have := hw b hb
      cases hbw : b == want with
      | true =>
        simp only [hbw, cond_true, putK_eq, hdst] at hv
        exact ⟨t, h, .inl ⟨by rw [this, hbw], hv, .inr ⟨gd, want, g3, by rw [e]; simp at hbw; rw [hbw]⟩⟩⟩
      | false =>
        simp only [hbw, cond_false, putK_eq, hdst] at hv
        exact ⟨t, h, .inr ⟨by rw [this, hbw], hv⟩⟩
    · rename_i b e
      have hb : val ρ (t.getD gd un) = .bool b := by rw [e]; rfl
      have hwb := hw b hb
      simp only [setK_eq, putK_eq, hdst] at hv
      by_cases hbw : b = want
      · subst hbw
        exact ⟨t.set gd (.kb b), hset b hb, .inl ⟨by rw [hwb]; simp, hv.1 rfl, .inr ⟨gd, b, g3, hget b hb⟩⟩⟩
      · have hbw' : b = !want := by cases b <;> cases want <;> simp_all
        have h2 : K (put (t.set gd (.kb b)) o.dst un) H := by
          have := hv.2 hbw'
          subst hbw'; cases want <;> exact this
        exact ⟨t.set gd (.kb b), hset b hb, .inr ⟨by rw [hwb]; simp [hbw], h2⟩⟩
    · rename_i tv e
      simp only [putK_eq, hdst] at hv
      refine ⟨t, h, .inr ⟨?_, hv⟩⟩
      simp only [Region.wanted, g1, yielded_un h.f g2 (by rw [e]; rfl : V.val ρ (t.getD gd un) = .tuple tv)]
      rfl
    · exact hv.elim

theorem Nxt.here {K : List SV → List SO → Prop} (h : At P ρ H g w t a) (hd : a.defers = []) (d : Option Nat) {sv : SV} (hb : below H.length sv = true) (hk : K (put t d sv) H) : Nxt P ρ H g K (a.put d (val ρ sv)) w :=
  (Res.here (K := fun sv H' => K (put t d sv) H') h.s hb hk).next h hd

theorem vcIns_sound {i : Nat} {o : Oper} {x : VIns} (hi : ops[i]? = some o) (hc : cIns P ops o = some x) {K : List SV → List SO → Prop} (h : At P ρ H g w t a) (hd : a.defers = [])
    (hv : vcIns P x t H K) : wpOp P ops Q i (Nxt P ρ H g K) a w := by
  obtain ⟨t', h', h1 | h1⟩ := vcIns_cases hc h hv
  · obtain ⟨hw, hop, _⟩ := h1
    unfold wpOp
    simp only [hi, hw, if_true]
    exact .inl (wp_of_good h' hd (vcOp_sound h' (cIns_spec hc).1 hop).1)
  · obtain ⟨hw, hk⟩ := h1
    unfold wpOp
    simp only [hi, hw]
    exact Nxt.here h' hd o.dst (sv := un) rfl hk

theorem Nxt.mono {K K' : List SV → List SO → Prop} (hK : ∀ t H', K t H' → K' t H') {a' : Act} {w' : World} (h : Nxt P ρ H g K a' w') : Nxt P ρ H g K' a' w' := by
  obtain ⟨ρ', t', H', h1, h2, h3, h4, h5⟩ := h
  exact ⟨ρ', t', H', h1, h2, h3, h4, hK _ _ h5⟩

theorem vcReg_sound {Q' : List SV → List SO → Prop} (hQ : ∀ a w, Nxt P ρ H g Q' a w → Q .normal a w) : ∀ (l : List VIns) (k : Nat), (∀ j : Nat, (ops.toList.drop k)[j]?.bind (cIns P ops) = l[j]?) → k + l.length = ops.size →
    ∀ {ρ1 : Rho} {H1 : List SO} {w1 : World} {t1 : List SV} {a1 : Act}, At P ρ1 H1 g w1 t1 a1 → a1.defers = [] → (∀ k, k < H.length → ρ1 k = ρ k) → H.length ≤ H1.length →
    vcReg P l t1 H1 Q' → wpOps P ops Q (List.range' k l.length) a1 w1
  | [], k, _, _, ρ1, H1, w1, t1, a1, h, hd, hρ, hl, hv => by
    simp only [List.length_nil, List.range', wpOps]
    exact hQ _ _ ⟨ρ1, t1, H1, h, hd, hρ, hl, hv⟩
  | x :: l, k, hc, hn, ρ1, H1, w1, t1, a1, h, hd, hρ, hl, hv => by
    have h0 := hc 0
    simp only [List.getElem?_cons_zero, List.getElem?_drop, Nat.add_zero] at h0
    cases ho : ops[k]? with
    | none => simp [ho] at h0
    | some o =>
      simp [ho] at h0
      simp only [List.length_cons, List.range', wpOps_cons]
      rw [vcReg_cons] at hv
      refine wpOp_mono ?_ (vcIns_sound ho h0 h hd hv)
      rintro a' w' ⟨ρ', t', H', h1, h2, h3, h4, h5⟩
      refine vcReg_sound hQ l (k + 1) (fun j => ?_) (by simp at hn; omega) h1 h2 (fun k hk => (h3 k (by omega)).trans (hρ k hk)) (by omega) h5
      have := hc (j + 1)
      simp only [List.getElem?_drop, List.getElem?_cons_succ] at this ⊢
      rw [← this]; congr 2; omega

theorem mapM_get {α β : Type} {f : α → Option β} : ∀ {l : List α} {m : List β}, l.mapM f = some m → m.length = l.length ∧ ∀ (j : Nat), (l[j]?).bind f = m[j]?
  | [], m, h => by simp at h; subst h; exact ⟨rfl, by simp⟩
  | x :: l, m, h => by
    simp [List.mapM_cons, Option.bind_eq_some_iff] at h
    obtain ⟨y, hy, m', hm, rfl⟩ := h
    obtain ⟨h1, h2⟩ := mapM_get hm
    refine ⟨by simp [h1], fun j => ?_⟩
    cases j with
    | zero => simp [hy]
    | succ j => simpa using h2 j

theorem vcReg_region {id : Nat} {l : List VIns} (hc : ops.toList.mapM (cIns P ops) = some l) {Q' : List SV → List SO → Prop} (hQ : ∀ a w, Nxt P ρ H g Q' a w → Q .normal a w)
    (h : At P ρ H g w t a) (hd : a.defers = []) (hv : vcReg P l t H Q') : (Code.region id ops false).wp P Q a w := by
  obtain ⟨h1, h2⟩ := mapM_get hc
  refine wp_region ?_
  have := vcReg_sound (ops := ops) (Q := Q) hQ l 0 (by simpa using h2) (by simpa using h1) h hd (fun _ _ => rfl) (Nat.le_refl _) hv
  rw [List.range_eq_range', ← Array.length_toList, ← h1]
  exact this
end
end Go.V

namespace Go.V
open Go

/-! ### Blind operations answer alike in every world -/
section
variable {P : Program} {H : List SO} {t : List SV} {K : SV → Prop}

def Det (A : (SV → Prop) → Prop) : Prop := ∀ K : SV → Prop, A K → ∃ sv, K sv ∧ A (fun v => v = sv)

theorem det_pick (c a b : SV) : Det (vcPick c a b) := by
  intro K
  unfold vcPick
  split
  · exact fun h => ⟨_, h, rfl⟩
  · exact fun h => ⟨_, h, rfl⟩
  · rename_i p
    split
    · exact fun h => ⟨_, h, rfl⟩
    · intro h
      cases p
      · exact ⟨_, h.2 rfl, by simp⟩
      · exact ⟨_, h.1 rfl, by simp⟩
  · exact fun h => h.elim

theorem det_un (op : UnOp) (v : SV) : Det (vcUn op v) := by
  intro K
  unfold vcUn
  split
  all_goals first
    | exact fun h => h.elim
    | exact fun h => ⟨_, h, rfl⟩
    | exact fun ⟨c, h1, h2⟩ => ⟨_, h2, c, h1, rfl⟩

theorem det_field (off : Nat) (n : Option Nat) (v : SV) : Det (vcField off n v) := by
  intro K
  unfold vcField
  split
  · split
    · split
      · exact fun h => ⟨_, h, rfl⟩
      · exact fun h => h.elim
    · split
      · exact fun h => ⟨_, h, rfl⟩
      · exact fun h => h.elim
  · exact fun h => h.elim

theorem det_slice (sz : Option Nat) (v : SV) (lo hi : Option SV) : Det (vcSlice sz v lo hi) := by
  intro K
  unfold vcSlice
  split
  · split
    all_goals first
      | exact fun h => h.elim
      | exact fun h => ⟨_, h, rfl⟩
      | exact fun h => ⟨_, h.2, h.1, rfl⟩
  · split
    all_goals first
      | exact fun h => h.elim
      | exact fun h => ⟨_, h, rfl⟩
      | exact fun h => ⟨_, h.2, h.1, rfl⟩
      | exact fun ⟨h1, o', h2, h3⟩ => ⟨_, h3, h1, o', h2, rfl⟩
  · exact fun h => h.elim

theorem det_tassert (ty : TypeId) (ok : Bool) (z : Value) (v : SV) : Det (vcTassert ty ok z v) := by
  intro K
  unfold vcTassert
  split
  · rename_i u v
    cases h1 : u == ty
    · cases ok
      · exact fun h => h.elim
      · exact fun h => ⟨_, h, rfl⟩
    · cases ok
      · exact fun h => ⟨_, h, rfl⟩
      · exact fun h => ⟨_, h, rfl⟩
  · cases ok
    · exact fun h => h.elim
    · exact fun h => ⟨_, h, rfl⟩
  · exact fun h => h.elim

theorem det_eq (op : BinOp) (b : Bool) : Det (vcEq op b) := by
  intro K
  unfold vcEq
  split
  all_goals first
    | exact fun h => h.elim
    | exact fun h => ⟨_, h, rfl⟩
theorem det_eqB (op : BinOp) (b : Bool) : Det (vcEqB op b) := by
  intro K
  unfold vcEqB
  split
  all_goals first
    | exact fun h => h.elim
    | exact fun h => ⟨_, h, rfl⟩
theorem det_int (op : BinOp) (k : IntKind) (a b : Int) : Det (vcInt op k a b) := by
  intro K
  unfold vcInt
  split
  all_goals first
    | exact fun h => h.elim
    | exact fun h => ⟨_, h, rfl⟩
    | exact fun ⟨c, h1, h2⟩ => ⟨_, h2, c, h1, rfl⟩
    | exact fun ⟨h0, c, h1, h2⟩ => ⟨_, h2, h0, c, h1, rfl⟩
theorem det_bin (op : BinOp) (k : BK) (x y : SV) (hk : k ≠ .sl ∧ k ≠ .mp) : Det (fun K => vcBin op k x y H K) := by
  intro K
  simp only
  unfold vcBin
  cases k with
  | sl => exact absurd rfl hk.1
  | mp => exact absurd rfl hk.2
  | no =>
    simp only
    split
    · rename_i k a k' b
      split
      · exact fun ⟨h0, c, h1, h2⟩ => ⟨_, h2, h0, c, h1, rfl⟩
      · exact fun ⟨h0, c, h1, h2⟩ => ⟨_, h2, h0, c, h1, rfl⟩
      · by_cases hkk : k = k'
        · simp only [hkk, if_true]; exact det_int _ _ _ _ K
        · simp only [hkk, if_false]; exact fun h => h.elim
    · split
      all_goals first
        | exact fun h => h.elim
        | exact fun h => ⟨_, h, rfl⟩
        | exact fun h => ⟨_, h.2, h.1, rfl⟩
    · exact fun h => h.elim
  | b =>
    simp only
    split
    · exact det_eqB _ _ K
    · exact fun h => h.elim
  | p =>
    simp only
    split
    · exact det_eq _ _ K
    · exact det_eq _ _ K
    · exact det_eq _ _ K
    · rename_i k o k' o'
      cases hk : k == k'
      · exact fun h => h.elim
      · exact det_eq _ _ K
    · exact fun h => h.elim
  | agg cl =>
    simp only
    split
    · split
      · exact det_eqB _ _ K
      · exact fun h => h.elim
    · exact fun h => h.elim
  | ifn =>
    simp only
    split
    all_goals first
      | exact fun h => h.elim
      | exact det_eq _ _ K

theorem vcBin_any (op : BinOp) (k : BK) (x y : SV) (hk : k ≠ .sl ∧ k ≠ .mp) (H2 : List SO) : vcBin op k x y H K = vcBin op k x y H2 K := by
  cases k <;> first | rfl | exact absurd rfl hk.1 | exact absurd rfl hk.2

theorem blind_det {op : VOp} (hb : blind op = true) (hv : vcOp P op t H (fun v _ => K v)) : ∃ sv, K sv ∧ ∀ H2, vcOp P op t H2 (fun v _ => v = sv) := by
  cases op with
  | mov x => simp only [vcOp, evK_eq] at *; exact ⟨_, hv, fun _ => rfl⟩
  | pick c a b => simp only [vcOp, evK_eq] at *; obtain ⟨sv, h1, h2⟩ := det_pick _ _ _ K hv; exact ⟨sv, h1, fun _ => h2⟩
  | bin op k x y =>
    simp only [vcOp, evK_eq] at *
    have hk : k ≠ .sl ∧ k ≠ .mp := ⟨fun e => (by subst e; cases hb), fun e => (by subst e; cases hb)⟩
    obtain ⟨sv, h1, h2⟩ := det_bin op k _ _ hk K hv
    exact ⟨sv, h1, fun H2 => by rw [← vcBin_any op k _ _ hk]; exact h2⟩
  | un op x => simp only [vcOp, evK_eq] at *; obtain ⟨sv, h1, h2⟩ := det_un _ _ K hv; exact ⟨sv, h1, fun _ => h2⟩
  | conv c x =>
    simp only [vcOp, evK_eq] at *
    revert hv hb
    generalize ev t x = v
    unfold vcConv
    split
    · exact fun _ ⟨m, h1, h2⟩ => ⟨_, h2, fun _ => ⟨m, h1, rfl⟩⟩
    · exact fun _ h => ⟨_, h, fun _ => rfl⟩
    all_goals intro hb; first | cases hb; done | exact fun h => h.elim
  | mkif ty x => simp only [vcOp, evK_eq] at *; exact ⟨_, hv, fun _ => rfl⟩
  | mkfn f caps => simp only [vcOp, evLK_eq] at *; exact ⟨_, hv, fun _ => rfl⟩
  | slice sz x lo hi => simp only [vcOp, evK_eq, optK_eq] at *; obtain ⟨sv, h1, h2⟩ := det_slice _ _ _ _ K hv; exact ⟨sv, h1, fun _ => h2⟩
  | faddr off x =>
    simp only [vcOp, evK_eq] at *
    revert hv
    generalize ev t x = v
    split
    · exact fun h => ⟨_, h, fun _ => rfl⟩
    · exact fun h => ⟨_, h, fun _ => rfl⟩
    · exact fun h => h.elim
  | field off n x => simp only [vcOp, evK_eq] at *; obtain ⟨sv, h1, h2⟩ := det_field _ _ _ K hv; exact ⟨sv, h1, fun _ => h2⟩
  | sindex x i =>
    simp only [vcOp, evK_eq] at *
    revert hv
    generalize ev t x = v
    generalize ev t i = iv
    split
    · exact fun ⟨b, h1, h2⟩ => ⟨_, h2, fun _ => ⟨b, h1, rfl⟩⟩
    · exact fun h => h.elim
  | extr x i =>
    simp only [vcOp, evK_eq] at *
    revert hv
    generalize ev t x = v
    split
    · split
      · exact fun h => ⟨_, h, fun _ => rfl⟩
      · exact fun h => h.elim
    · exact fun h => h.elim
  | cap x =>
    simp only [vcOp, evK_eq] at *
    revert hv
    generalize ev t x = v
    split
    · exact fun h => ⟨_, h, fun _ => rfl⟩
    · exact fun h => ⟨_, h, fun _ => rfl⟩
    · exact fun h => h.elim
  | min x y =>
    simp only [vcOp, evK_eq] at *
    revert hv
    generalize ev t x = v
    generalize ev t y = v'
    split
    · exact fun h => ⟨_, h, fun _ => rfl⟩
    · exact fun h => h.elim
  | max x y =>
    simp only [vcOp, evK_eq] at *
    revert hv
    generalize ev t x = v
    generalize ev t y = v'
    split
    · exact fun h => ⟨_, h, fun _ => rfl⟩
    · exact fun h => h.elim
  | tassert ty ok z x => simp only [vcOp, evK_eq] at *; obtain ⟨sv, h1, h2⟩ := det_tassert _ _ _ _ K hv; exact ⟨sv, h1, fun _ => h2⟩
  | len k x =>
    simp only [vcOp, evK_eq] at *
    revert hv hb
    generalize ev t x = v
    unfold vcLen
    split
    · exact fun _ h => ⟨_, h, fun _ => rfl⟩
    · exact fun _ h => ⟨_, h, fun _ => rfl⟩
    · exact fun _ h => ⟨_, h, fun _ => rfl⟩
    all_goals intro hb; first | cases hb; done | exact fun h => h.elim
  | _ => simp [blind] at hb

theorem blind_still {op : VOp} (h : blind op = true) : still op = true := by
  cases op <;> first | rfl | (simp [blind] at h; done) | skip
  rename_i c x
  cases c <;> simp [blind] at h <;> rfl

/-! ### A state of which nothing is known -/
theorem gones_get (n k : Nat) (s : SO) (h : (List.replicate n SO.gone)[k]? = some s) : s = .gone := by
  have := List.mem_of_getElem? h
  exact (List.mem_replicate.1 this).2
def noFrame (w : World) : Fr := ⟨fun _ => none, w.os, w.tape, w.output, w.drawn⟩
theorem St.blank (ρ : Rho) (n : Nat) (w : World) : St ρ (List.replicate n .gone) (noFrame w) w := by
  constructor
  · intro k so hk; rw [gones_get _ _ _ hk]; trivial
  · intro i j si sj b _ hi _ ho; rw [gones_get _ _ _ hi] at ho; cases ho
  · intro i j si h b hi ho; rw [gones_get _ _ _ hi] at ho; cases ho
  · exact ⟨rfl, rfl, rfl, Nat.le_refl _⟩
  · intro b o h; cases h
  · intro i si b hi ho; rw [gones_get _ _ _ hi] at ho; cases ho
  · intro k l e hk; have := gones_get _ _ _ hk; cases this
  · intro k m s seen st hk; have := gones_get _ _ _ hk; cases this
end
end Go.V

namespace Go.V
open Go

section
variable {P : Program} {ρ0 : Rho} {H0 : List SO} {g : Fr} {ops : Array Oper} {Q : Exit → Act → World → Prop}

theorem inK_spec : ∀ {t : List SV} {d : Nat} {K : Prop}, inK t d K → d < t.length ∧ K
  | [], _, _, h => h.elim
  | _ :: _, 0, _, h => ⟨by simp, h⟩
  | _ :: l, d + 1, _, h => by
    obtain ⟨h1, h2⟩ := inK_spec (t := l) (d := d) h
    exact ⟨by simp; exact h1, h2⟩
theorem again_spec {pc : List (Nat × (List SO → Prop))} {H : List SO} {K : Prop} : ∀ {rs : List Nat}, again pc H K rs → K ∧ ∀ r ∈ rs, ∃ p, pc.find? (·.1 == r) = some p ∧ p.2 H
  | [], h => ⟨h, by simp⟩
  | r :: rs, h => by
    simp only [again] at h
    split at h
    · rename_i p hp
      obtain ⟨h1, h2⟩ := again_spec h.2
      refine ⟨h1, fun x hx => ?_⟩
      rcases List.mem_cons.1 hx with rfl | hx
      · exact ⟨p, hp, h.1⟩
      · exact h2 x hx
    · exact h.elim
theorem covers_depth : ∀ {p : Pl} {j : Nat}, covers p j = true → 1 ≤ p.depth
  | .done, _, h => by simp [covers] at h
  | .fl _ _, _, h => by simp [covers] at h
  | .fr _ _, _, h => by simp [covers] at h
  | .st _ _ p, _, _ => by simp [Pl.depth]
  | .br p q, j, h => by
    simp only [covers, Bool.or_eq_true] at h
    simp only [Pl.depth]
    rcases h with h | h
    · have := covers_depth h; exact Nat.le_trans this (Nat.le_max_left _ _)
    · have := covers_depth h; exact Nat.le_trans this (Nat.le_max_right _ _)

theorem frm_len {ρ : Rho} {t : List SV} {a : Act} (h : Frm ρ t a) : t.length = a.tmps.size := by
  rw [h]; simp [valL_eq]

/-- What the words for those taken early stand for. -/
def PendOK (g : Fr) (pd : List Nat) (L : Array Bool) (pc : List (Nat × (List SO → Prop))) (pend : Pend) (ρ : Rho) (H : List SO) : Prop :=
  ∀ k S, pend k S → k ∈ pd ∧ L.getD k true = true ∧ ∃ c, pc.find? (·.1 == k) = some c ∧
    ∀ (ρ' : Rho) (H' : List SO) w', St ρ' H' g w' → (∀ j, j < H.length → ρ' j = ρ j) → H.length ≤ H'.length → c.2 H' → S w'

theorem vcDraw_sound {l : List VIns} (hc : ops.toList.mapM (cIns P ops) = some l) (hns : Region.noSelect ops = true) (hQp : ∀ c a w, ¬ Q (.panic c) a w)
    {Q' : List SV → List SO → Prop} (hQ : ∀ a w, Nxt P ρ0 H0 g Q' a w → Q .normal a w) :
    ∀ (p : Pl) (br : Bool) (L : Array Bool) (pd : List Nat) (pc : List (Nat × (List SO → Prop))) (pend : Pend) (ρ : Rho) (H : List SO) (w : World) (t : List SV) (a : Act),
      planOK ops l br p L pd = true → Closed .any ops L → At P ρ H g w t a → a.defers = [] → (∀ k, k < H0.length → ρ k = ρ0 k) → H0.length ≤ H.length →
      PendOK g pd L pc pend ρ H → pend.ok w → vcDraw P l p pc t H Q' →
      (br = false → ∀ fuel, p.depth ≤ fuel → wpAnyR P .any ops Q fuel pend L a w) ∧
      (∀ j, covers p j = true → j ∈ Region.ready .any ops L → ∀ fuel, p.depth ≤ fuel + 1 →
        wpOp P ops Q j (fun a' w' => (pend.after .any ops j).ok w' ∧ wpAnyR P .any ops Q fuel (pend.after .any ops j) (L.setIfInBounds j true) a' w') a w) := by
  obtain ⟨_, hget⟩ := mapM_get hc
  have hops : ∀ {i : Nat} {x : VIns}, l[i]? = some x → ∃ o, ops[i]? = some o ∧ cIns P ops o = some x := by
    intro i x hx
    have := hget i
    rw [hx] at this
    obtain ⟨o, h1, h2⟩ := Option.bind_eq_some_iff.1 this
    exact ⟨o, by simpa using h1, h2⟩
  intro p
  induction p with
  | done =>
    intro br L pd pc pend ρ H w t a hp hcl h hd hρ hl hpd hpo hv
    refine ⟨fun hbr fuel _ => ?_, fun j hj => by simp [covers] at hj⟩
    subst hbr
    simp only [planOK, Bool.not_false, Bool.true_and, List.isEmpty_iff] at hp
    exact wpAnyR_done hp (hQ a w ⟨ρ, t, H, h, hd, hρ, hl, hv⟩) fuel
  | fl i p ih =>
    intro br L pd pc pend ρ H w t a hp hcl h hd hρ hl hpd hpo hv
    refine ⟨fun hbr fuel hf => ?_, fun j hj => by simp [covers] at hj⟩
    subst hbr
    simp only [planOK, Bool.not_false, Bool.true_and, Bool.and_eq_true] at hp
    obtain ⟨⟨⟨h1, h2⟩, h3⟩, h4⟩ := hp
    rw [vcDraw_fl] at hv
    split at hv
    · exact hv.elim
    rename_i x hx
    rw [hx] at h3
    obtain ⟨o, ho, hco⟩ := hops hx
    obtain ⟨fuel, rfl⟩ : ∃ f, fuel = f + 1 := ⟨fuel - 1, by simp only [Pl.depth] at hf; omega⟩
    have hr : i ∈ Region.ready .any ops L := by simpa using h1
    obtain ⟨t1, hA, hcase⟩ := vcIns_cases hco h hv
    have key : ∀ sv, below H.length sv = true → vcDraw P l p pc (put t1 o.dst sv) H Q' → Yields P ops o (val ρ sv) a → wpAnyR P .any ops Q (fuel + 1) pend L a w := by
      intro sv hb hvd hy
      refine wpAnyR_first (S := fun _ => True) ho (Region.noSelect_spec hns) hQp fuel pend L a w hcl (Region.free_spec ho h2) hr hy.yieldsIf trivial hpo ?_
      have := (ih false (L.setIfInBounds i true) pd pc pend ρ H w (put t1 o.dst sv) (a.put o.dst (val ρ sv)) h4 (hcl.set hr) ⟨hA.f.put o.dst sv, belowL_put hA.b o.dst hb, hA.s⟩
        (by cases o.dst <;> exact hd) hρ hl ?_ hpo hvd).1 rfl fuel (by simp only [Pl.depth] at hf; omega)
      · refine wpAnyR_weaken fuel _ _ _ _ _ ?_ this
        rintro k T (hk | ⟨_, rfl⟩)
        · exact .inl hk
        · exact .inr fun _ => trivial
      · intro k S hk
        obtain ⟨e1, e2, e3⟩ := hpd k S hk
        exact ⟨e1, by
          by_cases hik : i = k
          · subst hik; have := (mem_ready.1 hr).1; rw [e2] at this; cases this
          · rw [getD_set_ne true hik]; exact e2, e3⟩
    rcases hcase with ⟨hw, hop, _⟩ | ⟨hw, hk⟩
    · obtain ⟨sv, hk, hall⟩ := blind_det h3 hop
      have hat : ∀ w', At P ρ (List.replicate H.length .gone) (noFrame w') w' t1 a := fun w' => ⟨hA.f, by rw [List.length_replicate]; exact hA.b, St.blank ρ _ w'⟩
      have hrun : ∀ w', below H.length sv = true ∧ (execOp a.eval o).run P w' = .ok (.value (val ρ sv)) w' := by
        intro w'
        obtain ⟨v, e1, sv', rfl, e2, rfl⟩ := (vcOp_sound (hat w') (cIns_spec hco).1 (hall _)).2 (blind_still h3)
        exact ⟨by rw [List.length_replicate] at e2; exact e2, e1⟩
      exact key sv (hrun w).1 hk (.inl ⟨hw, fun w' => (hrun w').2⟩)
    · exact key un rfl hk (.inr ⟨hw, rfl⟩)
  | fr i p ih =>
    intro br L pd pc pend ρ H w t a hp hcl h hd hρ hl hpd hpo hv
    refine ⟨fun hbr fuel hf => ?_, fun j hj => by simp [covers] at hj⟩
    subst hbr
    simp only [planOK, Bool.not_false, Bool.true_and, Bool.and_eq_true] at hp
    obtain ⟨⟨⟨⟨h1, h2⟩, h3⟩, h5⟩, h4⟩ := hp
    simp only [vcDraw] at hv
    split at hv
    · exact hv.elim
    rename_i x hx
    rw [hx] at h3
    obtain ⟨o, ho, hco⟩ := hops hx
    rw [ho] at h5
    split at hv
    · exact hv.elim
    rename_i d hxd
    have hod : o.dst = some d := by rw [← (cIns_spec hco).2.1, hxd]
    simp only [hod, Bool.not_eq_true', List.contains_eq_mem, decide_eq_false_iff_not] at h5
    obtain ⟨fuel, rfl⟩ : ∃ f, fuel = f + 1 := ⟨fuel - 1, by simp only [Pl.depth] at hf; omega⟩
    have hr : i ∈ Region.ready .any ops L := by simpa using h1
    obtain ⟨t1, hA, hcase⟩ := vcIns_cases hco h hv
    have key : ∀ (sv : SV) (S : World → Prop), below H.length sv = true →
        inK (put t1 o.dst sv) d (vcDraw P l p ((i, fun H' => vcIns P x (put t1 o.dst sv) H' fun t'' _ => ev t'' (.t d) = ev (put t1 o.dst sv) (.t d)) :: pc) (put t1 o.dst sv) H Q') →
        YieldsIf P ops S o (val ρ sv) a → S w →
        (∀ (ρ' : Rho) (H' : List SO) w', d < (put t1 o.dst sv).length → St ρ' H' g w' → (∀ j, j < H.length → ρ' j = ρ j) → H.length ≤ H'.length →
          (vcIns P x (put t1 o.dst sv) H' fun t'' _ => ev t'' (.t d) = ev (put t1 o.dst sv) (.t d)) → S w') →
        wpAnyR P .any ops Q (fuel + 1) pend L a w := by
      intro sv S hb hin hy hS hcl2
      obtain ⟨hdl, hvd⟩ := inK_spec hin
      refine wpAnyR_first (S := S) ho (Region.noSelect_spec hns) hQp fuel pend L a w hcl (Region.free_spec ho h2) hr hy hS hpo ?_
      refine (ih false (L.setIfInBounds i true) (i :: pd) _ (pend.with i S) ρ H w (put t1 o.dst sv) (a.put o.dst (val ρ sv)) h4 (hcl.set hr) ⟨hA.f.put o.dst sv, belowL_put hA.b o.dst hb, hA.s⟩
        (by cases o.dst <;> exact hd) hρ hl ?_ ?_ hvd).1 rfl fuel (by simp only [Pl.depth] at hf; omega)
      · rintro k T (hk | ⟨rfl, rfl⟩)
        · obtain ⟨e1, e2, c, e3, e4⟩ := hpd k T hk
          have hik : i ≠ k := by
            rintro rfl
            have := (mem_ready.1 hr).1; rw [e2] at this; cases this
          refine ⟨by simp [e1], by rw [getD_set_ne true hik]; exact e2, c, ?_, e4⟩
          rw [List.find?_cons_of_neg (by simpa using hik)]
          exact e3
        · refine ⟨by simp, ?_, _, List.find?_cons_of_pos (by simp), fun ρ' H' w' a1 a2 a3 a4 => hcl2 ρ' H' w' hdl a1 a2 a3 a4⟩
          have := (listed_lt (mem_ready.1 hr).1).1
          simp [this]
      · rintro k T (hk | ⟨rfl, rfl⟩)
        · exact hpo k T hk
        · exact hS
    rcases hcase with ⟨hw, hop, _⟩ | ⟨hw, hk⟩
    · obtain ⟨v, e1, sv, rfl, e2, e3⟩ := (vcOp_sound hA (cIns_spec hco).1 hop).2 h3
      refine key sv (fun w' => (execOp a.eval o).run P w' = .ok (.value (val ρ sv)) w') e2 e3 (.inl ⟨hw, fun _ h => h⟩) e1 ?_
      intro ρ' H' w' hdl hS' hρ' hl' hcc
      rw [hod] at hdl hcc
      have hA' : At P ρ' H' g w' (put t1 (some d) sv) (a.put (some d) (val ρ sv)) :=
        ⟨(hA.f.put (some d) sv).ext hρ' (belowL_put hA.b (some d) e2), belowL_mono hl' _ (belowL_put hA.b (some d) e2), hS'⟩
      have hlook : ∀ d', some d = some d' → d' ∉ o.looksAt ops := fun d' e => by cases e; exact h5
      obtain ⟨t2, hA2, hc2⟩ := vcIns_cases hco hA' hcc
      rw [wanted_put o a (some d) _ hlook, hw] at hc2
      rcases hc2 with ⟨_, hop2, _⟩ | ⟨hf2, _⟩
      · obtain ⟨v2, f1, sv2, rfl, f2, f3⟩ := (vcOp_sound hA2 (cIns_spec hco).1 hop2).2 h3
        rw [execOp_put o (fun cs b => Region.noSelect_spec hns i o cs b ho) a (some d) _ hlook] at f1
        have hlen : t2.length = (put t1 (some d) sv).length := by rw [frm_len hA2.f, frm_len hA'.f]
        have g1 : ev (put t2 o.dst sv2) (.t d) = sv2 := by
          simp only [hod, ev, put]
          have : d < t2.length := by omega
          simp [this]
        have g2 : ev (put t1 (some d) sv) (.t d) = sv := by
          simp only [ev, put]
          have : d < t1.length := by simpa [put] using hdl
          simp [this]
        rw [g1, g2] at f3
        subst f3
        rw [f1, val_congr hρ' sv2 e2]
      · cases hf2
    · exact key un (fun _ => True) rfl hk (.inr ⟨hw, rfl⟩) trivial (fun _ _ _ _ _ _ _ _ => trivial)
  | st i rs p ih =>
    intro br L pd pc pend ρ H w t a hp hcl h hd hρ hl hpd hpo hv
    simp only [planOK, Bool.and_eq_true] at hp
    obtain ⟨⟨h1, h2⟩, h4⟩ := hp
    rw [vcDraw_st] at hv
    split at hv
    · exact hv.elim
    rename_i x hx
    obtain ⟨o, ho, hco⟩ := hops hx
    have step : i ∈ Region.ready .any ops L → ∀ fuel, p.depth ≤ fuel →
        wpOp P ops Q i (fun a' w' => (pend.after .any ops i).ok w' ∧ wpAnyR P .any ops Q fuel (pend.after .any ops i) (L.setIfInBounds i true) a' w') a w := by
      intro hr fuel hf
      refine wpOp_mono ?_ (vcIns_sound ho hco h hd hv)
      rintro a' w' ⟨ρ', t', H', e1, e2, e3, e4, e5⟩
      obtain ⟨hvd, hag⟩ := again_spec e5
      have hok : (pend.after .any ops i).ok w' := by
        rintro k S ⟨hk, hk2⟩
        obtain ⟨d1, d2, c, d3, d4⟩ := hpd k S hk
        have := List.all_eq_true.1 h2 k d1
        simp only [Bool.or_eq_true, hk2, Bool.false_eq_true, or_false] at this
        obtain ⟨c', d5, d6⟩ := hag k (by simpa using this)
        rw [d3] at d5
        cases d5
        exact d4 ρ' H' w' e1.s e3 e4 d6
      refine ⟨hok, (ih false (L.setIfInBounds i true) _ pc _ ρ' H' w' t' a' h4 (hcl.set hr) e1 e2 (fun k hk => (e3 k (by omega)).trans (hρ k hk)) (by omega) ?_ hok hvd).1 rfl fuel hf⟩
      rintro k S ⟨hk, hk2⟩
      obtain ⟨d1, d2, c, d3, d4⟩ := hpd k S hk
      have hik : i ≠ k := by
        rintro rfl
        have := (mem_ready.1 hr).1; rw [d2] at this; cases this
      refine ⟨List.mem_filter.2 ⟨d1, by rw [hk2]; rfl⟩, by rw [getD_set_ne true hik]; exact d2, c, d3, ?_⟩
      intro ρ2 H2 w2 q1 q2 q3 q4
      exact d4 ρ2 H2 w2 q1 (fun j hj => (q2 j (by omega)).trans (e3 j hj)) (by omega) q4
    refine ⟨fun hbr fuel hf => ?_, fun j hj hr fuel hf => ?_⟩
    · subst hbr
      simp only [Bool.false_or, beq_iff_eq] at h1
      obtain ⟨fuel, rfl⟩ : ∃ f, fuel = f + 1 := ⟨fuel - 1, by simp only [Pl.depth] at hf; omega⟩
      refine ⟨fun h0 => (by rw [h0] at h1; cases h1), fun j hj => ?_⟩
      rw [h1] at hj
      obtain rfl : j = i := by simpa using hj
      exact step (by rw [h1]; simp) fuel (by simp only [Pl.depth] at hf; omega)
    · simp only [covers, beq_iff_eq] at hj
      subst hj
      exact step hr fuel (by simp only [Pl.depth] at hf; omega)
  | br p q ihp ihq =>
    intro br L pd pc pend ρ H w t a hp hcl h hd hρ hl hpd hpo hv
    simp only [planOK, Bool.and_eq_true] at hp
    obtain ⟨⟨h1, h2⟩, h3⟩ := hp
    simp only [vcDraw] at hv
    have Hp := (ihp true L pd pc pend ρ H w t a h2 hcl h hd hρ hl hpd hpo hv.1).2
    have Hq := (ihq true L pd pc pend ρ H w t a h3 hcl h hd hρ hl hpd hpo hv.2).2
    have B : ∀ j, covers (.br p q) j = true → j ∈ Region.ready .any ops L → ∀ fuel, (Pl.br p q).depth ≤ fuel + 1 →
        wpOp P ops Q j (fun a' w' => (pend.after .any ops j).ok w' ∧ wpAnyR P .any ops Q fuel (pend.after .any ops j) (L.setIfInBounds j true) a' w') a w := by
      intro j hj hr fuel hf
      simp only [covers, Bool.or_eq_true] at hj
      simp only [Pl.depth] at hf
      rcases hj with hj | hj
      · exact Hp j hj hr fuel (Nat.le_trans (Nat.le_max_left _ _) hf)
      · exact Hq j hj hr fuel (Nat.le_trans (Nat.le_max_right _ _) hf)
    refine ⟨fun hbr fuel hf => ?_, B⟩
    subst hbr
    simp only [Bool.false_or, Bool.and_eq_true, List.all_eq_true, Bool.not_eq_true', List.isEmpty_eq_false_iff] at h1
    obtain ⟨h1, h1'⟩ := h1
    obtain ⟨j0, hj0⟩ := List.exists_mem_of_ne_nil _ h1'
    have := covers_depth (h1 j0 hj0)
    obtain ⟨fuel, rfl⟩ : ∃ f, fuel = f + 1 := ⟨fuel - 1, by omega⟩
    exact ⟨fun h0 => absurd h0 h1', fun j hj => B j (h1 j hj) hj fuel hf⟩

theorem St.drew {ρ : Rho} {H : List SO} {w : World} (h : St ρ H g w) : St ρ H g { w with drawn := w.drawn + 1 } := h.heap ⟨rfl, rfl, rfl, rfl, Nat.le_succ _⟩

theorem vcDraw_region {id : Nat} {l : List VIns} {p : Pl} {w : World} {t : List SV} {a : Act} (hm : P.follows .mixedOrders = true) (hc : ops.toList.mapM (cIns P ops) = some l) (hp : planFits ops l p = true)
    (hQp : ∀ c a w, ¬ Q (.panic c) a w) {Q' : List SV → List SO → Prop} (hQ : ∀ a w, Nxt P ρ0 H0 g Q' a w → Q .normal a w)
    (h : At P ρ0 H0 g w t a) (hd : a.defers = []) (hv : vcDraw P l p [] t H0 Q') : (Code.region id ops true).wp P Q a w := by
  simp only [planFits, Bool.and_eq_true] at hp
  obtain ⟨⟨h1, h2⟩, h3⟩ := hp
  refine wp_region_any hm (wpAny_of_R ops.size (fun _ _ => False) _ _ _ ?_)
  exact (vcDraw_sound hc h1 hQp hQ p false _ [] [] (fun _ _ => False) ρ0 H0 _ t a h2 (closed_start _) ⟨h.f, h.b, h.s.drew⟩ hd (fun _ _ => rfl) (Nat.le_refl _)
    (fun _ _ h => h.elim) (fun _ _ h => h.elim) hv).1 rfl _ (Nat.le_of_ble_eq_true h3)
end
end Go.V

namespace Go.V
open Go

section
variable {P : Program} {ρ0 : Rho} {g : Fr}

/-- A state of which K holds, the first n0 names as at the start. -/
def Sat (P : Program) (n0 : Nat) (ρ0 : Rho) (g : Fr) (K : List SV → List SO → Prop) (a : Act) (w : World) : Prop :=
  ∃ ρ t H, At P ρ H g w t a ∧ a.defers = [] ∧ (∀ k, k < n0 → ρ k = ρ0 k) ∧ n0 ≤ H.length ∧ K t H
def PostX (P : Program) (n0 : Nat) (ρ0 : Rho) (g : Fr) (Q : Ex → List SV → List SO → Prop) : Exit → Act → World → Prop
  | .normal, a, w => Sat P n0 ρ0 g (Q .normal) a w
  | .ret, a, w => Sat P n0 ρ0 g (Q .ret) a w
  | .exit id, a, w => Sat P n0 ρ0 g (Q (.exit id)) a w
  | _, _, _ => False

theorem head_len (gv : Nat → Value) : ∀ (i : Nat) (t : List SV) (l : List (Nat × SV)), (headT gv i t l).length = t.length
  | _, [], _ => by simp [headT]
  | i, _ :: t, [] => by simp [headT, head_len gv (i + 1) t []]
  | i, _ :: t, (j, v) :: l => by
    simp only [headT]
    cases Nat.beq i j <;> simp [head_len gv (i + 1) t]
theorem head_val {ρ' : Rho} {gv : Nat → Value} {V : Nat → Value} (hg : ∀ i, gv i = V i) : ∀ (i : Nat) (t : List SV) (l : List (Nat × SV)), (∀ p ∈ l, val ρ' p.2 = V p.1) →
    ∀ k, k < t.length → val ρ' ((headT gv i t l).getD k un) = V (i + k)
  | _, [], _, _, k, hk => by simp at hk
  | i, _ :: t, [], h, k, hk => by
    cases k with
    | zero => simp [headT, val, hg]
    | succ k =>
      have := head_val hg (i + 1) t [] h k (by simpa using hk)
      simp only [headT, List.getD_cons_succ, this]; congr 1; omega
  | i, _ :: t, (j, v) :: l, h, k, hk => by
    simp only [headT]
    cases hb : Nat.beq i j with
    | true =>
      have hij : i = j := Nat.eq_of_beq_eq_true hb
      cases k with
      | zero => simp only [List.getD_cons_zero, Nat.add_zero]; rw [h (j, v) (by simp), hij]
      | succ k =>
        have := head_val hg (i + 1) t l (fun p hp => h p (by simp [hp])) k (by simpa using hk)
        simp only [List.getD_cons_succ, this]; congr 1; omega
    | false =>
      cases k with
      | zero => simp [val, hg]
      | succ k =>
        have := head_val hg (i + 1) t ((j, v) :: l) h k (by simpa using hk)
        simp only [List.getD_cons_succ, this]; congr 1; omega
theorem head_below {n : Nat} (gv : Nat → Value) : ∀ (i : Nat) (t : List SV) (l : List (Nat × SV)), (∀ p ∈ l, below n p.2 = true) → belowL n (headT gv i t l) = true
  | _, [], _, _ => by simp [headT, belowL]
  | i, _ :: t, [], h => by simp [headT, belowL, below, head_below gv (i + 1) t [] h]
  | i, _ :: t, (j, v) :: l, h => by
    simp only [headT]
    cases Nat.beq i j with
    | true =>
      have h1 := h (j, v) (by simp)
      simp only [belowL, Bool.and_eq_true]
      exact ⟨h1, head_below gv (i + 1) t l (fun p hp => h p (by simp [hp]))⟩
    | false =>
      simp only [belowL, Bool.and_eq_true]
      exact ⟨rfl, head_below gv (i + 1) t _ h⟩
theorem pickT_spec {s : Nat → Nat} {t : List SV} : ∀ {l : List (Nat × SV)}, pickT t l = renT s l → ∀ p ∈ l, nkb (t.getD p.1 un) = nkb (ren s p.2)
  | [], _ => by simp
  | (i, v) :: l, h => by
    simp only [pickT, renT, List.cons.injEq] at h
    intro p hp
    rcases List.mem_cons.1 hp with rfl | hp
    · exact h.1
    · exact pickT_spec h.2 p hp

theorem preσ_go : ∀ (k i : Nat) (σ : List Nat), preσ.go i k σ = true → ∀ j, j < k → σ[j]? = some (i + j)
  | 0, _, _, _, _, h => by omega
  | k + 1, i, [], h, _, _ => by simp [preσ.go] at h
  | k + 1, i, x :: σ, h, j, hj => by
    simp only [preσ.go, Bool.and_eq_true, beq_iff_eq] at h
    cases j with
    | zero => simp [h.1]
    | succ j =>
      have := preσ_go k (i + 1) σ h.2 j (by omega)
      simp only [List.getElem?_cons_succ, this]; congr 1; omega

/-- The head of a loop: what is known there. -/
theorem sameLen_eq : ∀ {a b : List SV}, sameLen a b = true → a.length = b.length
  | [], [], _ => rfl
  | _ :: a, _ :: b, h => by simp only [List.length_cons, sameLen_eq (a := a) (b := b) h]
  | [], _ :: _, h => by cases h
  | _ :: _, [], h => by cases h
/-- The head of a loop: what is known there. -/
theorem fits_sat {n0 : Nat} {σ : List Nat} {t : List SV} {live : List (Nat × SV)} {H H0 : List SO} {ρ : Rho} {w : World} {a : Act} {t0 : List SV} (hf : Fits n0 t0 σ t H live H0) (h : At P ρ H g w t a) (hd : a.defers = [])
    (hρ : ∀ k, k < n0 → ρ k = ρ0 k) : ∃ gv, Sat P n0 ρ0 g (fun t' H' => t' = headT gv 0 t0 live ∧ H' = H0) a w := by
  obtain ⟨h1, h2, h3⟩ := hf
  simp only [Bool.and_eq_true] at h3
  obtain ⟨⟨hσ, hpre⟩, hsl⟩ := h3
  have hlen := sameLen_eq hsl
  obtain ⟨hl, hnd, hlt⟩ := okσ_spec hσ
  have hS := h.s.pick h2 hσ
  have hpre' : ∀ j, j < n0 → σ[j]? = some j := by
    intro j hj
    have := preσ_go n0 0 σ hpre j hj
    simpa using this
  have hinv : ∀ k, sub σ H0.length H.length k < H.length → k < H0.length := by
    intro k hk
    by_cases hk' : k < H0.length
    · exact hk'
    · rw [sub_ge hl (by omega)] at hk; omega
  have hpt := pickT_spec h1
  have hbl : ∀ p ∈ live, below H0.length p.2 = true := by
    intro p hp
    refine below_of_ren hinv p.2 ?_
    rw [← below_nkb, ← hpt p hp, below_nkb]; exact below_getD h.b _
  refine ⟨fun j => val ρ (t.getD j un), fun i => ρ (sub σ H0.length H.length i), _, H0, ⟨?_, head_below _ 0 t0 live hbl, hS⟩, hd, ?_, ?_, rfl, rfl⟩
  · unfold Frm
    rw [h.f]
    congr 1
    apply List.ext_getElem?
    intro i
    rw [valL_eq, valL_eq, List.getElem?_map, List.getElem?_map]
    by_cases hi : i < t0.length
    · have := head_val (ρ' := fun i => ρ (sub σ H0.length H.length i)) (gv := fun j => val ρ (t.getD j un)) (V := fun j => val ρ (t.getD j un)) (fun _ => rfl) 0 t0 live (by
        intro p hp
        rw [← val_nkb ρ (t.getD p.1 un), hpt p hp, val_nkb, val_ren]) i hi
      have hi2 : i < (headT (fun j => val ρ (t.getD j un)) 0 t0 live).length := by rw [head_len]; exact hi
      rw [List.getElem?_eq_getElem (show i < t.length by omega), List.getElem?_eq_getElem hi2]
      rw [List.getD_eq_getElem?_getD, List.getElem?_eq_getElem hi2, Nat.zero_add, List.getD_eq_getElem?_getD, List.getElem?_eq_getElem (show i < t.length by omega)] at this
      simp only [Option.getD_some] at this
      simp only [Option.map_some, this]
    · rw [List.getElem?_eq_none (show t.length ≤ i by omega), List.getElem?_eq_none (show (headT _ 0 t0 live).length ≤ i by rw [head_len]; omega)]; rfl
  · intro k hk
    simp only [sub_get (hpre' k hk)]
    exact hρ k hk
  · rcases Nat.eq_zero_or_pos n0 with h0 | h0
    · omega
    · have := (List.getElem?_eq_some_iff.1 (hpre' (n0 - 1) (by omega))).1
      omega

/-- A state with a nil slice told of as a slice of a block of its own. -/
theorem At.nilv {ρ : Rho} {H H' : List SO} {g : Fr} {w : World} {t t' : List SV} {a : Act} (h : At P ρ H g w t a) {pos : List Nat} {posH : List (Nat × Nat)} (f1 : setNil H.length t pos = some t') (f2 : setNilH H.length H posH = some H') (e : TypeId) :
    At P (upd ρ H.length none) (H' ++ [.arr [] e]) g w t' a ∧ H'.length = H.length := by
  obtain ⟨h1, h2, h3⟩ := setNil_spec f1
  obtain ⟨hS', hl'⟩ := setNilH_St (upd_same ρ H.length none) f2 rfl (h.s.nil e)
  refine ⟨⟨?_, h3 _ (by simp [hl']) (belowL_mono (by simp [hl']) _ h.b), hS'⟩, hl'⟩
  unfold Frm
  rw [h2 _ (upd_same _ _ _), valL_congr (n := H.length) (fun k hk => upd_lt ρ _ hk) t h.b]
  exact h.f

/-- What a function hands on. -/
theorem vret_sound {n0 : Nat} {v : SV} {H : List SO} {Post : SV → List SO → Prop} (hv : VRet n0 v H Post) : ∀ {ρ : Rho} {g : Fr} {w : World}, St ρ H g w → below H.length v = true → n0 ≤ H.length →
    ∃ ρ2 sv H2, val ρ v = val ρ2 sv ∧ St ρ2 H2 g w ∧ (∀ k, k < n0 → ρ2 k = ρ k) ∧ n0 ≤ H2.length ∧ below H2.length sv = true ∧ Post sv H2 := by
  induction hv with
  | one hv =>
    intro ρ g w hS hb hn
    rename_i v H Post
    obtain ⟨σ, v2, H2, ⟨f1, f2, f3⟩, hpost⟩ := hv
    simp only [Bool.and_eq_true] at f3
    obtain ⟨hσ, hpre⟩ := f3
    obtain ⟨hl, hnd, hlt⟩ := okσ_spec hσ
    have hpre' : ∀ j, j < n0 → σ[j]? = some j := by
      intro j hj
      have := preσ_go n0 0 σ hpre j hj
      simpa using this
    have hinv : ∀ k, sub σ H2.length H.length k < H.length → k < H2.length := by
      intro k hk
      by_cases hk' : k < H2.length
      · exact hk'
      · rw [sub_ge hl (by omega)] at hk; omega
    refine ⟨fun i => ρ (sub σ H2.length H.length i), v2, H2, by rw [f1, val_ren], hS.pick f2 hσ, ?_, ?_, below_of_ren hinv v2 (f1 ▸ hb), hpost⟩
    · intro k hk
      simp only [sub_get (hpre' k hk)]
    · rcases Nat.eq_zero_or_pos n0 with h0 | h0
      · omega
      · have := (List.getElem?_eq_some_iff.1 (hpre' (n0 - 1) (by omega))).1
        omega
  | nil e pos posH fit k ih =>
    intro ρ g w hS hb hn
    rename_i v H Post v' H'
    obtain ⟨f1, f2⟩ := fit
    obtain ⟨h1, h2, h3⟩ := setNil_spec f1
    obtain ⟨hS', hl'⟩ := setNilH_St (upd_same ρ H.length none) f2 rfl (hS.nil e)
    have hb' : below (H' ++ [SO.arr [] e]).length v' = true := by
      have := h3 (H' ++ [SO.arr [] e]).length (by simp [hl']) (by simp only [belowL, Bool.and_true]; exact below_mono (by simp [hl']) v hb)
      simpa [belowL] using this
    obtain ⟨ρ2, sv, H2, q1, q2, q3, q4, q5, q6⟩ := ih hS' hb' (by simp [hl']; omega)
    refine ⟨ρ2, sv, H2, ?_, q2, fun k hk => ?_, q4, q5, q6⟩
    · rw [← q1]
      have := h2 _ (upd_same ρ H.length none)
      simp only [valL, List.cons.injEq, and_true] at this
      rw [this]
      exact (val_congr (n := H.length) (fun k hk => upd_lt ρ _ hk) v hb).symm
    · rw [q3 k hk]; exact upd_lt ρ _ (by omega)

theorem exists_least {p : Nat → Prop} (h : ∃ n, p n) : ∃ n, p n ∧ ∀ m, p m → n ≤ m := by
  obtain ⟨n, hn⟩ := h
  induction n using Nat.strongRecOn with
  | _ n ih =>
    by_cases hc : ∃ m, m < n ∧ p m
    · obtain ⟨m, hm, hp⟩ := hc
      exact ih m hm hp
    · exact ⟨n, hn, fun m hm => Nat.le_of_not_lt fun hlt => hc ⟨m, hlt, hm⟩⟩

/-- A loop whose measure is told by a ghost. -/
theorem wp_loop_ghost {c : Code} {Q : Exit → Act → World → Prop} {X : Type} (R : X → Act → World → Prop) (μ : X → Nat) {a : Act} {w : World} (x0 : X) (h0 : R x0 a w)
    (round : ∀ x a w, R x a w → c.wp P (Exit.then (fun a' w' => ∃ x', R x' a' w' ∧ μ x' < μ x) Q) a w) : (Code.loop c).wp P Q a w := by
  classical
  have hex : ∀ a w, (∃ x, R x a w) → ∃ n, (∃ x, R x a w ∧ μ x = n) ∧ ∀ m, (∃ x, R x a w ∧ μ x = m) → n ≤ m := fun a w ⟨x, hx⟩ => exists_least ⟨μ x, x, hx, rfl⟩
  refine wp_loop (fun a w => ∃ x, R x a w) (fun a w => if h : ∃ x, R x a w then Classical.choose (hex a w h) else 0) ⟨x0, h0⟩ ?_
  intro a w hI
  obtain ⟨⟨x, hx, hxn⟩, _⟩ := Classical.choose_spec (hex a w hI)
  refine wp_mono (round x a w hx) ?_
  intro e a' w' he
  cases e <;> first | exact he | skip
  obtain ⟨x', hx', hlt⟩ := he
  refine ⟨⟨x', hx'⟩, ?_⟩
  have h1 : ∃ x, R x a' w' := ⟨x', hx'⟩
  simp only [dif_pos hI, dif_pos h1]
  have h2 := (Classical.choose_spec (hex a' w' h1)).2 (μ x') ⟨x', hx', rfl⟩
  omega

theorem vcCode_sound (hm : P.follows .mixedOrders = true) {plans : List (Nat × Pl)} {n0 : Nat} : ∀ (c : Code) (vc : VCode), cCode P plans c = some vc →
    ∀ (Q : Ex → List SV → List SO → Prop) (ρ : Rho) (H : List SO) (w : World) (t : List SV) (a : Act), At P ρ H g w t a → a.defers = [] → (∀ k, k < n0 → ρ k = ρ0 k) → n0 ≤ H.length →
      vcCode P n0 vc t H Q → c.wp P (PostX P n0 ρ0 g Q) a w
  | .skip, vc, hc, Q, ρ, H, w, t, a, h, hd, hρ, hl, hv => by
    simp only [cCode, Option.some.injEq] at hc
    subst hc
    exact wp_skip ⟨ρ, t, H, h, hd, hρ, hl, hv⟩
  | .region id ops draw, vc, hc, Q, ρ, H, w, t, a, h, hd, hρ, hl, hv => by
    simp only [cCode, Option.bind_eq_bind, Option.bind_eq_some_iff, Option.pure_def] at hc
    obtain ⟨l, hl', hc⟩ := hc
    have hQ : ∀ a' w', Nxt P ρ H g (Q .normal) a' w' → PostX P n0 ρ0 g Q .normal a' w' := by
      rintro a' w' ⟨ρ', t', H', e1, e2, e3, e4, e5⟩
      exact ⟨ρ', t', H', e1, e2, fun k hk => (e3 k (by omega)).trans (hρ k hk), by omega, e5⟩
    cases draw with
    | true =>
      simp only [if_true, Option.bind_eq_some_iff] at hc
      obtain ⟨p, _, hc⟩ := hc
      cases hp : planFits ops l p with
      | false => rw [hp] at hc; cases hc
      | true =>
        rw [hp] at hc
        simp only [cond_true, Option.some.injEq] at hc
        subst hc
        exact vcDraw_region hm hl' hp (fun _ _ _ h => h) hQ h hd hv
    | false =>
      simp only [Bool.false_eq_true, if_false, Option.some.injEq] at hc
      subst hc
      exact vcReg_region hl' hQ h hd hv
  | .seq x y, vc, hc, Q, ρ, H, w, t, a, h, hd, hρ, hl, hv => by
    simp only [cCode, Option.bind_eq_bind, Option.bind_eq_some_iff, Option.pure_def, Option.some.injEq] at hc
    obtain ⟨x', hx, y', hy, rfl⟩ := hc
    simp only [vcCode] at hv
    refine wp_seq (wp_mono (vcCode_sound hm x x' hx _ ρ H w t a h hd hρ hl hv) ?_)
    intro e a' w' he
    cases e with
    | normal =>
      obtain ⟨ρ', t', H', e1, e2, e3, e4, e5⟩ := he
      exact vcCode_sound hm y y' hy Q ρ' H' w' t' a' e1 e2 e3 e4 e5
    | exit id => exact he
    | ret => exact he
    | goto l => exact he
    | panic ch => exact he
    | outgrown => exact he
  | .cond c x y, vc, hc, Q, ρ, H, w, t, a, h, hd, hρ, hl, hv => by
    simp only [cCode, Option.bind_eq_bind, Option.bind_eq_some_iff, Option.pure_def, Option.some.injEq] at hc
    obtain ⟨c', hcc, x', hx, y', hy, rfl⟩ := hc
    simp only [vcCode, evK_eq] at hv
    have he := h.eq hcc
    split at hv
    · rename_i e1
      exact wp_cond_true (by rw [he, e1]; rfl) (vcCode_sound hm x x' hx Q ρ H w t a h hd hρ hl hv)
    · rename_i e1
      exact wp_cond_false (by rw [he, e1]; rfl) (vcCode_sound hm y y' hy Q ρ H w t a h hd hρ hl hv)
    · rename_i p e1
      exact wp_cond_split (t := p) (by rw [he, e1]; rfl) (fun hp => vcCode_sound hm x x' hx Q ρ H w t a h hd hρ hl (hv.1 hp)) (fun hp => vcCode_sound hm y y' hy Q ρ H w t a h hd hρ hl (hv.2 hp))
    · exact hv.elim
  | .block id x, vc, hc, Q, ρ, H, w, t, a, h, hd, hρ, hl, hv => by
    simp only [cCode, Option.bind_eq_bind, Option.bind_eq_some_iff, Option.pure_def, Option.some.injEq] at hc
    obtain ⟨x', hx, rfl⟩ := hc
    simp only [vcCode] at hv
    refine wp_block (wp_mono (vcCode_sound hm x x' hx _ ρ H w t a h hd hρ hl hv) ?_)
    intro e a' w' he
    cases e with
    | normal => exact he
    | exit i =>
      simp only [PostX, Sat] at he
      simp only [Exit.inBlock]
      obtain ⟨ρ', t', H', e1, e2, e3, e4, e5⟩ := he
      by_cases hid : i = id
      · subst hid
        rw [if_pos rfl]
        simp only [beq_self_eq_true, cond_true] at e5
        exact ⟨ρ', t', H', e1, e2, e3, e4, e5⟩
      · rw [if_neg hid]
        have : (i == id) = false := by simpa using hid
        rw [this] at e5
        exact ⟨ρ', t', H', e1, e2, e3, e4, e5⟩
    | ret => exact he
    | goto l => exact he
    | panic ch => exact he
    | outgrown => exact he
  | .loop x, vc, hc, Q, ρ, H, w, t, a, h, hd, hρ, hl, hv => by
    simp only [cCode, Option.bind_eq_bind, Option.bind_eq_some_iff, Option.pure_def, Option.some.injEq] at hc
    obtain ⟨x', hx, rfl⟩ := hc
    simp only [vcCode] at hv
    induction hv generalizing ρ with
    | one hv =>
      rename_i t H Q
      obtain ⟨X, live, HH, inv, μ, z0, σ0, ⟨hi0, hf0⟩, round⟩ := hv
      refine wp_loop_ghost (fun z a w => inv z ∧ ∃ gv, Sat P n0 ρ0 g (fun t' H' => t' = headT gv 0 t (live z) ∧ H' = HH z) a w) μ z0 ⟨hi0, fits_sat hf0 h hd hρ⟩ ?_
      rintro z a' w' ⟨hi, gv, ρ', _, _, e1, e2, e3, e4, rfl, rfl⟩
      have hr := round z hi gv
      rw [liveK_eq, fHK_eq] at hr
      refine wp_mono (vcCode_sound hm x x' hx _ ρ' (HH z) w' _ a' e1 e2 e3 e4 hr) ?_
      intro e a2 w2 he
      cases e with
      | normal =>
        obtain ⟨ρ2, t2, H2, f1, f2, f3, f4, z2, σ2, ⟨f5, f6⟩, f7⟩ := he
        exact ⟨z2, ⟨f5, fits_sat f7 f1 f2 f3⟩, f6⟩
      | exit id => exact he
      | ret => exact he
      | goto l => exact he
      | panic ch => exact he
      | outgrown => exact he
    | nil e pos posH fit k ih =>
      rename_i t H Q t' H'
      obtain ⟨f1, f2⟩ := fit
      obtain ⟨hA', hlen'⟩ := At.nilv h f1 f2 e
      refine ih _ hA' (fun k hk => ?_) (by simp [hlen']; omega)
      rw [upd_lt ρ _ (by omega)]; exact hρ k hk
  | .exit id, vc, hc, Q, ρ, H, w, t, a, h, hd, hρ, hl, hv => by
    simp only [cCode, Option.some.injEq] at hc
    subst hc
    exact wp_exit ⟨ρ, t, H, h, hd, hρ, hl, hv⟩
  | .ret, vc, hc, Q, ρ, H, w, t, a, h, hd, hρ, hl, hv => by
    simp only [cCode, Option.some.injEq] at hc
    subst hc
    exact wp_ret ⟨ρ, t, H, h, hd, hρ, hl, hv⟩
  | .rangeFunc .., vc, hc, _, _, _, _, _, _, _, _, _, _, _ => by simp [cCode] at hc
  | .scope _, vc, hc, _, _, _, _, _, _, _, _, _, _, _ => by simp [cCode] at hc
  | .label _, vc, hc, _, _, _, _, _, _, _, _, _, _, _ => by simp [cCode] at hc
  | .goto _, vc, hc, _, _, _, _, _, _, _, _, _, _, _ => by simp [cCode] at hc
  | .refuse _, vc, hc, _, _, _, _, _, _, _, _, _, _, _ => by simp [cCode] at hc

/-! ### Functions -/
def cRes1 (P : Program) : ResultVar → Option VRes
  | .tmp t => some (.t t)
  | .cell a t => (shapeT P t).map (.cell a)
theorem normB_val (ρ : Rho) (v : SV) : val ρ (normB v) = val ρ v := by cases v <;> rfl
theorem res_one {ρ : Rho} {H : List SO} {w : World} {t : List SV} {a : Act} (h : At P ρ H g w t a) {r : ResultVar} {r' : VRes} (hc : cRes1 P r = some r') {v : SV} (hv : resOne t H r' = some v) :
    (match r with | .tmp i => (pure (a.tmps.getD i undef) : Sem Value) | .cell i ty => do loadVar ty (← asAddr (a.tmps.getD i undef))).run P w = .ok (val ρ v) w ∧ below H.length v = true := by
  have hget : ∀ i, a.tmps.getD i undef = val ρ (t.getD i un) := by
    intro i; rw [h.f]; exact val_getD ρ t i
  cases r with
  | tmp i =>
    simp only [cRes1, Option.some.injEq] at hc
    subst hc
    simp only [resOne, Option.some.injEq] at hv
    subst hv
    refine ⟨by simp only [hget, Sem.run_pure, normB_val], ?_⟩
    have := below_getD h.b i
    cases hx : t.getD i un <;> rw [hx] at this <;> first | exact this | rfl
  | cell i ty =>
    simp only [cRes1, Option.map_eq_some_iff] at hc
    obtain ⟨n, hs, rfl⟩ := hc
    simp only [resOne] at hv
    split at hv
    · rename_i k o e
      split at hv
      · rename_i l el hk
        obtain ⟨_, hsc, b, hb, hh⟩ := cells_of h.s hk
        have hadr : (asAddr (a.tmps.getD i undef)).run P w = .ok ⟨b, o, none⟩ w := by
          rw [hget, e]; simp [val, hb, asAddr]
        cases n with
        | none =>
          simp only at hv
          refine ⟨?_, (belowL_eq _ _).1 hsc v (List.mem_of_getElem? hv)⟩
          have := run_loadVar1 (P := P) (w := w) (a := ⟨b, o, none⟩) (v := val ρ v) hs (by rw [cell_of hh, valL_eq]; simp [hv])
          simp only [Sem.run_bind, hadr, Result.andThen_ok, this]
        | some m =>
          simp only [Option.map_eq_some_iff] at hv
          obtain ⟨l', hcut, rfl⟩ := hv
          obtain ⟨c1, c2⟩ := cut_spec hcut
          refine ⟨?_, ?_⟩
          · have := run_loadVarN (P := P) (w := w) (a := ⟨b, o, none⟩) (l := valL ρ l') (by rw [valL_eq, List.length_map, c1]; exact hs) (by
              intro j v hj
              rw [add_eq, cell_of hh]
              rw [valL_eq] at hj ⊢
              have hjl : j < m := by have := (List.getElem?_eq_some_iff.1 hj).1; simpa [c1] using this
              rw [List.getElem?_map, c2 j hjl] at hj
              simpa using hj)
            simp only [Sem.run_bind, hadr, Result.andThen_ok, this, val]
          · simp only [below]; rw [belowL_eq] at hsc ⊢; exact fun v hv => hsc v (cut_mem hcut v hv)
      · cases hv
    · cases hv

theorem res_all {ρ : Rho} {H : List SO} {w : World} {t : List SV} {a : Act} (h : At P ρ H g w t a) : ∀ {l : List ResultVar} {l' : List VRes} {vs : List SV}, l.mapM (cRes1 P) = some l' → resAll t H l' = some vs →
    (l.mapM (m := Sem) fun r => match r with | .tmp i => (pure (a.tmps.getD i undef) : Sem Value) | .cell i ty => do loadVar ty (← asAddr (a.tmps.getD i undef))).run P w = .ok (valL ρ vs) w ∧ belowL H.length vs = true
  | [], l', vs, hc, hv => by
    simp at hc; subst hc
    simp [resAll] at hv; subst hv
    exact ⟨by simp [valL], rfl⟩
  | r :: l, l', vs, hc, hv => by
    simp [List.mapM_cons, Option.bind_eq_some_iff] at hc
    obtain ⟨r', hr, l2, hl, rfl⟩ := hc
    simp only [resAll] at hv
    split at hv
    · rename_i x xs e1 e2
      cases hv
      obtain ⟨h1, h2⟩ := res_one h hr e1
      obtain ⟨h3, h4⟩ := res_all h hl e2
      refine ⟨?_, by simp [belowL, h2, h4]⟩
      simp only [List.mapM_cons, Sem.run_bind, h1, Result.andThen_ok, h3, Sem.run_pure, valL]
    · cases hv

/-- A function, by its condition. -/
theorem spec_of_vc {f : FuncId} {fn : Func} {c : Code} {plans : List (Nat × Pl)} {vc : VCode} {rs : List VRes} {args : List SV} {H : List SO} {Post : SV → List SO → Prop}
    (hm : P.follows .mixedOrders = true) (hf : P.funcs[f]? = some fn) (hb : fn.body = some c) (hc : cCode P plans c = some vc) (hr : fn.results.toList.mapM (cRes1 P) = some rs)
    (hv : vcFun P fn.ntmps rs vc args H Post) : Ctr P f args H Post := by
  intro ρ g w hS hba
  refine calls_of_wp hf hb ?_
  simp only [vcFun, padK_eq, natK_eq] at hv
  have hA : At P ρ H g w (args ++ List.replicate (fn.ntmps - args.length) un) { tmps := (valL ρ args).toArray ++ Array.replicate (fn.ntmps - (valL ρ args).toArray.size) undef, defers := [] } := by
    refine ⟨?_, ?_, hS⟩
    · simp only [Frm]
      apply Array.toList_inj.1
      simp [valL_eq, val, undef]
    · rw [belowL_append]
      refine ⟨hba, ?_⟩
      rw [belowL_eq]
      intro v hv
      rw [(List.mem_replicate.1 hv).2]; rfl
  refine wp_mono (vcCode_sound (ρ0 := ρ) (g := g) (n0 := H.length) hm c vc hc _ ρ H w _ _ hA rfl (fun _ _ => rfl) (Nat.le_refl _) hv) ?_
  have key : ∀ a' w', Sat P H.length ρ g (fun t H' => match resSV t H' rs with | some v => fK v fun v => VRet H.length v H' Post | none => False) a' w' →
      a'.defers = [] ∧ ∃ v, (results fn a'.tmps).run P w' = .ok v w' ∧ ∃ ρ' sv H', (Ending.returned v) = .returned (val ρ' sv) ∧ St ρ' H' g w' ∧ (∀ k, k < H.length → ρ' k = ρ k) ∧ H.length ≤ H'.length ∧ below H'.length sv = true ∧ Post sv H' := by
    rintro a' w' ⟨ρ', t', H', e1, e2, e3, e4, e5⟩
    refine ⟨e2, ?_⟩
    split at e5
    · rename_i v ev
      rw [fK_eq] at e5
      have last : below H'.length v = true → ∃ ρ2 sv H2, val ρ' v = val ρ2 sv ∧ St ρ2 H2 g w' ∧ (∀ k, k < H.length → ρ2 k = ρ k) ∧ H.length ≤ H2.length ∧ below H2.length sv = true ∧ Post sv H2 := by
        intro hbv
        obtain ⟨ρ2, sv, H2, q1, q2, q3, q4, q5, q6⟩ := vret_sound e5 e1.s hbv (by omega)
        exact ⟨ρ2, sv, H2, q1, q2, fun k hk => (q3 k hk).trans (e3 k hk), q4, q5, q6⟩
      unfold resSV at ev
      have fin : ∀ vs : List SV, resAll t' H' rs = some vs → (vs.length = 1 → [v] = vs) → (vs.length ≠ 1 → v = .tup vs) → (results fn a'.tmps).run P w' = .ok (val ρ' v) w' ∧ below H'.length v = true := by
        intro vs h1 h2 h3
        obtain ⟨r1, r2⟩ := res_all e1 hr h1
        have hres : (results fn a'.tmps).run P w' = .ok (if h : (valL ρ' vs).toArray.size = 1 then (valL ρ' vs).toArray[0] else .tuple (valL ρ' vs).toArray) w' := by
          unfold results
          rw [Array.mapM_eq_mapM_toList]
          simp only [Sem.run_bind, Sem.run_map]
          have := r1
          erw [this]
          simp only [Result.andThen_ok, Sem.run_pure]
        rw [hres]
        by_cases hl1 : vs.length = 1
        · have := h2 hl1
          subst this
          simp only [belowL, Bool.and_true] at r2
          simp [valL, r2]
        · have := h3 hl1
          subst this
          have : ¬ ((valL ρ' vs).toArray.size = 1) := by simpa [valL_eq] using hl1
          rw [dif_neg this]
          exact ⟨rfl, by simpa [below] using r2⟩
      split at ev
      · rename_i x hx
        cases ev
        obtain ⟨q1, q2⟩ := fin _ hx (fun _ => rfl) (fun h => absurd rfl h)
        obtain ⟨ρ2, sv, H2, g1, g2, g3, g4, g5, g6⟩ := last q2
        exact ⟨_, q1, ρ2, sv, H2, by rw [g1], g2, g3, g4, g5, g6⟩
      · rename_i l hne hx
        cases ev
        obtain ⟨q1, q2⟩ := fin _ hx (fun h => by
          obtain ⟨y, rfl⟩ := List.length_eq_one_iff.1 h
          exact absurd rfl (hne y)) (fun _ => rfl)
        obtain ⟨ρ2, sv, H2, g1, g2, g3, g4, g5, g6⟩ := last q2
        exact ⟨_, q1, ρ2, sv, H2, by rw [g1], g2, g3, g4, g5, g6⟩
      · cases ev
    · exact e5.elim
  intro e a' w' he
  cases e with
  | normal => exact key a' w' he
  | ret => exact key a' w' he
  | exit id =>
    obtain ⟨ρ', t', H', e1, e2, e3, e4, e5⟩ := he
    exact e5.elim
  | goto l => exact he
  | panic ch => exact he.elim
  | outgrown => exact he.elim
/-- Function f is this code. -/
def Is (P : Program) (f : FuncId) (nt : Nat) (rs : List VRes) (vc : VCode) : Prop :=
  ∃ fn c plans, P.funcs[f]? = some fn ∧ fn.body = some c ∧ cCode P plans c = some vc ∧ fn.results.toList.mapM (cRes1 P) = some rs ∧ fn.ntmps = nt
theorem Is.spec {f : FuncId} {nt : Nat} {rs : List VRes} {vc : VCode} {args : List SV} {H : List SO} {Post : SV → List SO → Prop} (h : Is P f nt rs vc) (hm : P.follows .mixedOrders = true)
    (hv : vcFun P nt rs vc args H Post) : Ctr P f args H Post := by
  obtain ⟨fn, c, plans, h1, h2, h3, h4, rfl⟩ := h
  exact spec_of_vc hm h1 h2 h3 h4 hv
end
end Go.V

namespace Go.V
open Go

/-! ### Keys -/
section
variable {P : Program}

theorem run_check (em : Bool) (e : Nat) : ∀ (d : Nat) (t : TypeId) (cl : List FC), clsT P d t = some cl → ∀ (xs : List Value), xs.length = cl.length → ∀ (w : World),
    (Instr.checkKey em (d + e) t (mkV P t xs)).run P w = .ok () w
  | 0, _, _, h, _, _, _ => by simp [clsT] at h
  | d + 1, t, cl, h, xs, hl, w => by
    have ih := run_check em e d
    rw [show d + 1 + e = (d + e) + 1 by omega]
    unfold clsT at h
    cases hu : P.underlying t with
    | none => simp [hu] at h
    | some k =>
      cases k <;> simp only [hu] at h <;> try (cases h; done)
      case bool => simp [Instr.checkKey, run_und hu]
      case int q => simp [Instr.checkKey, run_und hu]
      case string => simp [Instr.checkKey, run_und hu]
      case array n el =>
        split at h
        · rename_i c sz h1 h2
          split at h
          · rename_i h3
            cases h
            obtain ⟨bb, g1, g2⟩ := cls_isAgg h1
            have hsz : bb = false → sz = 1 := fun h => by obtain ⟨c, rfl⟩ := g2 h; simpa using h3.symm
            have hll : xs.length = n * sz := by rw [hl]; simp [h3]
            have hm : mkV P t xs = .agg xs.toArray := mkV_agg (by simp [isAggT, hu]) xs
            rw [hm, Instr.checkKey]
            simp only [Sem.run_bind, run_und hu, Result.andThen_ok]
            simp only [Std.Legacy.Range.forIn_eq_forIn_range', Std.Legacy.Range.size, Nat.sub_zero, Nat.add_one_sub_one, Nat.div_one]
            have each : ∀ j ∈ List.range' 0 n, (j + 1) * sz ≤ xs.length := by
              intro j hj
              rw [List.mem_range'_1] at hj
              rw [hll]; exact Nat.mul_le_mul_right _ (by omega)
            clear hll hl
            generalize List.range' 0 n = is at each
            induction is with
            | nil => simp
            | cons j is ihl =>
              have hj := each j (by simp)
              rw [Nat.add_mul, Nat.one_mul] at hj
              have hp := run_part (P := P) (w := w) (off := j * sz) (cs := xs.toArray) g1 h2 hsz (fun _ => by rw [List.size_toArray]; exact hj)
              simp only [List.forIn_cons, Sem.run_bind, run_size h2, Result.andThen_ok, hp]
              rw [ih el c h1 _ (by simp; omega)]
              simp only [Result.andThen_ok, Sem.run_pure]
              exact ihl (fun y hy => each y (by simp [hy]))
          · cases h
        · cases h
      case struct fs =>
        split at h
        · cases h
        · have hm : mkV P t xs = .agg xs.toArray := mkV_agg (by simp [isAggT, hu]) xs
          rw [hm, Instr.checkKey]
          simp only [Sem.run_bind, run_und hu, Result.andThen_ok]
          rw [← Array.forIn_toList]
          have key : ∀ (L : List Field) (off : Nat) (cl : List FC), fieldsCls P (clsT P d) off L = some cl → off + cl.length ≤ xs.length →
              (forIn L PUnit.unit fun f r => (do
                if f.name ≠ "_" then
                  let v ← part f.type xs.toArray f.offset
                  Instr.checkKey em (d + e) f.type v
                  pure (ForInStep.yield PUnit.unit)
                else pure (ForInStep.yield PUnit.unit) : Sem (ForInStep PUnit))).run P w = .ok PUnit.unit w := by
            intro L
            induction L with
            | nil => intro off cl _ _; simp
            | cons f L ihl =>
              intro off cl hf hlen
              unfold fieldsCls at hf
              split at hf
              · rename_i cf sz h1 h2
                split at hf
                · rename_i h3
                  obtain ⟨h4, h5, h6⟩ := h3
                  split at hf
                  · rename_i cr h7
                    cases hf
                    obtain ⟨bb, g1, g2⟩ := cls_isAgg h1
                    have hsz : bb = false → sz = 1 := fun h => by obtain ⟨c, rfl⟩ := g2 h; simpa using h6.symm
                    subst h5
                    simp only [List.length_append] at hlen
                    have hp := run_part (P := P) (w := w) (off := f.offset) (cs := xs.toArray) g1 h2 hsz (fun _ => by rw [List.size_toArray]; omega)
                    simp only [List.forIn_cons, h4, ne_eq, not_false_eq_true, if_true, Sem.run_bind, hp, Result.andThen_ok]
                    rw [ih f.type cf h1 _ (by simp; omega)]
                    simp only [Result.andThen_ok, Sem.run_pure]
                    exact ihl _ cr h7 (by omega)
                  · cases hf
                · cases hf
              · cases hf
          have := key fs.toList 0 cl h (by omega)
          rw [this]; rfl

/-- A map's type, and how its keys are written. -/
structure KeyT (P : Program) {K : Type} (mt et : TypeId) (enc : K → Value) : Prop where
  ex : ∃ kt d cl, P.underlying mt = some (.map kt et) ∧ d ≤ 10000 ∧ d ≠ 0 ∧ clsT P d kt = some cl ∧
    ∀ a, ∃ xs, enc a = mkV P kt xs ∧ xs.length = cl.length ∧ ∀ b ys, enc b = mkV P kt ys → ys.length = cl.length → ∃ r, eqV cl xs ys = some r ∧ (r = true ↔ a = b)
  bits : ∀ a, Instr.sameBits 10000 (enc a) (enc a) = true

def ent {K V : Type} (enc : K → Value) (encv : V → Value) (x : K × V × Nat) : MapEntry := ⟨enc x.1, encv x.2.1, x.2.2⟩
def ents {K V : Type} (enc : K → Value) (encv : V → Value) (ms : List (K × V × Nat)) : List MapEntry := ms.map (ent enc encv)

/-- An association list: what is there under k, its place. -/
def MP.find {K V : Type} [DecidableEq K] (k : K) : List (K × V × Nat) → Nat → Option (Nat × V)
  | [], _ => none
  | x :: ms, i => if k = x.1 then some (i, x.2.1) else MP.find k ms (i + 1)
def MP.get {K V : Type} [DecidableEq K] (ms : List (K × V × Nat)) (k : K) : Option V := (MP.find k ms 0).map (·.2)
def MP.put {K V : Type} [DecidableEq K] : List (K × V × Nat) → K → V → Nat → List (K × V × Nat)
  | [], k, v, c => [(k, v, c)]
  | x :: ms, k, v, c => if k = x.1 then (x.1, v, x.2.2) :: ms else x :: MP.put ms k v c
def MP.del {K V : Type} [DecidableEq K] : List (K × V × Nat) → K → List (K × V × Nat)
  | [], _ => []
  | x :: ms, k => if k = x.1 then ms else x :: MP.del ms k

variable {K V : Type} [DecidableEq K] {mt et : TypeId} {enc : K → Value} {encv : V → Value}

theorem KeyT.kt (h : KeyT P mt et enc) : ∃ kt, P.underlying mt = some (.map kt et) ∧ (∀ a b (w : World), (Op.equal kt (enc a) (enc b)).run P w = .ok (decide (a = b)) w) ∧
    (∀ a em (w : World), (Instr.checkKey em 10000 kt (enc a)).run P w = .ok () w) ∧
    (∀ a b kd, P.underlying kt = some kd → Instr.sameNow kd (enc a) (enc b) = none ∨ Instr.sameNow kd (enc a) (enc b) = some (decide (a = b))) := by
  obtain ⟨kt, d, cl, h1, h2, h3, h4, h5⟩ := h.ex
  have heq : ∀ a b (w : World), (Op.equal kt (enc a) (enc b)).run P w = .ok (decide (a = b)) w := by
    intro a b w
    obtain ⟨xs, e1, e2, e3⟩ := h5 a
    obtain ⟨ys, f1, f2, _⟩ := h5 b
    obtain ⟨r, g1, g2⟩ := e3 b ys f1 f2
    have := run_eq_cls (P := P) (10000 - d) d kt cl h4 xs ys r w g1
    rw [show d + (10000 - d) = 10000 by omega, ← e1, ← f1] at this
    have hr : r = decide (a = b) := by
      cases r
      · have : ¬ a = b := fun e => by have := g2.2 e; cases this
        simp [this]
      · simp [g2.1 rfl]
    rw [← hr]
    exact this
  refine ⟨kt, h1, heq, ?_, ?_⟩
  · intro a em w
    obtain ⟨xs, e1, e2, _⟩ := h5 a
    have := run_check (P := P) em (10000 - d) d kt cl h4 xs e2 w
    rw [show d + (10000 - d) = 10000 by omega, ← e1] at this
    exact this
  · intro a b kd hkd
    obtain ⟨xs, e1, e2, e3⟩ := h5 a
    obtain ⟨ys, f1, f2, _⟩ := h5 b
    obtain ⟨r, g1, g2⟩ := e3 b ys f1 f2
    have hr : r = decide (a = b) := by
      cases r
      · have : ¬ a = b := fun e => by have := g2.2 e; cases this
        simp [this]
      · simp [g2.1 rfl]
    cases d with
    | zero => exact absurd rfl h3
    | succ d =>
      unfold clsT at h4
      rw [hkd] at h4
      cases kd <;> simp only at h4 <;> try (cases h4; done)
      case bool =>
        cases h4
        match xs, ys, e2, f2, g1 with
        | [x], [y], _, _, g1 =>
          have n1 : enc a = x := by rw [e1]; simp [mkV, isAggT, hkd]
          have n2 : enc b = y := by rw [f1]; simp [mkV, isAggT, hkd]
          rw [n1, n2]
          cases x <;> cases y <;> simp [eqV, eq1V] at g1
          right; simp only [Instr.sameNow, ← hr, ← g1]
      case int q =>
        cases h4
        match xs, ys, e2, f2, g1 with
        | [x], [y], _, _, g1 =>
          have n1 : enc a = x := by rw [e1]; simp [mkV, isAggT, hkd]
          have n2 : enc b = y := by rw [f1]; simp [mkV, isAggT, hkd]
          rw [n1, n2]
          cases x <;> cases y <;> simp only [eqV, eq1V] at g1 <;> try (cases g1; done)
          rename_i q1 i1 _ q2 i2 _ _
          by_cases hk : q1 = q2
          · subst hk
            simp only [if_true, Bool.and_true, Option.some.injEq] at g1
            right; simp only [Instr.sameNow, ← hr, ← g1, if_true]; rfl
          · simp [hk] at g1
      case string =>
        cases h4
        match xs, ys, e2, f2, g1 with
        | [x], [y], _, _, g1 =>
          have n1 : enc a = x := by rw [e1]; simp [mkV, isAggT, hkd]
          have n2 : enc b = y := by rw [f1]; simp [mkV, isAggT, hkd]
          rw [n1, n2]
          cases x <;> cases y <;> simp [eqV, eq1V] at g1
          right; simp only [Instr.sameNow, ← hr, ← g1]
      all_goals exact .inl rfl

theorem findNow_spec {kd : TypeDesc} {k : K} (h : ∀ b, Instr.sameNow kd (enc k) (enc b) = none ∨ Instr.sameNow kd (enc k) (enc b) = some (decide (k = b))) : ∀ (ms : List (K × V × Nat)) (i : Nat),
    Instr.findNow kd (enc k) (ents enc encv ms) i = none ∨ Instr.findNow kd (enc k) (ents enc encv ms) i = some ((MP.find k ms i).map fun p => (p.1, encv p.2))
  | [], i => .inr rfl
  | x :: ms, i => by
    simp only [ents, List.map_cons, Instr.findNow, ent]
    rcases h x.1 with e | e
    · rw [e]; exact .inl rfl
    · rw [e]
      by_cases hk : k = x.1
      · simp only [hk, decide_true]; right; simp [MP.find]
      · simp only [hk, decide_false, MP.find, if_false]; exact findNow_spec h ms (i + 1)
theorem findAsking_spec {kt : TypeId} {k : K} (h : ∀ b (w : World), (Op.equal kt (enc k) (enc b)).run P w = .ok (decide (k = b)) w) : ∀ (ms : List (K × V × Nat)) (i : Nat) (w : World),
    (Instr.findAsking kt (enc k) (ents enc encv ms) i).run P w = .ok ((MP.find k ms i).map fun p => (p.1, encv p.2)) w
  | [], i, w => by simp [ents, Instr.findAsking, MP.find]
  | x :: ms, i, w => by
    simp only [ents, List.map_cons, Instr.findAsking, ent, Sem.run_bind, h, Result.andThen_ok]
    by_cases hk : k = x.1
    · simp [hk, MP.find]
    · simp only [hk, decide_false, MP.find, if_false, Bool.false_eq_true]; exact findAsking_spec h ms (i + 1) w

theorem findKey_spec (h : KeyT P mt et enc) (k : K) (ms : List (K × V × Nat)) {kt : TypeId} (hkt : P.underlying mt = some (.map kt et)) {kd : TypeDesc} (hkd : P.underlying kt = some kd) (w : World) :
    (Instr.findKey kt (enc k) (ents enc encv ms)).run P w = .ok ((MP.find k ms 0).map fun p => (p.1, encv p.2)) w := by
  obtain ⟨kt', h1, h2, h3, h4⟩ := h.kt
  rw [hkt] at h1
  cases h1
  unfold Instr.findKey
  simp only [Sem.run_bind, run_und hkd, Result.andThen_ok]
  rcases findNow_spec (encv := encv) (fun b => h4 k b kd hkd) ms 0 with e | e
  · rw [e]; exact findAsking_spec (fun b w => h2 k b w) ms 0 w
  · rw [e]; simp

omit [DecidableEq K] in
theorem KeyT.kd (h : KeyT P mt et enc) : ∃ kt kd, P.underlying mt = some (.map kt et) ∧ P.underlying kt = some kd := by
  obtain ⟨kt, d, cl, h1, h2, h3, h4, h5⟩ := h.ex
  cases d with
  | zero => exact absurd rfl h3
  | succ d =>
    unfold clsT at h4
    cases hkd : P.underlying kt with
    | none => rw [hkd] at h4; cases h4
    | some kd => exact ⟨kt, kd, h1, hkd⟩

theorem lookup_is (h : KeyT P mt et enc) {z : Value} (hz : zeroT P et = some z) (ms : List (K × V × Nat)) (k : K) :
    LookupIs P mt (ents enc encv ms) (enc k) (match MP.get ms k with | some v => encv v | none => z) (MP.get ms k).isSome := by
  intro w b c ok hh
  obtain ⟨kt, kd, h1, h2⟩ := h.kd
  obtain ⟨kt', h1', h3, h4, h5⟩ := h.kt
  rw [h1] at h1'
  cases h1'
  unfold Instr.lookup
  have hg : (getObj b).run P w = .ok (.map (ents enc encv ms).toArray c) w := by simp [getObj, Sem.run, hh]
  simp only [Sem.run_bind, run_und h1, Result.andThen_ok, hg, Sem.run_pure, h4, findKey_spec h k ms h1 h2]
  unfold MP.get
  cases MP.find k ms 0 with
  | none => cases ok <;> simp [run_zero hz]
  | some p => cases ok <;> simp

theorem put_find_none {k : K} {v : V} {c : Nat} : ∀ {ms : List (K × V × Nat)} {i : Nat}, MP.find k ms i = none → MP.put ms k v c = ms ++ [(k, v, c)]
  | [], _, _ => rfl
  | x :: ms, i, h => by
    unfold MP.find at h
    split at h
    · cases h
    · rename_i hk
      simp [MP.put, hk, put_find_none h]
theorem put_find_some {k : K} {v : V} {c : Nat} : ∀ {ms : List (K × V × Nat)} {i : Nat} {p : Nat × V}, MP.find k ms i = some p → i ≤ p.1 ∧ ∃ x, ms[p.1 - i]? = some x ∧ x.1 = k ∧ x.2.1 = p.2 ∧ MP.put ms k v c = ms.set (p.1 - i) (k, v, x.2.2) ∧ MP.del ms k = ms.eraseIdx (p.1 - i)
  | [], _, _, h => by cases h
  | x :: ms, i, p, h => by
    unfold MP.find at h
    split at h
    · rename_i hk
      cases h
      exact ⟨Nat.le_refl _, x, by simp, hk.symm, rfl, by simp [MP.put, hk], by simp [MP.del, hk]⟩
    · rename_i hk
      obtain ⟨h1, y, h2, h3, h4, h5, h6⟩ := put_find_some (v := v) (c := c) h
      obtain ⟨q, hq⟩ : ∃ q, p.1 - i = q + 1 := ⟨p.1 - (i + 1), by omega⟩
      have hq' : p.1 - (i + 1) = q := by omega
      rw [hq'] at h2 h5 h6
      exact ⟨by omega, y, by rw [hq]; simpa using h2, h3, h4, by rw [hq]; simp [MP.put, hk, h5], by rw [hq]; simp [MP.del, hk, h6]⟩

theorem del_find_none {k : K} : ∀ {ms : List (K × V × Nat)} {i : Nat}, MP.find k ms i = none → MP.del ms k = ms
  | [], _, _ => rfl
  | x :: ms, i, h => by
    unfold MP.find at h
    split at h
    · cases h
    · rename_i hk
      simp [MP.del, hk, del_find_none h]

theorem update_is (h : KeyT P mt et enc) (ms : List (K × V × Nat)) (c : Nat) (k : K) (v : V) :
    UpdateIs P mt (ents enc encv ms) c (enc k) (encv v) (ents enc encv (MP.put ms k v c)) (if (MP.get ms k).isSome then c else c + 1) := by
  intro w b hh
  obtain ⟨kt, kd, h1, h2⟩ := h.kd
  obtain ⟨kt', h1', h3, h4, h5⟩ := h.kt
  rw [h1] at h1'
  cases h1'
  have hlt := (Array.getElem?_eq_some_iff.1 hh).1
  have hg : (getObj b).run P w = .ok (.map (ents enc encv ms).toArray c) w := by simp [getObj, Sem.run, hh]
  have hs : ∀ o : Obj, (setObj b o).run P w = .ok () { w with heap := w.heap.setIfInBounds b o } := by
    intro o; simp only [setObj, Sem.run, hh]
  unfold Instr.mapUpdate
  simp only [Sem.run_bind, run_und h1, Result.andThen_ok, hg, h4, findKey_spec h k ms h1 h2]
  unfold MP.get
  cases hf : MP.find k ms 0 with
  | none =>
    simp only [Option.map_none, hs, put_find_none hf]
    simp [ents, ent]
  | some p =>
    obtain ⟨_, x, g1, g2, g3, g4, _⟩ := put_find_some (v := v) (c := c) hf
    simp only [Nat.sub_zero] at g1 g4
    have hkey : ((ents enc encv ms).toArray[p.1]?.map (·.key)).getD (enc k) = enc k := by
      simp [ents, g1, ent, g2]
    simp only [Option.map_some, Sem.run_bind, hkey, Instr.keyThatStays, h.bits, if_true, Sem.run_pure, Result.andThen_ok, hs]
    congr 1
    have : (ents enc encv ms).toArray.modify p.1 (fun e => { e with key := enc k, val := encv v }) = (ents enc encv (MP.put ms k v c)).toArray := by
      apply Array.ext_getElem?
      intro j
      rw [g4]
      simp only [ents, List.getElem?_toArray, List.getElem?_map, Array.getElem?_modify]
      by_cases hj : p.1 = j
      · subst hj
        have hl := (List.getElem?_eq_some_iff.1 g1).1
        have hx : ms[p.1] = x := by rw [List.getElem?_eq_getElem hl] at g1; exact Option.some.inj g1
        simp [hl, ent, hx]
      · simp [hj, List.getElem?_set_ne hj]
    rw [this]
    simp

theorem map_erase {A B : Type} (f : A → B) : ∀ (l : List A) (i : Nat), (l.eraseIdx i).map f = (l.map f).eraseIdx i
  | [], _ => rfl
  | _ :: _, 0 => rfl
  | x :: l, i + 1 => by simp [List.eraseIdx, map_erase f l i]

theorem delete_is (h : KeyT P mt et enc) (ms : List (K × V × Nat)) (k : K) : DeleteIs P mt (ents enc encv ms) (enc k) (ents enc encv (MP.del ms k)) := by
  intro w b c hh
  obtain ⟨kt, kd, h1, h2⟩ := h.kd
  obtain ⟨kt', h1', h3, h4, h5⟩ := h.kt
  rw [h1] at h1'
  cases h1'
  have hlt := (Array.getElem?_eq_some_iff.1 hh).1
  have hg : (getObj b).run P w = .ok (.map (ents enc encv ms).toArray c) w := by simp [getObj, Sem.run, hh]
  have hs : ∀ o : Obj, (setObj b o).run P w = .ok () { w with heap := w.heap.setIfInBounds b o } := by
    intro o; simp only [setObj, Sem.run, hh]
  have a0 : (#[mt, 0] : Array TypeId)[0]? = some mt := rfl
  have b0 : (#[Value.map (some b), enc k] : Array Value)[0]? = some (.map (some b)) := rfl
  have b1 : (#[Value.map (some b), enc k] : Array Value)[1]? = some (enc k) := rfl
  unfold Builtin.delete_
  simp only [a0, b0, b1, Sem.run_bind, run_und h1, Result.andThen_ok, hg, h4, findKey_spec h k ms h1 h2]
  cases hf : MP.find k ms 0 with
  | none =>
    simp only [Option.map_none, Sem.run_bind, hs, del_find_none hf, Result.andThen_ok, Sem.run_pure]
  | some p =>
    obtain ⟨_, x, g1, g2, g3, _, g5⟩ := put_find_some (v := p.2) (c := c) hf
    simp only [Nat.sub_zero] at g1 g5
    simp only [Option.map_some, Sem.run_bind, hs, Result.andThen_ok, Sem.run_pure]
    have : (ents enc encv ms).toArray.eraseIdxIfInBounds p.1 = (ents enc encv (MP.del ms k)).toArray := by
      rw [g5]
      have hl := (List.getElem?_eq_some_iff.1 g1).1
      apply Array.toList_inj.1
      simp [ents, Array.eraseIdxIfInBounds, hl, map_erase]
    rw [this]
end
end Go.V

namespace Go.V
open Go

abbrev iv (n : Int) : SV := .raw (.int .i64 n)
abbrev bv (b : Bool) : SV := .raw (.bool b)

/-! ### Vectors of seven -/
abbrev vcells (v : Nat → Int) : List SV := [iv (v 0), iv (v 1), iv (v 2), iv (v 3), iv (v 4), iv (v 5), iv (v 6)]
theorem vcells_get (v : Nat → Int) (i : Nat) (h : i < 7) (l : List SV) : (vcells v ++ l)[i]? = some (iv (v i)) := by
  match i, h with | 0, _ | 1, _ | 2, _ | 3, _ | 4, _ | 5, _ | 6, _ => rfl
theorem vcells_get' (v : Nat → Int) {n : Int} (h : 0 ≤ n ∧ n < 7) (l : List SV) : (vcells v ++ l)[0 + n.toNat * 1]? = some (iv (v n.toNat)) := by
  rw [Nat.zero_add, Nat.mul_one]; exact vcells_get v _ (by omega) l
def upv (v : Nat → Int) (i : Nat) (x : Int) : Nat → Int := fun j => if j = i then x else v j
theorem vcells_put (v : Nat → Int) (x : Int) {n : Int} (h : 0 ≤ n ∧ n < 7) (l : List SV) : paste (vcells v ++ l) (0 + n.toNat * 1) [iv x] = some (vcells (upv v n.toNat x) ++ l) := by
  rw [Nat.zero_add, Nat.mul_one]
  have h7 : n.toNat < 7 := by omega
  generalize n.toNat = i at *
  match i, h7 with | 0, _ | 1, _ | 2, _ | 3, _ | 4, _ | 5, _ | 6, _ => simp [paste, upv]
theorem wrap64 {n : Int} (h : -9223372036854775808 ≤ n ∧ n ≤ 9223372036854775807) : IntKind.i64.wrap n = n := IntWalk.i64_in n h

/-! ### Association lists -/
section
variable {K V : Type} [DecidableEq K]
theorem find_any (k : K) : ∀ (ms : List (K × V × Nat)) (i j : Nat), (MP.find k ms i).map (·.2) = (MP.find k ms j).map (·.2)
  | [], _, _ => rfl
  | x :: ms, i, j => by
    unfold MP.find
    split
    · rfl
    · exact find_any k ms _ _
theorem get_nil (k : K) : MP.get ([] : List (K × V × Nat)) k = none := rfl
theorem get_cons (x : K × V × Nat) (ms : List (K × V × Nat)) (k : K) : MP.get (x :: ms) k = if k = x.1 then some x.2.1 else MP.get ms k := by
  unfold MP.get
  rw [MP.find]
  split
  · rfl
  · exact find_any k ms _ _
theorem get_mem : ∀ {ms : List (K × V × Nat)} {k : K}, (MP.get ms k).isSome = true ↔ k ∈ ms.map (·.1)
  | [], k => by simp [get_nil]
  | x :: ms, k => by
    rw [get_cons]
    by_cases h : k = x.1
    · simp [h]
    · simp only [h, if_false, get_mem (ms := ms), List.map_cons, List.mem_cons, false_or]
theorem get_put : ∀ (ms : List (K × V × Nat)) (k : K) (v : V) (c : Nat) (d : K), MP.get (MP.put ms k v c) d = if d = k then some v else MP.get ms d
  | [], k, v, c, d => by
    rw [MP.put, get_cons, get_nil]
  | x :: ms, k, v, c, d => by
    rw [MP.put]
    by_cases h : k = x.1
    · rw [if_pos h, get_cons, get_cons, h]
      by_cases h2 : d = x.1 <;> simp [h2]
    · rw [if_neg h, get_cons, get_cons, get_put ms]
      by_cases h2 : d = x.1
      · simp [h2, Ne.symm h]
      · simp [h2]
theorem keys_put : ∀ (ms : List (K × V × Nat)) (k : K) (v : V) (c : Nat), (MP.put ms k v c).map (·.1) = if k ∈ ms.map (·.1) then ms.map (·.1) else ms.map (·.1) ++ [k]
  | [], k, v, c => by simp [MP.put]
  | x :: ms, k, v, c => by
    rw [MP.put]
    by_cases h : k = x.1
    · simp [h]
    · rw [if_neg h]
      simp only [List.map_cons, keys_put ms, List.mem_cons, h, false_or]
      split <;> simp
theorem nodup_put {ms : List (K × V × Nat)} (h : (ms.map (·.1)).Nodup) (k : K) (v : V) (c : Nat) : ((MP.put ms k v c).map (·.1)).Nodup := by
  rw [keys_put]
  split
  · exact h
  · rename_i hk
    rw [List.nodup_append]
    exact ⟨h, by simp, fun a ha b hb => by simp at hb; subst hb; exact fun e => hk (e ▸ ha)⟩
theorem len_put (ms : List (K × V × Nat)) (k : K) (v : V) (c : Nat) : (MP.put ms k v c).length = if (MP.get ms k).isSome then ms.length else ms.length + 1 := by
  have := congrArg List.length (keys_put ms k v c)
  rw [List.length_map] at this
  rw [this]
  by_cases h : k ∈ ms.map (·.1)
  · rw [if_pos h, if_pos (get_mem.2 h), List.length_map]
  · have h2 : ¬ (MP.get ms k).isSome = true := fun e => h (get_mem.1 e)
    rw [if_neg h, if_neg h2]; simp
theorem keys_del : ∀ (ms : List (K × V × Nat)) (k : K), (MP.del ms k).map (·.1) = (ms.map (·.1)).erase k
  | [], k => rfl
  | x :: ms, k => by
    rw [MP.del]
    by_cases h : k = x.1
    · simp [h]
    · rw [if_neg h]
      simp only [List.map_cons, keys_del ms]
      rw [List.erase_cons_tail]
      simpa using fun e : x.1 = k => h e.symm
theorem get_del : ∀ (ms : List (K × V × Nat)) (k d : K), (ms.map (·.1)).Nodup → MP.get (MP.del ms k) d = if d = k then none else MP.get ms d
  | [], k, d, _ => by simp [MP.del, get_nil]
  | x :: ms, k, d, h => by
    simp only [List.map_cons, List.nodup_cons] at h
    rw [MP.del]
    by_cases hk : k = x.1
    · rw [if_pos hk, get_cons, hk]
      by_cases h2 : d = x.1
      · have : MP.get ms d = none := by
          cases hg : MP.get ms d with
          | none => rfl
          | some v => exact absurd (get_mem.1 (by rw [hg]; rfl)) (h2 ▸ h.1)
        simp [h2, h2 ▸ this]
      · simp [h2]
    · rw [if_neg hk, get_cons, get_cons, get_del ms k d h.2]
      by_cases h2 : d = x.1
      · simp [h2, Ne.symm hk]
      · simp [h2]
theorem nodup_del {ms : List (K × V × Nat)} (h : (ms.map (·.1)).Nodup) (k : K) : ((MP.del ms k).map (·.1)).Nodup := by
  rw [keys_del]; exact h.erase k
theorem len_del {ms : List (K × V × Nat)} {k : K} (h : (MP.get ms k).isSome = true) : (MP.del ms k).length + 1 = ms.length := by
  have h1 := congrArg List.length (keys_del ms k)
  rw [List.length_map, List.length_erase_of_mem (get_mem.1 h), List.length_map] at h1
  have : 0 < ms.length := by
    have := List.length_pos_of_mem (get_mem.1 h)
    simpa using this
  omega
/-- A map's entries were born one by one, ahead of its clock. -/
def MOK (ms : List (K × V × Nat)) (c : Nat) : Prop := (∀ x ∈ ms, x.2.2 < c) ∧ (ms.map (·.2.2)).Nodup
omit [DecidableEq K] in
theorem MOK.nil (c : Nat) : MOK ([] : List (K × V × Nat)) c := ⟨by simp, by simp⟩
theorem del_sub : ∀ (ms : List (K × V × Nat)) (k : K), (MP.del ms k).Sublist ms
  | [], _ => .slnil
  | x :: ms, k => by
    rw [MP.del]
    split
    · exact List.sublist_cons_self _ _
    · exact (del_sub ms k).cons_cons _
theorem MOK.del {ms : List (K × V × Nat)} {c : Nat} (h : MOK ms c) (k : K) : MOK (MP.del ms k) c :=
  ⟨fun x hx => h.1 x ((del_sub ms k).subset hx), h.2.sublist ((del_sub ms k).map _)⟩
theorem put_born : ∀ (ms : List (K × V × Nat)) (k : K) (v : V) (c : Nat), (MP.put ms k v c).map (·.2.2) = if (MP.get ms k).isSome then ms.map (·.2.2) else ms.map (·.2.2) ++ [c]
  | [], k, v, c => by simp [MP.put, get_nil]
  | x :: ms, k, v, c => by
    rw [MP.put, get_cons]
    by_cases h : k = x.1
    · simp [h]
    · rw [if_neg h, if_neg h]
      simp only [List.map_cons, put_born ms]
      split <;> simp
theorem MOK.put {ms : List (K × V × Nat)} {c : Nat} (h : MOK ms c) (k : K) (v : V) : MOK (MP.put ms k v c) (if (MP.get ms k).isSome then c else c + 1) := by
  have hb : ∀ n, n ∈ ms.map (·.2.2) → n < c := by
    intro n hn
    obtain ⟨x, hx, rfl⟩ := List.mem_map.1 hn
    exact h.1 x hx
  have hall : ∀ x ∈ MP.put ms k v c, x.2.2 ∈ (MP.put ms k v c).map (·.2.2) := fun x hx => List.mem_map.2 ⟨x, hx, rfl⟩
  constructor
  · intro x hx
    have := hall x hx
    rw [put_born] at this
    split
    · rename_i hs
      rw [if_pos hs] at this
      exact hb _ this
    · rename_i hs
      rw [if_neg hs] at this
      rcases List.mem_append.1 this with h1 | h1
      · have := hb _ h1; omega
      · have : x.2.2 = c := by simpa using h1
        omega
  · rw [put_born]
    split
    · exact h.2
    · rw [List.nodup_append]
      exact ⟨h.2, by simp, fun a ha b hb' => by
        simp at hb'; subst hb'
        have := hb a ha
        omega⟩
end

abbrev dcells (r n : Int) : List SV := [iv r, iv n]
end Go.V

