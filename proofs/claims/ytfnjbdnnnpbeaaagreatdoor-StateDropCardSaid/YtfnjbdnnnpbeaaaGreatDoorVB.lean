/- Part of the proof that the statement named in the last file holds: lemmas of the prover's own. No conditions. -/
import Derived.Test.YtfnjbdnnnpbeaaaGreatDoorVA
import Derived.Laws.Append
import Derived.Laws.Slices
import Derived.Laws.BytesArg
import Derived.Maps.RangeRun
import Derived.Laws.AppendOwn
import Derived.IntWalk
namespace Go.V
open Go
set_option linter.unusedSectionVars false
variable [Mode]

section
variable {P : Program} {ρ : Rho} {H : List SO} {g : Fr} {w : World} {K : SV → List SO → Prop} {t : List SV} {a : Act} {o : Oper}

theorem map_of (hS : St ρ H g w) {j : Nat} {es : List MapEntry} {c : Nat} (hk : obj H j = .map es c) : H[j]? = some (.map es c) ∧ ∃ b, ρ j = some b ∧ w.heap[b]? = some (.map es.toArray c) := by
  have hk' : H[j]? = some (.map es c) := by rw [← hk]; exact obj_some (by simp [hk])
  exact ⟨hk', hS.ent j _ hk'⟩

theorem s_mkif (h : At P ρ H g w t a) {ty : TypeId} {x : Operand} {y : Opd} {d : TypeDesc} (hu : P.underlying ty = some d) (hd : ∀ ms, d ≠ .interface ms) (hx : cOpd x = some y) (hv : vcOp P (.mkif ty y) t H K) :
    GoodRes1 P ρ H K w ((do pure (Next.value (← Instr.makeInterface ty (a.eval x))) : Sem Next).run P w) := by
  simp only [vcOp, evK_eq] at hv
  refine GoodRes1.val (v := .iface ty (a.eval x)) ?_ ?_
  · cases d <;> first | (exact absurd rfl (hd _)) | simp [Instr.makeInterface, run_und hu]
  · rw [h.eq hx]; exact Here.here (sv := .ifc ty (ev t y)) (by simp only [below]; exact h.bel hx) hv

theorem s_mkfn (h : At P ρ H g w t a) {f : FuncId} {caps : Array Operand} {l : List Opd} (hx : cOpds caps = some l) (hv : vcOp P (.mkfn f l) t H K) :
    GoodRes1 P ρ H K w ((do pure (Next.value (← Instr.makeFunc (.func f) (#[].map a.eval) (caps.map a.eval))) : Sem Next).run P w) := by
  simp only [vcOp, evLK_eq] at hv
  obtain ⟨h1, h2⟩ := evL_map h (l := caps.toList) hx
  refine GoodRes1.val ?_ (Here.here (sv := .fn f (evL t l)) (by simp only [below]; exact h2) hv)
  have e : caps.map a.eval = (valL ρ (evL t l)).toArray := Array.ext' (by simp only [Array.toList_map]; exact h1)
  simp [Instr.makeFunc, V.val, e]

theorem s_mkmap (h : At P ρ H g w t a) {ty : TypeId} (hv : vcOp P .mkmap t H K) :
    GoodRes P ρ H g K ((do pure (Next.value (← Instr.makeMap ty none)) : Sem Next).run P w) := by
  simp only [vcOp, newHK_eq] at hv
  refine GoodRes.val (v := .map (some w.heap.size)) (w' := w.alloc (.map #[] 0)) ?_ ?_
  · simp [Instr.makeMap]
  · exact Res.alloc h.s (so := .map [] 0) (sv := .mp H.length) ⟨rfl, rfl, rfl, rfl, Nat.le_refl _⟩ rfl ⟨w.heap.size, upd_same _ _ _, heap_push_new rfl⟩ (by simp) (by simp) (by simp [V.val, upd_same]) (by simp [below]) hv

theorem s_extr (h : At P ρ H g w t a) {x : Operand} {y : Opd} {i : Nat} (hx : cOpd x = some y) (hv : vcOp P (.extr y i) t H K) :
    GoodRes1 P ρ H K w ((do pure (Next.value (← Instr.extract (a.eval x) i)) : Sem Next).run P w) := by
  simp only [vcOp, evK_eq] at hv
  have hb := h.bel hx
  split at hv
  · rename_i l e
    rw [e] at hb
    split at hv
    · rename_i v hl
      refine GoodRes1.val ?_ (Here.here ((belowL_eq _ _).1 hb v (List.mem_of_getElem? hl)) hv)
      rw [h.eq hx, e]
      simp [V.val, Instr.extract, valL_eq, hl]
    · exact hv.elim
  · exact hv.elim

theorem s_min (h : At P ρ H g w t a) {x y : Operand} {x' y' : Opd} {ts : Array TypeId} {ty : TypeId} (hx : cOpd x = some x') (hy : cOpd y = some y') (hv : vcOp P (.min x' y') t H K) :
    GoodRes1 P ρ H K w ((do pure (Next.value (← Builtin.min_ ts ty #[a.eval x, a.eval y])) : Sem Next).run P w) := by
  simp only [vcOp, evK_eq] at hv
  split at hv
  · rename_i k p k' q e1 e2
    refine GoodRes1.val ?_ (Here.here (sv := .raw (.int k (if q < p then q else p))) rfl hv)
    rw [h.eq hx, h.eq hy, e1, e2]
    exact run_min_int2 w ts ty k k' p q
  · exact hv.elim
theorem s_max (h : At P ρ H g w t a) {x y : Operand} {x' y' : Opd} {ts : Array TypeId} {ty : TypeId} (hx : cOpd x = some x') (hy : cOpd y = some y') (hv : vcOp P (.max x' y') t H K) :
    GoodRes1 P ρ H K w ((do pure (Next.value (← Builtin.max_ ts ty #[a.eval x, a.eval y])) : Sem Next).run P w) := by
  simp only [vcOp, evK_eq] at hv
  split at hv
  · rename_i k p k' q e1 e2
    refine GoodRes1.val ?_ (Here.here (sv := .raw (.int k (if q > p then q else p))) rfl hv)
    rw [h.eq hx, h.eq hy, e1, e2]
    exact run_max_int2 w ts ty k k' p q
  · exact hv.elim

theorem s_len (h : At P ρ H g w t a) {x : Operand} {y : Opd} {ts : Array TypeId} {ty u : TypeId} {k : LK} (ht : ts[0]? = some u) (hk : lenKind P u = some k) (hx : cOpd x = some y) (hv : vcOp P (.len k y) t H K) :
    GoodRes1 P ρ H K w ((do pure (Next.value (← Builtin.len_ ts ty #[a.eval x])) : Sem Next).run P w) := by
  simp only [vcOp, evK_eq] at hv
  rw [h.eq hx]
  generalize ev t y = v at *
  have hd : ∃ d, P.underlying u = some d ∧ (match k, d with | .str, .string => True | .sl, .slice _ => True | .mp, .map _ _ => True | _, _ => False) := by
    unfold lenKind at hk
    cases hu : P.underlying u with
    | none => simp [hu] at hk
    | some d => cases d <;> simp [hu] at hk <;> subst hk <;> exact ⟨_, rfl, trivial⟩
  obtain ⟨d, hu, hd⟩ := hd
  have key : ∀ n : Nat, (Builtin.len_ ts ty #[V.val ρ v]).run P w = .ok (.int .i64 n) w → K (.raw (.int .i64 n)) H → GoodRes1 P ρ H K w ((do pure (Next.value (← Builtin.len_ ts ty #[V.val ρ v])) : Sem Next).run P w) := by
    intro n h1 h2
    exact GoodRes1.val h1 (Here.here (sv := .raw (.int .i64 n)) rfl h2)
  unfold vcLen at hv
  split at hv
  · cases d <;> simp at hd
    exact key _ (by simp [Builtin.len_, ht, run_und hu, V.val, goInt]) hv
  · cases d <;> simp at hd
    exact key _ (by simp [Builtin.len_, ht, run_und hu, V.val, goInt]) hv
  · cases d <;> simp at hd
    exact key _ (by simp [Builtin.len_, ht, run_und hu, V.val, goInt]) hv
  · cases d <;> simp at hd
    exact key 0 (by simp [Builtin.len_, ht, run_und hu, V.val, goInt]) hv
  · rename_i j
    cases d <;> simp at hd
    simp only [objK_eq] at hv
    split at hv
    · rename_i es c hk'
      obtain ⟨_, b, hb, hh⟩ := map_of h.s hk'
      exact key _ (by simp [Builtin.len_, ht, run_und hu, V.val, hb, getObj, Sem.run, hh, goInt]) hv
    · exact hv.elim
  · exact hv.elim

theorem s_cap (h : At P ρ H g w t a) {x : Operand} {y : Opd} {ts : Array TypeId} {ty u : TypeId} (ht : ts[0]? = some u) (hk : lenKind P u = some .sl) (hx : cOpd x = some y) (hv : vcOp P (.cap y) t H K) :
    GoodRes1 P ρ H K w ((do pure (Next.value (← Builtin.cap_ ts ty #[a.eval x])) : Sem Next).run P w) := by
  simp only [vcOp, evK_eq] at hv
  rw [h.eq hx]
  have hu : ∃ e, P.underlying u = some (.slice e) := by
    unfold lenKind at hk
    cases hu : P.underlying u with
    | none => simp [hu] at hk
    | some d => cases d <;> simp [hu] at hk <;> exact ⟨_, rfl⟩
  obtain ⟨e, hu⟩ := hu
  split at hv
  · rename_i c e1
    rw [e1]
    exact GoodRes1.val (by simp [Builtin.cap_, ht, run_und hu, V.val, goInt]) (Here.here (sv := .raw (.int .i64 c)) rfl hv)
  · rename_i c e1
    rw [e1]
    exact GoodRes1.val (by simp [Builtin.cap_, ht, run_und hu, V.val, goInt]) (Here.here (sv := .raw (.int .i64 c)) rfl hv)
  · exact hv.elim

theorem s_sindex (h : At P ρ H g w t a) {x i : Operand} {x' i' : Opd} {ty : TypeId} (hu : P.underlying ty = some .string) (hx : cOpd x = some x') (hi : cOpd i = some i') (hv : vcOp P (.sindex x' i') t H K) :
    GoodRes1 P ρ H K w ((do pure (Next.value (← Instr.index ty (a.eval x) (a.eval i))) : Sem Next).run P w) := by
  simp only [vcOp, evK_eq] at hv
  rw [h.eq hx, h.eq hi]
  split at hv
  · rename_i s k j e1 e2
    obtain ⟨b, ⟨h1, h2⟩, h3⟩ := hv
    refine GoodRes1.val ?_ (Here.here (sv := .raw (.int .u8 b.toNat)) rfl h3)
    rw [e1, e2]
    have : s[j.toNat]? = some b := by
      have h4 := (List.getElem?_eq_some_iff.1 h2)
      obtain ⟨h5, h6⟩ := h4
      have h7 : j.toNat < s.size := by simpa using h5
      rw [getElem?_pos s j.toNat h7]
      congr 1
    simp [V.val, Instr.index, asIntOf, run_und hu, h1, this]
  · exact hv.elim

theorem s_aindex (h : At P ρ H g w t a) {x i : Operand} {x' i' : Opd} {ty el : TypeId} {n sz : Nat} {ag : Bool} (hu : P.underlying ty = some (.array n el)) (hn : sizeT P el = some sz) (ha : isAggT P el = some ag) (h1 : ag = false → sz = 1)
    (hx : cOpd x = some x') (hi : cOpd i = some i') (hv : vcOp P (.aindex n sz ag x' i') t H K) :
    GoodRes1 P ρ H K w ((do pure (Next.value (← Instr.index ty (a.eval x) (a.eval i))) : Sem Next).run P w) := by
  simp only [vcOp, evK_eq] at hv
  have hb := h.bel hx
  rw [h.eq hx, h.eq hi]
  split at hv
  · rename_i l k j e1 e2
    rw [e1] at hb
    simp only [below] at hb
    obtain ⟨⟨r1, r2⟩, hv⟩ := hv
    rw [e1, e2]
    cases ag with
    | true =>
      obtain ⟨l', hc, hk⟩ := hv
      obtain ⟨c1, c2⟩ := cut_spec hc
      refine GoodRes1.val ?_ (Here.here (sv := .agg l') (by simp only [below]; rw [belowL_eq] at hb ⊢; exact fun v hv => hb v (cut_mem hc v hv)) hk)
      simp only [V.val, Instr.index, asIntOf, Sem.run_bind, Sem.run_pure, Result.andThen_ok, run_und hu, r1, r2, and_self, if_true, run_size hn, part, run_isAgg ha]
      congr 2
      apply Array.ext'
      simp only [List.extract_toArray, List.extract]
      apply List.ext_getElem?
      intro m
      by_cases hm : m < sz
      · rw [List.getElem?_take_of_lt (by omega), List.getElem?_drop]
        simp only [valL_eq, List.getElem?_map, c2 m hm]
      · have e1 : (valL ρ l').length ≤ m := by rw [valL_eq, List.length_map]; omega
        rw [List.getElem?_eq_none e1, List.getElem?_eq_none (by simp; omega)]
    | false =>
      obtain ⟨v, hl, hk⟩ := hv
      refine GoodRes1.val ?_ (Here.here ((belowL_eq _ _).1 hb v (List.mem_of_getElem? hl)) hk)
      simp only [V.val, Instr.index, asIntOf, Sem.run_bind, Sem.run_pure, Result.andThen_ok, run_und hu, r1, r2, and_self, if_true, run_size hn, part, run_isAgg ha]
      simp [valL_eq, hl]
  · exact hv.elim

theorem s_lookup (h : At P ρ H g w t a) {x i : Operand} {x' i' : Opd} {ty : TypeId} {ok : Bool} (hx : cOpd x = some x') (hi : cOpd i = some i') (hv : vcOp P (.lookup ty ok x' i') t H K) :
    GoodRes1 P ρ H K w ((do pure (Next.value (← Instr.lookup ty (a.eval x) (a.eval i) ok)) : Sem Next).run P w) := by
  simp only [vcOp, evK_eq] at hv
  rw [h.eq hx, h.eq hi]
  unfold vcLookup at hv
  split at hv
  · rename_i j key e1 e2
    rw [objK_eq] at hv
    split at hv
    · rename_i es c hk
      obtain ⟨v, there, x0, h1, h2, h3⟩ := hv
      obtain ⟨_, b, hb, hh⟩ := map_of h.s hk
      have hr := h1 w b c ok hh
      rw [e1, plain_val ρ e2]
      simp only [V.val, hb]
      cases ok with
      | true =>
        refine GoodRes1.val hr ?_
        have := Here.here (ρ := ρ) (K := K) (sv := .tup [v, .raw (.bool there)]) (by simp [below, belowL, plain_below _ h2]) h3
        simpa [V.val, valL, plain_val ρ h2] using this
      | false =>
        refine GoodRes1.val hr ?_
        have := Here.here (ρ := ρ) (K := K) (plain_below _ h2) h3
        simpa [plain_val ρ h2] using this
    · exact hv.elim
  · exact hv.elim

theorem map_set (hS : St ρ H g w) {j : Nat} {es es' : List MapEntry} {c c' : Nat} (hk : obj H j = .map es c) {b : Nat} (hb : ρ j = some b) (hK : K un (H.set j (.map es' c'))) :
    Res ρ H g K undef { w with heap := w.heap.setIfInBounds b (.map es'.toArray c') } := by
  have hk' : H[j]? = some (.map es c) := by rw [← hk]; exact obj_some (by simp [hk])
  obtain ⟨b', hb', hh⟩ := hS.ent j _ hk'
  obtain rfl : b' = b := by rw [hb] at hb'; exact (Option.some.inj hb').symm
  have hlt := (Array.getElem?_eq_some_iff.1 hh).1
  refine ⟨ρ, un, H.set j (.map es' c'), by simp [V.val, undef], ?_, fun _ _ => rfl, by simp, rfl, hK⟩
  refine hS.set hk' rfl rfl hb ⟨rfl, rfl, rfl, rfl, Nat.le_refl _⟩ ⟨b', hb, ?_⟩ (by simp) (by simp)
  simp [hlt]

theorem s_mapup (h : At P ρ H g w t a) {x i v : Operand} {x' i' v' : Opd} {ty : TypeId} (hx : cOpd x = some x') (hi : cOpd i = some i') (hz : cOpd v = some v') (hv : vcOp P (.mapup ty x' i' v') t H K) :
    GoodRes P ρ H g K ((do Instr.mapUpdate ty (a.eval x) (a.eval i) (a.eval v); pure Next.skip : Sem Next).run P w) := by
  simp only [vcOp, evK_eq] at hv
  rw [h.eq hx, h.eq hi, h.eq hz]
  unfold vcMapup at hv
  split at hv
  · rename_i j key x0 e1 e2 e3
    rw [objK_eq] at hv
    split at hv
    · rename_i es c hk
      obtain ⟨es', c', h1, h2⟩ := hv
      rw [setHK_eq] at h2
      obtain ⟨_, b, hb, hh⟩ := map_of h.s hk
      have hr := h1 w b hh
      rw [e1, plain_val ρ e2, plain_val ρ e3]
      simp only [V.val, hb]
      exact GoodRes.unit hr (map_set h.s hk hb h2)
    · exact hv.elim
  · exact hv.elim

theorem s_delete (h : At P ρ H g w t a) {x i : Operand} {x' i' : Opd} {ty u : TypeId} {ts : Array TypeId} (ht : ts[0]? = some ty) (hx : cOpd x = some x') (hi : cOpd i = some i') (hv : vcOp P (.delete ty x' i') t H K) :
    GoodRes P ρ H g K ((do pure (Next.value (← Builtin.delete_ ts u #[a.eval x, a.eval i])) : Sem Next).run P w) := by
  simp only [vcOp, evK_eq] at hv
  rw [h.eq hx, h.eq hi]
  unfold vcDelete at hv
  split at hv
  · rename_i j key e1 e2
    rw [objK_eq] at hv
    split at hv
    · rename_i es c hk
      obtain ⟨es', h1, h2⟩ := hv
      rw [setHK_eq] at h2
      obtain ⟨_, b, hb, hh⟩ := map_of h.s hk
      have hr := h1 w b c hh
      have e0 : Builtin.delete_ ts u #[.map (some b), key] = Builtin.delete_ #[ty, 0] 0 #[.map (some b), key] := by
        unfold Builtin.delete_; simp [ht]
      rw [e1, plain_val ρ e2]
      simp only [V.val, hb, e0]
      exact GoodRes.val hr (map_set h.s hk hb h2)
    · exact hv.elim
  · exact hv.elim
end
end Go.V

namespace Go.V
open Go
set_option linter.unusedSectionVars false
variable [Mode]

section
variable {P : Program} {ρ : Rho} {H : List SO} {g : Fr} {w : World} {K : SV → List SO → Prop} {t : List SV} {a : Act} {o : Oper}

/-! ### Slices' elements -/
def ElemsAt (w : World) (adr : Option Addr) (ys : List Value) : Prop :=
  (adr = none ∧ ys = []) ∨ ∃ b off, adr = some ⟨b, off, none⟩ ∧ ∀ (j : Nat) x, ys[j]? = some x → w.cell? ⟨b, off + j, none⟩ = some x
theorem slElems_spec (hS : St ρ H g w) {sz : Nat} {v : SV} {ys : List Value} {m : Nat} (h : slElems H sz v = some (ys, m)) :
    (∃ adr c, val ρ v = .slice adr m c ∧ ElemsAt w adr ys) ∨
    (∃ s : ByteArray, val ρ v = .string s ∧ m = s.size ∧ ys = s.data.toList.map fun b => .int .u8 b.toNat) := by
  have key : ∀ (k o n : Nat) xs e, (obj H k = .arr xs e ∨ obj H k = .ro xs e) → ElemsAt w ((ρ k).map fun b => ⟨b, o, none⟩) ((xs.drop o).take (n * sz)) := by
    intro k o n xs e hk
    rcases row_of hS hk with rfl | ⟨b, fr, hb, hh⟩
    · cases hr : ρ k with
      | none => exact .inl ⟨rfl, by simp⟩
      | some b => exact .inr ⟨b, o, rfl, fun j x hj => by simp at hj⟩
    · refine .inr ⟨b, o, by simp [hb], fun j x hj => ?_⟩
      rw [cell_of hh]
      have : j < n * sz := by
        have := (List.getElem?_eq_some_iff.1 hj).1; simp at this; omega
      rw [List.getElem?_take_of_lt this, List.getElem?_drop] at hj
      simpa using hj
  unfold slElems at h
  split at h
  · rename_i k o n c
    split at h
    · rename_i xs e hk; cases h; exact .inl ⟨_, c, rfl, key k o m xs e (.inl hk)⟩
    · rename_i xs e hk; cases h; exact .inl ⟨_, c, rfl, key k o m xs e (.inr hk)⟩
    · cases h
  · cases h
    exact .inl ⟨none, _, rfl, .inl ⟨rfl, rfl⟩⟩
  · cases h
    exact .inr ⟨_, rfl, rfl, rfl⟩
  · cases h

theorem s_conv_int (h : At P ρ H g w t a) {src dst : TypeId} {x : Operand} {y : Opd} {q k : IntKind} (h1 : P.underlying src = some (.int q)) (h2 : P.underlying dst = some (.int k)) (hx : cOpd x = some y) (hv : vcOp P (.conv (.int k) y) t H K) :
    GoodRes1 P ρ H K w ((do pure (Next.value (← convert src dst (a.eval x))) : Sem Next).run P w) := by
  simp only [vcOp, evK_eq] at hv
  rw [h.eq hx]
  generalize ev t y = v at *
  cases v <;> simp only [vcConv] at hv
  rename_i v
  cases v <;> simp only at hv
  rename_i k' n
  obtain ⟨m, hm, hk⟩ := hv
  refine GoodRes1.val (v := .int k m) ?_ (Here.here (sv := .raw (.int k m)) rfl hk)
  simp [V.val, convert, run_und h1, run_und h2, Conv.intToInt, hm]

theorem s_conv_same (h : At P ρ H g w t a) {src dst : TypeId} {x : Operand} {y : Opd} (h1 : P.underlying src = some .string) (h2 : P.underlying dst = some .string) (hx : cOpd x = some y) (hv : vcOp P (.conv .same y) t H K) :
    GoodRes1 P ρ H K w ((do pure (Next.value (← convert src dst (a.eval x))) : Sem Next).run P w) := by
  simp only [vcOp, evK_eq] at hv
  rw [h.eq hx]
  generalize ev t y = v at *
  cases v <;> simp only [vcConv] at hv
  rename_i v
  cases v <;> simp only at hv
  rename_i s
  refine GoodRes1.val (v := .string s) ?_ (Here.here (sv := .raw (.string s)) rfl hv)
  simp [V.val, convert, run_und h1, run_und h2]

theorem s_conv_s2b (h : At P ρ H g w t a) {src dst e : TypeId} {x : Operand} {y : Opd} (h1 : P.underlying src = some .string) (h2 : P.underlying dst = some (.slice e)) (h3 : P.underlying e = some (.int .u8)) (hx : cOpd x = some y) (hv : vcOp P (.conv (.s2b e) y) t H K) :
    GoodRes P ρ H g K ((do pure (Next.value (← convert src dst (a.eval x))) : Sem Next).run P w) := by
  simp only [vcOp, evK_eq] at hv
  rw [h.eq hx]
  generalize ev t y = v at *
  cases v <;> simp only [vcConv] at hv
  rename_i v
  cases v <;> simp only at hv
  rename_i s
  let cp := (Question.appendCap s.size 0 e).cut (w.tape w.drawn (.appendCap s.size 0 e))
  have hcp : s.size ≤ cp := by simp only [cp, Question.cut]; omega
  have hk := hv cp hcp
  rw [newHK_eq] at hk
  let xs : List Value := s.data.toList.map (fun b => Value.int .u8 b.toNat) ++ List.replicate (cp - s.size) (.int .u8 0)
  have hlen : xs.length = cp := by simp [xs]; omega
  let w1 : World := { { w with drawn := w.drawn + 1 } with heap := w.heap.push (.cells xs.toArray e (0, 0)) }
  let w2 : World := w1.freeze ⟨w.heap.size, cp, none⟩ 1
  have hw2 : w2.heap = w.heap.push (.cells xs.toArray e (cp, cp + 1)) := by
    simp only [w2, w1, World.freeze]
    apply Array.ext_getElem?
    intro j
    by_cases hj : w.heap.size = j
    · subst hj; simp [Array.getElem_modify]
    · simp only [Nat.one_ne_zero, if_false, Array.getElem?_modify, hj]
      simp [Array.getElem?_push, Ne.symm hj]
  refine GoodRes.val (v := .slice (some ⟨w.heap.size, 0, none⟩) s.size cp) (w' := w2) ?_ ?_
  · have hconv : (convert src dst (.string s)).run P w = (Conv.stringToBytes e s).run P w := by simp [convert, run_und h1, run_und h2, run_und h3]
    simp only [V.val]
    rw [hconv]
    have harr : Array.map (fun b : UInt8 => Value.int IntKind.u8 b.toNat) s.data ++ Array.replicate (cp - s.size) (Value.int IntKind.u8 0) = xs.toArray := by
      apply Array.ext'; simp [xs]
    simp only [Conv.stringToBytes, Sem.run_bind, run_choose, Question.forced, Bool.false_eq_true, if_false, Result.andThen_ok, newRow, run_newObj, Sem.run_pure]
    have harr' : Array.map (fun b : UInt8 => Value.int IntKind.u8 b.toNat) s.data ++ Array.replicate ((Question.appendCap s.size 0 e).cut (w.tape w.drawn (Question.appendCap s.size 0 e)) - s.size) (Value.int IntKind.u8 0) = xs.toArray := harr
    rw [harr']
    simp only [markStringish, Sem.run_bind, run_shape, Result.andThen_ok, World.shape?]
    simp [hlen, w2, w1, cp]
  · refine Res.alloc h.s (so := .arr xs e) (sv := .sl H.length 0 s.size cp) ⟨hw2, rfl, rfl, rfl, Nat.le_succ _⟩ rfl (.inr ⟨w.heap.size, (cp, cp + 1), upd_same _ _ _, heap_push_new hw2, .inr (by simp [hlen])⟩) (by simp) (by simp) (by simp [V.val, upd_same]) (by simp [below]) hk

theorem s_conv_b2s (h : At P ρ H g w t a) {src dst e : TypeId} {x : Operand} {y : Opd} (h1 : P.underlying src = some (.slice e)) (h2 : P.underlying dst = some .string) (h3 : P.underlying e = some (.int .u8)) (hx : cOpd x = some y) (hv : vcOp P (.conv .b2s y) t H K) :
    GoodRes1 P ρ H K w ((do pure (Next.value (← convert src dst (a.eval x))) : Sem Next).run P w) := by
  simp only [vcOp, evK_eq] at hv
  rw [h.eq hx]
  generalize ev t y = v at *
  unfold vcConv at hv
  split at hv
  case h_1 hcc => cases hcc
  case h_2 hcc => cases hcc
  case h_3 hcc => cases hcc
  case h_5 hcc => cases hcc
  case h_6 =>
    exact GoodRes1.val (by simp only [V.val]; exact run_convert_bytes_nil w src e h1 h3 0 _ dst h2) (Here.here (sv := .raw (.string ByteArray.empty)) rfl hv)
  case h_8 hcc => cases hcc
  case h_9 hcc => cases hcc
  case h_10 hcc => cases hcc
  case h_11 => exact hv.elim
  case h_7 =>

    rename_i a0 n c hq
    obtain ⟨s, ⟨hR, rfl⟩, hk⟩ := hv
    refine GoodRes1.val (v := .string s) ?_ (Here.here (sv := .raw (.string s)) rfl hk)
    simp only [V.val]
    rcases hR with ⟨h0, hn⟩ | ⟨j, b, o, xs, e', fr, rfl, hB, hs⟩
    · have h0' : s.data.toList = [] := List.map_eq_nil_iff.1 hn
      have hse : s = ByteArray.empty := by
        obtain ⟨⟨l⟩⟩ := s
        simp at h0'; subst h0'; rfl
      rw [run_convert_bytes_string w src dst e _ _ _ h1 h3 h2, h0, hse]
      simp [Conv.bytesToString]
      rfl
    · have hh := hasB_heap h.s hB
      have hr := run_convert_bytes_arg (P := P) w src e h1 h3 b o s.size c (s.data.toList.map fun b => (b.toNat : Int)) (by simp) (fun i hi => by
          have hi' : i < s.data.toList.length := by simpa using hi
          have hi2 : i < s.data.size := by simpa using hi
          have hx : xs[o + i]? = some (.int .u8 (s.data.toList[i]).toNat) := by
            have := congrArg (fun l : List Value => l[i]?) hs
            simp only [List.getElem?_map, List.getElem?_eq_getElem hi', Option.map_some] at this
            rw [List.getElem?_take_of_lt (by simpa using hi), List.getElem?_drop] at this
            exact this.symm
          rw [cell_of hh]
          simp only [List.getD, List.getElem?_map, List.getElem?_eq_getElem hi', Option.map_some, Option.getD_some]
          simpa using hx) dst h2
      rw [hr]
      congr 2
      obtain ⟨⟨l⟩⟩ := s
      simp [strOfNums, Function.comp_def]
  · rename_i k o n c
    obtain ⟨s, hs, hk⟩ := hv
    refine GoodRes1.val (v := .string s) ?_ (Here.here (sv := .raw (.string s)) rfl hk)
    rcases slElems_spec h.s hs with ⟨adr, cc, hv, hel⟩ | ⟨s', hv, _⟩
    · rw [hv]
      rcases hel with ⟨rfl, h0⟩ | ⟨b, off, rfl, hc⟩
      · have h0' : s.data.toList = [] := List.map_eq_nil_iff.1 h0
        have hse : s = ByteArray.empty := by
          obtain ⟨⟨l⟩⟩ := s
          simp at h0'; subst h0'; rfl
        rw [run_convert_bytes_nil w src e h1 h3 _ _ dst h2, hse]
      · have hr := run_convert_bytes_arg (P := P) w src e h1 h3 b off s.size cc (s.data.toList.map fun b => (b.toNat : Int)) (by simp) (fun i hi => by
          have hi' : i < s.data.toList.length := by simpa using hi
          have hi2 : i < s.data.size := by simpa using hi
          refine hc i _ ?_
          rw [List.getElem?_map, List.getElem?_eq_getElem hi']
          simp only [List.getD, List.getElem?_map, List.getElem?_eq_getElem hi', Option.map_some, Option.getD_some]) dst h2
        rw [hr]
        congr 2
        obtain ⟨⟨l⟩⟩ := s
        simp [strOfNums, Function.comp_def]
    · simp [V.val] at hv

theorem s_conv_r2s (h : At P ρ H g w t a) {src dst e : TypeId} {x : Operand} {y : Opd} (h1 : P.underlying src = some (.slice e)) (h2 : P.underlying dst = some .string) (h3 : P.underlying e = some (.int .i32)) (hx : cOpd x = some y) (hv : vcOp P (.conv .r2s y) t H K) :
    GoodRes1 P ρ H K w ((do pure (Next.value (← convert src dst (a.eval x))) : Sem Next).run P w) := by
  simp only [vcOp, evK_eq] at hv
  rw [h.eq hx]
  generalize ev t y = v at *
  unfold vcConv at hv
  split at hv
  case h_9 hcc =>
    exact GoodRes1.val (by simp only [V.val]; exact run_convert_runes_nil w src dst e 0 _ h1 h3 h2) (Here.here (sv := .raw (.string ByteArray.empty)) rfl hv)
  case h_8 k o n c hcc =>
    obtain ⟨ns, hs, hk⟩ := hv
    refine GoodRes1.val (v := .string (runesBytes ns)) ?_ (Here.here (sv := .raw (.string (runesBytes ns))) rfl hk)
    rcases slElems_spec h.s hs with ⟨adr, cc, hv, hel⟩ | ⟨s', hv, _⟩
    · rw [hv]
      rcases hel with ⟨rfl, h0⟩ | ⟨b, off, rfl, hc⟩
      · have h0' : ns = [] := List.map_eq_nil_iff.1 h0
        subst h0'
        exact run_convert_runes_nil w src dst e _ _ h1 h3 h2
      · have hr := run_convert_runes (P := P) w src dst e ⟨b, off, none⟩ ns.length cc ns (Nat.le_refl _) h1 h3 h2 (fun j hj => by
          have hplain : (⟨b, off, none⟩ : Addr).add j = ⟨b, off + j, none⟩ := by unfold Addr.add; split <;> simp_all
          rw [hplain]
          refine hc j _ ?_
          simp [List.getD, List.getElem?_eq_getElem hj])
        rw [List.take_length] at hr
        exact hr
    · simp [V.val] at hv
  case h_11 => exact hv.elim
  all_goals (rename_i hcc; cases hcc)

theorem s_conv_s2r (h : At P ρ H g w t a) {src dst e : TypeId} {x : Operand} {y : Opd} (h1 : P.underlying src = some .string) (h2 : P.underlying dst = some (.slice e)) (h3 : P.underlying e = some (.int .i32)) (hx : cOpd x = some y) (hv : vcOp P (.conv (.s2r e) y) t H K) :
    GoodRes P ρ H g K ((do pure (Next.value (← convert src dst (a.eval x))) : Sem Next).run P w) := by
  simp only [vcOp, evK_eq] at hv
  rw [h.eq hx]
  generalize ev t y = v at *
  cases v <;> simp only [vcConv] at hv
  rename_i v
  cases v <;> simp only at hv
  rename_i s
  let n := (Conv.runesFrom s s.size 0 #[]).size
  have hn : (runeVals s).length = n := by simp [runeVals, n]
  let cp := (Question.appendCap n 0 e).cut (w.tape w.drawn (.appendCap n 0 e))
  have hcp : (runeVals s).length ≤ cp := by rw [hn]; simp only [cp, Question.cut]; omega
  have hk := hv cp hcp
  rw [newHK_eq, hn] at hk
  let xs : List Value := runeVals s ++ List.replicate (cp - n) (.int .i32 0)
  have hlen : xs.length = cp := by simp [xs]; omega
  have harr : Conv.runesFrom s s.size 0 #[] ++ Array.replicate (cp - n) (Value.int IntKind.i32 0) = xs.toArray := by
    apply Array.ext'; simp [xs, runeVals]
  let w1 : World := { { w with drawn := w.drawn + 1 } with heap := w.heap.push (.cells xs.toArray e (0, 0)) }
  refine GoodRes.val (v := .slice (some ⟨w.heap.size, 0, none⟩) n cp) (w' := w1) ?_ ?_
  · have hconv : (convert src dst (.string s)).run P w = (Conv.stringToRunes e s).run P w := by simp [convert, run_und h1, run_und h2, run_und h3]
    simp only [V.val]
    rw [hconv]
    simp only [Conv.stringToRunes, Sem.run_bind, run_choose, Question.forced, Bool.false_eq_true, if_false, Result.andThen_ok, newRow, run_newObj, Sem.run_pure]
    have harr' : Conv.runesFrom s s.size 0 #[] ++ Array.replicate ((Question.appendCap n 0 e).cut (w.tape w.drawn (Question.appendCap n 0 e)) - n) (Value.int IntKind.i32 0) = xs.toArray := harr
    simp only [n] at harr'
    rw [harr']
  · refine Res.alloc h.s (so := .arr xs e) (sv := .sl H.length 0 n cp) ⟨rfl, rfl, rfl, rfl, Nat.le_succ _⟩ rfl (.inr ⟨w.heap.size, (0, 0), upd_same _ _ _, heap_push_new rfl, .inl rfl⟩) (by simp) (by simp) (by simp [V.val, upd_same]) (by simp [below]) hk

/-! ### Composite values -/
theorem fold_get (off : Nat) : ∀ (ys : List Value) (k : Nat) (c : Array Value), off + k + ys.length ≤ c.size →
    ((ys.zipIdx k).foldl (fun c (x : Value × Nat) => c.setIfInBounds (off + x.2) x.1) c).size = c.size ∧
    ∀ j, ((ys.zipIdx k).foldl (fun c (x : Value × Nat) => c.setIfInBounds (off + x.2) x.1) c)[j]? = if off + k ≤ j ∧ j < off + k + ys.length then ys[j - (off + k)]? else c[j]?
  | [], k, c, _ => ⟨rfl, fun j => by rw [if_neg (by simp)]; rfl⟩
  | y :: ys, k, c, h => by
    simp only [List.length_cons] at h
    obtain ⟨h1, h2⟩ := fold_get off ys (k + 1) (c.setIfInBounds (off + k) y) (by rw [Array.size_setIfInBounds]; omega)
    simp only [List.zipIdx_cons, List.foldl_cons]
    refine ⟨by rw [h1, Array.size_setIfInBounds], fun j => ?_⟩
    rw [h2 j]
    by_cases e1 : j = off + k
    · subst e1
      rw [if_neg (by omega), if_pos ⟨Nat.le_refl _, by simp only [List.length_cons]; omega⟩]
      simp [show off + k < c.size by omega]
    · by_cases e2 : off + (k + 1) ≤ j ∧ j < off + (k + 1) + ys.length
      · rw [if_pos e2, if_pos ⟨by omega, by simp only [List.length_cons]; omega⟩]
        rw [show j - (off + k) = (j - (off + (k + 1))) + 1 by omega]; simp
      · rw [if_neg e2, if_neg (by simp only [List.length_cons]; omega)]
        rw [Array.getElem?_setIfInBounds_ne (by omega)]

theorem partCells_val {v : SV} {ys : List SV} (h : partCells v = some ys) : (V.val ρ v).cells.toList = valL ρ ys ∧ ∀ n, below n v = true → belowL n ys = true := by
  cases v
  case agg l =>
    simp only [partCells] at h
    cases h
    exact ⟨by simp [V.val, Value.cells], fun n hn => by simpa [below] using hn⟩
  case raw x =>
    cases x <;> simp [partCells, one] at h <;> subst h <;> exact ⟨by simp [V.val, Value.cells, valL], fun n hn => by simp [belowL, below]⟩
  all_goals
    simp [partCells, one] at h
  all_goals
    subst h
    exact ⟨by simp [V.val, Value.cells, valL], fun n hn => by first | simpa [belowL] using hn | rfl⟩

/-- The parts of the model's code and their twins. -/
def Par (place : Nat → Option (Nat × Nat)) : List (Nat × Operand) → List (Nat × Nat × Opd) → Prop
  | [], [] => True
  | (i, x) :: ps, (off, n, y) :: qs => place i = some (off, n) ∧ cOpd x = some y ∧ Par place ps qs
  | _, _ => False

theorem pasteK_sound (h : At P ρ H g w t a) {place : Nat → Option (Nat × Nat)} {Kl : List SV → Prop} : ∀ (ps : List (Nat × Operand)) (qs : List (Nat × Nat × Opd)) (l : List SV), belowL H.length l = true →
    Par place ps qs → pasteK t l qs Kl →
    ∃ l', Instr.fill place (valL ρ l).toArray (ps.map fun p => (p.1, a.eval p.2)) = some (valL ρ l').toArray ∧ belowL H.length l' = true ∧ Kl l'
  | [], [], l, hb, _, hk => ⟨l, rfl, hb, hk⟩
  | (i, x) :: ps, (off, n, y) :: qs, l, hb, ⟨hp, hx, hm⟩, hk => by
    simp only [pasteK, evK_eq] at hk
    split at hk
    · rename_i ys hys
      cases hn : ys.length == n with
      | false => simp [hn] at hk
      | true =>
        simp only [hn, cond_true] at hk
        split at hk
        · rename_i l1 hl1
          obtain ⟨c1, c2⟩ := partCells_val (ρ := ρ) hys
          obtain ⟨p1, p2, p3⟩ := paste_spec hl1
          have hyl : (valL ρ ys).length = ys.length := by rw [valL_eq]; simp
          have hll : (valL ρ l).length = l.length := by rw [valL_eq]; simp
          have hb1 : belowL H.length l1 = true := by
            rw [belowL_eq] at hb ⊢
            intro v hv
            rcases paste_mem hl1 v hv with h1 | h1
            · exact hb v h1
            · exact (belowL_eq _ _).1 (c2 _ (h.bel hx)) v h1
          obtain ⟨l', f1, f2, f3⟩ := pasteK_sound h ps qs l1 hb1 hm hk
          refine ⟨l', ?_, f2, f3⟩
          simp only [List.map_cons, Instr.fill, hp, h.eq hx]
          have hsz : (V.val ρ (ev t y)).cells.size = n := by
            rw [← Array.length_toList, c1, hyl]; simpa using hn
          have hn' : ys.length = n := by simpa using hn
          rw [if_neg (by
            simp only [hsz, List.size_toArray, hll]
            simp; omega)]
          have hfold := fold_get off (V.val ρ (ev t y)).cells.toList 0 (valL ρ l).toArray (by rw [c1, hyl, List.size_toArray, hll]; omega)
          have hfin : (V.val ρ (ev t y)).cells.zipIdx.foldl (fun cs (x : Value × Nat) => cs.setIfInBounds (off + x.2) x.1) (valL ρ l).toArray = (valL ρ l1).toArray := by
            rw [← Array.foldl_toList, Array.toList_zipIdx]
            apply Array.ext_getElem?
            intro j
            rw [hfold.2 j, c1]
            simp only [List.getElem?_toArray, valL_eq, List.getElem?_map, p3 j, List.length_map, Nat.add_zero]
            split <;> simp
          have := f1
          simp only [hfin]
          exact f1
        · exact hk.elim
    · exact hk.elim

theorem par_struct {fs : Array Field} : ∀ {l : List (Nat × Operand)} {qs : List (Nat × Nat × Opd)}, partsStruct P fs l = some qs → Par (fun i => (fs[i]?).bind fun f => (sizeT P f.type).map fun n => (f.offset, n)) l qs
  | [], qs, h => by simp [partsStruct] at h; subst h; trivial
  | (i, x) :: l, qs, h => by
    simp [partsStruct, List.mapM_cons, Option.bind_eq_some_iff] at h
    obtain ⟨_, _, _, ⟨f, hf, n, hn, y, hy, rfl, rfl, rfl⟩, qs', hq, rfl⟩ := h
    refine ⟨by simp [hf, hn], hy, par_struct (by simpa [partsStruct] using hq)⟩
theorem par_row {sz : Nat} : ∀ {l : List (Nat × Operand)} {qs : List (Nat × Nat × Opd)}, partsRow sz l = some qs → Par (fun i => some (i * sz, sz)) l qs
  | [], qs, h => by simp [partsRow] at h; subst h; trivial
  | (i, x) :: l, qs, h => by
    simp [partsRow, List.mapM_cons, Option.bind_eq_some_iff] at h
    obtain ⟨_, _, _, ⟨y, hy, rfl, rfl, rfl⟩, qs', hq, rfl⟩ := h
    exact ⟨rfl, hy, par_row (by simpa [partsRow] using hq)⟩
end
end Go.V

namespace Go.V
open Go
set_option linter.unusedSectionVars false
variable [Mode]

section
variable {P : Program} {ρ : Rho} {H : List SO} {g : Fr} {w : World} {K : SV → List SO → Prop} {t : List SV} {a : Act} {o : Oper}

theorem run_mapM_places {fs : Array Field} (h : fs.toList.all (fun f => (sizeT P f.type).isSome) = true) :
    (fs.mapM (m := Sem) fun f => do pure (f.offset, ← sizeOf f.type)).run P w = .ok (fs.map fun f => (f.offset, (sizeT P f.type).getD 0)) w := by
  rw [Array.mapM_eq_mapM_toList]
  have : ∀ l : List Field, l.all (fun f => (sizeT P f.type).isSome) = true → (l.mapM (m := Sem) fun f => do pure (f.offset, ← sizeOf f.type)).run P w = .ok (l.map fun f => (f.offset, (sizeT P f.type).getD 0)) w := by
    intro l
    induction l with
    | nil => intro _; simp
    | cons f l ih =>
      intro hl
      simp only [List.all_cons, Bool.and_eq_true] at hl
      obtain ⟨n, hn⟩ := Option.isSome_iff_exists.1 hl.1
      simp only [List.mapM_cons, Sem.run_bind, run_size hn, Result.andThen_ok, Sem.run_pure, ih hl.2, List.map_cons, hn, Option.getD_some]
  simp only [Sem.run_map, this fs.toList h, Result.andThen_ok]
  congr 1
  apply Array.ext'
  simp

theorem s_build_struct (h : At P ρ H g w t a) {ty : TypeId} {fs : Array Field} {zs : List Value} {ps : Array (Nat × Operand)} {qs : List (Nat × Nat × Opd)} (hu : P.underlying ty = some (.struct fs)) (hz : zeroCellsT P ty = some zs)
    (hall : fs.toList.all (fun f => (sizeT P f.type).isSome) = true) (hq : partsStruct P fs ps.toList = some qs) (hv : vcOp P (.build zs qs) t H K) :
    GoodRes1 P ρ H K w ((do pure (Next.value (← Instr.build ty (ps.map fun (i, x) => (i, a.eval x)))) : Sem Next).run P w) := by
  simp only [vcOp, rawsK_eq] at hv
  obtain ⟨l', h1, h2, h3⟩ := pasteK_sound h ps.toList qs (zs.map .raw) (below_raws _ _) (par_struct hq) hv
  unfold zeroCellsT at hz
  cases hz0 : zeroT P ty with
  | none => simp [hz0] at hz
  | some z =>
    simp [hz0] at hz
    refine GoodRes1.val (v := .agg (valL ρ l').toArray) ?_ (Here.here (sv := .agg l') (by simp only [below]; exact h2) h3)
    have e0 : (valL ρ (zs.map .raw)).toArray = z.cells := by
      rw [valL_eq]; simp only [List.map_map, Function.comp_def, V.val, List.map_id']; rw [← hz]
    rw [e0] at h1
    have e1 : (fun (i : Nat) => (fs.map fun (f : Field) => (f.offset, (sizeT P f.type).getD 0))[i]?) = fun (i : Nat) => (fs[i]?).bind fun (f : Field) => (sizeT P f.type).map fun n => (f.offset, n) := by
      funext i
      rw [Array.getElem?_map]
      cases hf : fs[i]? with
      | none => rfl
      | some f =>
        have hmem : f ∈ fs.toList := by simpa using Array.mem_of_getElem? hf
        obtain ⟨n, hn⟩ := Option.isSome_iff_exists.1 (List.all_eq_true.1 hall f hmem)
        simp [hn]
    simp only [Instr.build, Sem.run_bind, run_zero hz0, run_und hu, Result.andThen_ok, run_mapM_places hall]
    rw [e1]
    have e2 : (Array.map (fun (x : Nat × Operand) => (x.1, a.eval x.2)) ps).toList = ps.toList.map fun p => (p.1, a.eval p.2) := by simp
    simp only [e2, h1]
    rfl

theorem s_build_array (h : At P ρ H g w t a) {ty el : TypeId} {n sz : Nat} {zs : List Value} {ps : Array (Nat × Operand)} {qs : List (Nat × Nat × Opd)} (hu : P.underlying ty = some (.array n el)) (hz : zeroCellsT P ty = some zs) (hn : sizeT P el = some sz)
    (hq : partsRow sz ps.toList = some qs) (hv : vcOp P (.build zs qs) t H K) :
    GoodRes1 P ρ H K w ((do pure (Next.value (← Instr.build ty (ps.map fun (i, x) => (i, a.eval x)))) : Sem Next).run P w) := by
  simp only [vcOp, rawsK_eq] at hv
  obtain ⟨l', h1, h2, h3⟩ := pasteK_sound h ps.toList qs (zs.map .raw) (below_raws _ _) (par_row hq) hv
  unfold zeroCellsT at hz
  cases hz0 : zeroT P ty with
  | none => simp [hz0] at hz
  | some z =>
    simp [hz0] at hz
    refine GoodRes1.val (v := .agg (valL ρ l').toArray) ?_ (Here.here (sv := .agg l') (by simp only [below]; exact h2) h3)
    have e0 : (valL ρ (zs.map .raw)).toArray = z.cells := by
      rw [valL_eq]; simp only [List.map_map, Function.comp_def, V.val, List.map_id']; rw [← hz]
    rw [e0] at h1
    have e2 : (Array.map (fun (x : Nat × Operand) => (x.1, a.eval x.2)) ps).toList = ps.toList.map fun p => (p.1, a.eval p.2) := by simp
    simp only [Instr.build, Sem.run_bind, run_zero hz0, run_und hu, Result.andThen_ok, run_size hn, e2, h1]
    rfl

theorem s_bslice (h : At P ρ H g w t a) {ty el : TypeId} {n sz : Nat} {z : Value} {ps : Array (Nat × Operand)} {qs : List (Nat × Nat × Opd)} (hu : P.underlying ty = some (.slice el)) (hz : zeroT P el = some z) (hn : sizeT P el = some sz)
    (hsm : ¬ n * sz > 1000) (hq : partsRow sz ps.toList = some qs) (hv : vcOp P (.bslice el n ((List.range (n * sz)).map fun i => z.cells.toList[i % z.cells.toList.length]!) qs) t H K) :
    GoodRes P ρ H g K ((do pure (Next.value (← Instr.buildSlice ty n (ps.map fun (i, x) => (i, a.eval x)))) : Sem Next).run P w) := by
  simp only [vcOp, rawsK_eq] at hv
  obtain ⟨l', h1, h2, h3⟩ := pasteK_sound h ps.toList qs _ (below_raws _ _) (par_row hq) hv
  split at h3
  · rename_i xs hxs
    rw [newHK_eq] at h3
    have hx : valL ρ l' = xs := plainL_val ρ hxs
    refine GoodRes.val (v := .slice (some ⟨w.heap.size, 0, none⟩) n n) (w' := w.alloc (.cells xs.toArray el)) ?_ ?_
    · have e0 : (valL ρ (((List.range (n * sz)).map fun i => z.cells.toList[i % z.cells.toList.length]!).map .raw)).toArray = (Array.range (n * sz)).map fun i => z.cells[i % z.cells.size]! := by
        rw [valL_eq]; simp only [List.map_map, Function.comp_def, V.val]
        apply Array.ext'
        simp
        intro i _
        rw [Array.getElem!_eq_getD, Array.getD_eq_getD_getElem?]
      rw [e0, hx] at h1
      have e2 : (Array.map (fun (x : Nat × Operand) => (x.1, a.eval x.2)) ps).toList = ps.toList.map fun p => (p.1, a.eval p.2) := by simp
      have hsm' : ¬ 2 ^ 24 < n * sz := by omega
      simp only [Instr.buildSlice, Sem.run_bind, run_und hu, Result.andThen_ok, run_size hn, gt_iff_lt, hsm', if_false]
      by_cases h0 : n * sz = 0
      · rw [h0] at h1
        have e4 : Array.range 0 = #[] := rfl
        rw [e4, Array.map_empty] at h1
        simp only [h0, if_true, e2, e4, Array.map_empty, Sem.run_bind, Sem.run_pure, Result.andThen_ok, h1]
        simp [newRow]
      · simp only [h0, if_false, Sem.run_bind, run_zero hz, Sem.run_pure, Result.andThen_ok, e2, h1]
        simp [newRow]
    · exact Res.alloc h.s (so := .arr xs el) (sv := .sl H.length 0 n n) ⟨rfl, rfl, rfl, rfl, Nat.le_refl _⟩ rfl (.inr ⟨w.heap.size, (0, 0), upd_same _ _ _, heap_push_new rfl, .inl rfl⟩) (by simp) (by simp) (by simp [V.val, upd_same]) (by simp [below]) h3
  · exact h3.elim

theorem s_slice_str (h : At P ρ H g w t a) {ty : TypeId} {x : Operand} {lo hi : Option Operand} {x' : Opd} {lo' hi' : Option Opd} (hu : P.underlying ty = some .string) (hx : cOpd x = some x') (hl : lo.mapM cOpd = some lo') (hh : hi.mapM cOpd = some hi') (hv : vcOp P (.slice none x' lo' hi') t H K) :
    GoodRes1 P ρ H K w ((do pure (Next.value (← Instr.sliceAt ty (a.eval x) (lo.map a.eval) (hi.map a.eval) none)) : Sem Next).run P w) := by
  simp only [vcOp, evK_eq, optK_eq] at hv
  have el : lo.map a.eval = lo'.map (fun y => V.val ρ (ev t y)) := by
    cases lo <;> simp at hl <;> first | (subst hl; rfl) | (obtain ⟨y, hy, rfl⟩ := hl; simp [h.eq hy])
  have eh : hi.map a.eval = hi'.map (fun y => V.val ρ (ev t y)) := by
    cases hi <;> simp at hh <;> first | (subst hh; rfl) | (obtain ⟨y, hy, rfl⟩ := hh; simp [h.eq hy])
  rw [h.eq hx]
  generalize lo.map a.eval = L at *
  generalize hi.map a.eval = R at *
  have hat : ∀ v lo hi, (Instr.sliceAt ty v lo hi none).run P w = (Instr.slice ty v lo hi none).run P w := by intro v lo hi; simp [Instr.sliceAt, run_und hu]
  have fin : ∀ s' : ByteArray, (Instr.slice ty (V.val ρ (ev t x')) L R none).run P w = .ok (.string s') w → K (.raw (.string s')) H →
      GoodRes1 P ρ H K w ((do pure (Next.value (← Instr.sliceAt ty (V.val ρ (ev t x')) L R none)) : Sem Next).run P w) :=
    fun s' h1 h2 => GoodRes1.val (by rw [hat]; exact h1) (Here.here (sv := .raw (.string s')) rfl h2)
  unfold vcSlice at hv
  split at hv
  · rename_i s _ e0
    rw [e0] at fin ⊢
    split at hv
    · rename_i h1 h2
      simp only [Option.map_eq_none_iff] at h1 h2
      subst h1 h2; subst el eh
      refine fin s ?_ (by rw [e0] at hv; exact hv)
      simp only [V.val, Option.map_none]; rw [run_slice_string_all w ty s hu]; simp
    · rename_i k i h1 h2
      simp only [Option.map_eq_none_iff, Option.map_eq_some_iff] at h1 h2
      obtain ⟨y, rfl, hy⟩ := h1
      subst h2; subst el eh
      refine fin _ ?_ hv.2
      simp only [V.val, Option.map_none, Option.map_some, hy]; rw [run_slice_string_l w ty s hu k i hv.1.1 hv.1.2]
    · rename_i k i h1 h2
      simp only [Option.map_eq_none_iff, Option.map_eq_some_iff] at h1 h2
      obtain ⟨y, rfl, hy⟩ := h2
      subst h1; subst el eh
      refine fin _ ?_ hv.2
      simp only [V.val, Option.map_none, Option.map_some, hy]; rw [run_slice_string_h w ty s hu k i hv.1.1 hv.1.2]
    · rename_i k i k' i' h1 h2
      simp only [Option.map_eq_some_iff] at h1 h2
      obtain ⟨y, rfl, hy⟩ := h1
      obtain ⟨z, rfl, hz⟩ := h2
      subst el eh
      refine fin _ ?_ hv.2
      obtain ⟨⟨h0, h1, h2⟩, _⟩ := hv
      simp only [V.val, Option.map_some, hy, hz]
      have e1 : (i'.toNat : Int) = i' := Int.toNat_of_nonneg (by omega)
      simp [Instr.slice, run_und hu, Instr.sliceBounds, run_sliceBound, h0, h1, h2, e1, (by omega : 0 ≤ i')]
    · exact hv.elim
  · rename_i hz _; cases hz
  · rename_i hz _; cases hz
  · exact hv.elim
end
end Go.V

namespace Go.V
open Go
set_option linter.unusedSectionVars false
variable [Mode]

section
variable {P : Program} {ρ : Rho} {H : List SO} {g : Fr} {w : World} {K : SV → List SO → Prop} {t : List SV} {a : Act} {o : Oper}

theorem s_slice_sl (h : At P ρ H g w t a) {ty el : TypeId} {z : Nat} {x : Operand} {lo hi : Option Operand} {x' : Opd} {lo' hi' : Option Opd} (hu : P.underlying ty = some (.slice el)) (hsz : sizeT P el = some z) (hx : cOpd x = some x') (hl : lo.mapM cOpd = some lo') (hh : hi.mapM cOpd = some hi') (hv : vcOp P (.slice (some z) x' lo' hi') t H K) :
    GoodRes1 P ρ H K w ((do pure (Next.value (← Instr.sliceAt ty (a.eval x) (lo.map a.eval) (hi.map a.eval) none)) : Sem Next).run P w) := by
  simp only [vcOp, evK_eq, optK_eq] at hv
  have hb := h.bel hx
  have el' : lo.map a.eval = lo'.map (fun y => V.val ρ (ev t y)) := by
    cases lo <;> simp at hl <;> first | (subst hl; rfl) | (obtain ⟨y, hy, rfl⟩ := hl; simp [h.eq hy])
  have eh : hi.map a.eval = hi'.map (fun y => V.val ρ (ev t y)) := by
    cases hi <;> simp at hh <;> first | (subst hh; rfl) | (obtain ⟨y, hy, rfl⟩ := hh; simp [h.eq hy])
  rw [h.eq hx]
  generalize lo.map a.eval = L at *
  generalize hi.map a.eval = R at *
  have hat : ∀ v lo hi, (Instr.sliceAt ty v lo hi none).run P w = (Instr.slice ty v lo hi none).run P w := by intro v lo hi; simp [Instr.sliceAt, run_und hu]
  have he : P.elem ty = el := by simp [Program.elem, hu]
  have hu' : P.underlying ty = some (.slice (P.elem ty)) := by rw [he]; exact hu
  have hsz' : (sizeOf (P.elem ty)).run P w = .ok z w := by rw [he]; exact run_size hsz
  unfold vcSlice at hv
  split at hv
  · rename_i hz _; cases hz
  · rename_i z' k o n c hz e0
    cases hz
    rw [e0] at hb ⊢
    simp only [below] at hb
    have slc : ∀ (l h' : Nat) (m : Nat), m = c → sliced ((ρ k).map fun b => ⟨b, o, none⟩) l h' m z = V.val ρ (.sl k (if c = l then o else o + l * z) (h' - l) (c - l)) := by
      intro l h' m hm
      subst hm
      simp only [sliced, V.val]
      by_cases hml : m = l
      · simp [hml]
      · simp only [hml, if_false]
        cases ρ k <;> simp [add_eq]
    have fin : ∀ sv, (Instr.slice ty (V.val ρ (.sl k o n c)) L R none).run P w = .ok (V.val ρ sv) w → below H.length sv = true → K sv H →
        GoodRes1 P ρ H K w ((do pure (Next.value (← Instr.sliceAt ty (V.val ρ (.sl k o n c)) L R none)) : Sem Next).run P w) :=
      fun sv h1 h2 h3 => GoodRes1.val (by rw [hat]; exact h1) (Here.here h2 h3)
    split at hv
    · rename_i h1 h2
      simp only [Option.map_eq_none_iff] at h1 h2
      subst h1 h2; subst el' eh
      refine fin (.sl k o n c) ?_ (by simpa [below] using hb) (by rw [e0] at hv; exact hv)
      simp only [V.val, Option.map_none]
      rw [run_slice_all w ty _ n c hu', hsz']
      simp only [Result.andThen_ok]
      rw [slc 0 n c rfl]
      simp only [V.val, Nat.zero_mul, Nat.add_zero, Nat.sub_zero, ite_self]
    · rename_i kk i h1 h2
      simp only [Option.map_eq_none_iff, Option.map_eq_some_iff] at h1 h2
      obtain ⟨y, rfl, hy⟩ := h1
      subst h2; subst el' eh
      obtain ⟨⟨r1, r2⟩, o', rfl, hk⟩ := hv
      refine fin _ ?_ (by simpa [below] using hb) hk
      rw [← slc i.toNat n c rfl]
      simp only [V.val, Option.map_none, Option.map_some, hy]
      rw [run_slice_l w ty _ n c hu' kk i r1 r2, hsz']; rfl
    · rename_i kk i h1 h2
      simp only [Option.map_eq_none_iff, Option.map_eq_some_iff] at h1 h2
      obtain ⟨y, rfl, hy⟩ := h2
      subst h1; subst el' eh
      obtain ⟨⟨r1, r2⟩, hk⟩ := hv
      refine fin _ ?_ (by simpa [below] using hb) hk
      have := slc 0 i.toNat c rfl
      simp only [Nat.zero_mul, Nat.add_zero, Nat.sub_zero, ite_self] at this
      rw [← this]
      simp only [V.val, Option.map_none, Option.map_some, hy]
      rw [run_slice_h w ty _ n c hu' kk i r1 r2, hsz']; rfl
    · rename_i kk i kk' i' h1 h2
      simp only [Option.map_eq_some_iff] at h1 h2
      obtain ⟨y, rfl, hy⟩ := h1
      obtain ⟨y', rfl, hy'⟩ := h2
      subst el' eh
      obtain ⟨⟨r0, r1, r2⟩, o', rfl, hk⟩ := hv
      refine fin _ ?_ (by simpa [below] using hb) hk
      rw [← slc i.toNat i'.toNat c rfl]
      simp only [V.val, Option.map_some, hy, hy']
      rw [run_slice_lh w ty _ n c hu' kk kk' i i' r0 r1 r2, hsz']; rfl
    · exact hv.elim
  · rename_i z' b o n c hz e0
    cases hz
    rw [e0] at hb ⊢
    have slc : ∀ (l h' : Nat) (m : Nat), m = c → sliced (some ⟨b, o, none⟩) l h' m z = V.val ρ (.raw (.slice (some ⟨b, if c = l then o else o + l * z, none⟩) (h' - l) (c - l))) := by
      intro l h' m hm
      subst hm
      simp only [sliced, V.val]
      by_cases hml : m = l
      · simp [hml]
      · simp only [hml, if_false]
        simp [add_eq]
    have fin : ∀ sv, (Instr.slice ty (V.val ρ (.raw (.slice (some ⟨b, o, none⟩) n c))) L R none).run P w = .ok (V.val ρ sv) w → below H.length sv = true → K sv H →
        GoodRes1 P ρ H K w ((do pure (Next.value (← Instr.sliceAt ty (V.val ρ (.raw (.slice (some ⟨b, o, none⟩) n c))) L R none)) : Sem Next).run P w) :=
      fun sv h1 h2 h3 => GoodRes1.val (by rw [hat]; exact h1) (Here.here h2 h3)
    split at hv
    · rename_i h1 h2
      simp only [Option.map_eq_none_iff] at h1 h2
      subst h1 h2; subst el' eh
      refine fin (.raw (.slice (some ⟨b, o, none⟩) n c)) ?_ rfl (by rw [e0] at hv; exact hv)
      simp only [V.val, Option.map_none]
      rw [run_slice_all w ty _ n c hu', hsz']
      simp only [Result.andThen_ok]
      rw [slc 0 n c rfl]
      simp only [V.val, Nat.zero_mul, Nat.add_zero, Nat.sub_zero, ite_self]
    · rename_i kk i h1 h2
      simp only [Option.map_eq_none_iff, Option.map_eq_some_iff] at h1 h2
      obtain ⟨y, rfl, hy⟩ := h1
      subst h2; subst el' eh
      obtain ⟨⟨r1, r2⟩, o', rfl, hk⟩ := hv
      refine fin _ ?_ rfl hk
      rw [← slc i.toNat n c rfl]
      simp only [V.val, Option.map_none, Option.map_some, hy]
      rw [run_slice_l w ty _ n c hu' kk i r1 r2, hsz']; rfl
    · rename_i kk i h1 h2
      simp only [Option.map_eq_none_iff, Option.map_eq_some_iff] at h1 h2
      obtain ⟨y, rfl, hy⟩ := h2
      subst h1; subst el' eh
      obtain ⟨⟨r1, r2⟩, hk⟩ := hv
      refine fin _ ?_ rfl hk
      have := slc 0 i.toNat c rfl
      simp only [Nat.zero_mul, Nat.add_zero, Nat.sub_zero, ite_self] at this
      rw [← this]
      simp only [V.val, Option.map_none, Option.map_some, hy]
      rw [run_slice_h w ty _ n c hu' kk i r1 r2, hsz']; rfl
    · rename_i kk i kk' i' h1 h2
      simp only [Option.map_eq_some_iff] at h1 h2
      obtain ⟨y, rfl, hy⟩ := h1
      obtain ⟨y', rfl, hy'⟩ := h2
      subst el' eh
      obtain ⟨⟨r0, r1, r2⟩, o', rfl, hk⟩ := hv
      refine fin _ ?_ rfl hk
      rw [← slc i.toNat i'.toNat c rfl]
      simp only [V.val, Option.map_some, hy, hy']
      rw [run_slice_lh w ty _ n c hu' kk kk' i i' r0 r1 r2, hsz']; rfl
    · exact hv.elim
  · exact hv.elim

theorem s_tassert (h : At P ρ H g w t a) {xT ty : TypeId} {x : Operand} {y : Opd} {ok : Bool} {z : Value} {d : TypeDesc} (hu : P.underlying ty = some d) (hd : ∀ ms, d ≠ .interface ms) (hz : zeroT P ty = some z) (hx : cOpd x = some y) (hv : vcOp P (.tassert ty ok z y) t H K) :
    GoodRes1 P ρ H K w ((do pure (Next.value (← Instr.typeAssert (a.eval x) xT ty ok)) : Sem Next).run P w) := by
  simp only [vcOp, evK_eq] at hv
  have hb := h.bel hx
  rw [h.eq hx]
  have fails : ∀ v : Value, (∀ m, (Instr.typeAssert v xT ty true).run P w = .ok (.tuple #[z, .bool false]) m ∨ True) → True := fun _ _ => trivial
  unfold vcTassert at hv
  split at hv
  · rename_i u v e
    rw [e] at hb ⊢
    simp only [below] at hb
    cases hut : u == ty with
    | true =>
      have hut' : u = ty := by simpa using hut
      subst hut'
      simp only [beq_self_eq_true, cond_true] at hv
      cases ok with
      | true =>
        refine GoodRes1.val ?_ (Here.here (sv := .tup [v, .kb true]) (by simp [below, belowL, hb]) hv)
        cases d <;> first | (exact absurd rfl (hd _)) | simp [V.val, valL, Instr.typeAssert, run_und hu]
      | false =>
        refine GoodRes1.val ?_ (Here.here hb hv)
        cases d <;> first | (exact absurd rfl (hd _)) | simp [V.val, Instr.typeAssert, run_und hu]
    | false =>
      have hut' : u ≠ ty := by simpa using hut
      simp only [hut, cond_false] at hv
      cases ok with
      | true =>
        simp only [cond_true] at hv
        refine GoodRes1.val ?_ (Here.here (sv := .tup [svConst z, .kb false]) (by simp [below, belowL, below_svConst]) hv)
        cases d <;> first | (exact absurd rfl (hd _)) | simp [V.val, valL, val_svConst, Instr.typeAssert, run_und hu, hut', run_zero hz]
      | false => exact hv.elim
  · rename_i u v e
    rw [e]
    cases hut : u == ty with
    | true =>
      have hut' : u = ty := by simpa using hut
      subst hut'
      simp only [beq_self_eq_true, cond_true] at hv
      cases ok with
      | true =>
        refine GoodRes1.val ?_ (Here.here (sv := .tup [svConst v, .kb true]) (by simp [below, belowL, below_svConst]) hv)
        cases d <;> first | (exact absurd rfl (hd _)) | simp [V.val, valL, val_svConst, Instr.typeAssert, run_und hu]
      | false =>
        refine GoodRes1.val ?_ (Here.here (sv := svConst v) (below_svConst _ _) hv)
        cases d <;> first | (exact absurd rfl (hd _)) | simp [V.val, val_svConst, Instr.typeAssert, run_und hu]
    | false =>
      have hut' : u ≠ ty := by simpa using hut
      simp only [hut, cond_false] at hv
      cases ok with
      | true =>
        simp only [cond_true] at hv
        refine GoodRes1.val ?_ (Here.here (sv := .tup [svConst z, .kb false]) (by simp [below, belowL, below_svConst]) hv)
        cases d <;> first | (exact absurd rfl (hd _)) | simp [V.val, valL, val_svConst, Instr.typeAssert, run_und hu, hut', run_zero hz]
      | false => exact hv.elim
  · rename_i e
    rw [e]
    cases ok with
    | true =>
      simp only [cond_true] at hv
      refine GoodRes1.val ?_ (Here.here (sv := .tup [svConst z, .kb false]) (by simp [below, belowL, below_svConst]) hv)
      cases d <;> first | (exact absurd rfl (hd _)) | simp [V.val, valL, val_svConst, Instr.typeAssert, run_und hu, run_zero hz]
    | false => exact hv.elim
  · exact hv.elim

theorem s_range (h : At P ρ H g w t a) {ty k e : TypeId} {x : Operand} {y : Opd} (hu : P.underlying ty = some (.map k e)) (hx : cOpd x = some y) (hv : vcOp P (.range false y) t H K) :
    GoodRes P ρ H g K ((do pure (Next.value (← Instr.range ty (a.eval x))) : Sem Next).run P w) := by
  simp only [vcOp, evK_eq] at hv
  have hb := h.bel hx
  rw [h.eq hx]
  split at hv
  · rename_i j e0
    rw [e0] at hb ⊢
    simp only [below, decide_eq_true_eq] at hb
    rw [objK_eq] at hv
    split at hv
    · rename_i es c hk
      rw [newHK_eq] at hv
      obtain ⟨_, b, hb', hh⟩ := map_of h.s hk
      refine GoodRes.val (v := .pointer (some ⟨w.heap.size, 0, none⟩)) (w' := w.alloc (.mapIter (some b) c #[] c)) ?_ ?_
      · simp [V.val, hb', Instr.range, run_und hu, getObj, Sem.run, hh]
      · refine Res.alloc h.s (so := .iter (some j) c [] c) (sv := .ptr H.length 0) ⟨rfl, rfl, rfl, rfl, Nat.le_refl _⟩ rfl ⟨w.heap.size, upd_same _ _ _, ?_⟩ (by simp) ?_ (by simp [V.val, upd_same]) (by simp [below]) hv
        · rw [heap_push_new rfl]; simp [upd_lt ρ _ hb, hb']
        · intro m s seen st he; cases he; exact hb
    · exact hv.elim
  · rename_i e0
    rw [e0]
    rw [newHK_eq] at hv
    refine GoodRes.val (v := .pointer (some ⟨w.heap.size, 0, none⟩)) (w' := w.alloc (.mapIter none 0 #[] 0)) ?_ ?_
    · simp [V.val, Instr.range, run_und hu]
    · exact Res.alloc h.s (so := .iter none 0 [] 0) (sv := .ptr H.length 0) ⟨rfl, rfl, rfl, rfl, Nat.le_refl _⟩ rfl ⟨w.heap.size, upd_same _ _ _, by rw [heap_push_new rfl]; rfl⟩ (by simp) (by simp) (by simp [V.val, upd_same]) (by simp [below]) hv
  · exact hv.elim

theorem iter_of (hS : St ρ H g w) {n : Nat} {m : Option Nat} {s : Nat} {seen : List Nat} {st : Nat} (hk : obj H n = .iter m s seen st) :
    H[n]? = some (.iter m s seen st) ∧ ∃ b, ρ n = some b ∧ w.heap[b]? = some (.mapIter (m.bind ρ) s seen.toArray st) := by
  have hk' : H[n]? = some (.iter m s seen st) := by rw [← hk]; exact obj_some (by simp [hk])
  exact ⟨hk', hS.ent n _ hk'⟩

theorem s_next (h : At P ρ H g w t a) {ty : TypeId} {x : Operand} {y : Opd} (hx : cOpd x = some y) (hv : vcOp P (.next false y) t H K) :
    GoodRes P ρ H g K ((do pure (Next.value (← Instr.next (a.eval x) false ty)) : Sem Next).run P w) := by
  simp only [vcOp, evK_eq] at hv
  have hb := h.bel hx
  rw [h.eq hx]
  unfold vcNext at hv
  split at hv
  · rename_i n e0
    rw [e0]
    rw [objK_eq] at hv
    split at hv
    · rename_i s seen st hk
      obtain ⟨_, b, hb', hh⟩ := iter_of h.s hk
      refine GoodRes.val (w' := w) (v := .tuple #[.bool false]) ?_ ?_
      · simp [V.val, hb', Instr.next, getObj, Sem.run, hh]
      · simpa [V.val, valL] using Res.here (K := K) h.s (sv := .tup [.kb false]) rfl hv
    · rename_i j since seen last hk
      obtain ⟨hk1, b, hb', hh⟩ := iter_of h.s hk
      rw [objK_eq] at hv
      split at hv
      · rename_i es c hkm
        obtain ⟨hkm1, bm, hbm, hhm⟩ := map_of h.s hkm
        obtain ⟨⟨c1, c2⟩, h1, h2⟩ := hv
        simp only [Option.bind_some, hbm] at hh
        simp only [V.val, hb', Option.getD_some]
        rcases run_next_at (P := P) w ty b bm since last seen.toArray es.toArray c hh hhm (by simpa using c1) c2 with ⟨z1, z2⟩ | ⟨e, z1, w1, z2, z3⟩
        · refine GoodRes.val z2 ?_
          have hall : ∀ e ∈ es, e.born ∈ seen := by
            intro e he
            rcases Classical.em (e.born ∈ seen) with h3 | h3
            · exact h3
            · exfalso
              have : e ∈ (leftOf es.toArray seen.toArray) := by
                simp [leftOf, he, h3]
              rw [Array.eq_empty_of_size_eq_zero z1] at this
              simp at this
          simpa [V.val, valL] using Res.here (K := K) h.s (sv := .tup [.kb false]) rfl (h1 hall)
        · have hmem : e ∈ es ∧ e.born ∉ seen := by
            have := Array.mem_toList_iff.1 z1
            simp [leftOf] at this
            exact this
          refine GoodRes.val z3 ?_
          have hk2 := h2 e hmem.1 hmem.2
          rw [setHK_eq] at hk2
          have hlt := (Array.getElem?_eq_some_iff.1 hh).1
          have hheap : (Go.ChangeMaps.setBlock w1 b (.mapIter (some bm) since (seen.toArray.push e.born) c)).heap = w.heap.setIfInBounds b (.mapIter (some bm) since (seen ++ [e.born]).toArray c) := by
            have e1 : w1.heap = w.heap := by rcases z2 with rfl | rfl <;> rfl
            simp [Go.ChangeMaps.setBlock, e1]
          refine ⟨ρ, .tup [.kb true, svConst e.key, svConst e.val], _, by simp [V.val, valL, val_svConst], ?_, fun _ _ => rfl, by simp, by simp [below, belowL, below_svConst], hk2⟩
          have henv : w1.os = w.os ∧ w1.tape = w.tape ∧ w1.output = w.output ∧ w.drawn ≤ w1.drawn := by rcases z2 with rfl | rfl <;> exact ⟨rfl, rfl, rfl, by first | exact Nat.le_refl _ | exact Nat.le_succ _⟩
          refine h.s.set hk1 rfl rfl hb' ⟨hheap, henv.1, henv.2.1, henv.2.2⟩ ⟨b, hb', ?_⟩ (by simp) ?_
          · rw [hheap]; simp [hlt, hbm]
          · intro m s seen' st he; cases he; exact h.s.sci n _ _ _ _ hk1
      · exact hv.elim
    · exact hv.elim
  · exact hv.elim

theorem s_entry (h : At P ρ H g w t a) {x : Operand} {y : Opd} (hx : cOpd x = some y) (hv : vcOp P (.entry y) t H K) :
    GoodRes1 P ρ H K w ((do pure (Next.value (← Instr.entry (a.eval x))) : Sem Next).run P w) := by
  simp only [vcOp, evK_eq] at hv
  rw [h.eq hx]
  unfold vcEntry at hv
  split at hv
  · rename_i n e0
    rw [e0]
    rw [objK_eq] at hv
    split at hv
    · rename_i j since seen st hk
      obtain ⟨hk1, b, hb', hh⟩ := iter_of h.s hk
      rw [objK_eq] at hv
      split at hv
      · rename_i es c hkm
        obtain ⟨hkm1, bm, hbm, hhm⟩ := map_of h.s hkm
        obtain ⟨s, e, h1, h2, h3, h4⟩ := hv
        simp only [Option.bind_some, hbm] at hh
        have hback : seen.toArray.back? = some s := by rw [Array.back?_eq_getElem?]; rw [List.getLast?_eq_getElem?] at h1; simpa using h1
        have hfind : es.toArray.find? (·.born == s) = some e := by simpa using h2
        refine GoodRes1.val (v := .tuple #[e.key, e.val]) ?_ (by simpa [V.val, valL, val_svConst] using Here.here (ρ := ρ) (K := K) (sv := .tup [svConst e.key, svConst e.val]) (by simp [below, belowL, below_svConst]) h4)
        subst h3
        simp [V.val, hb', Instr.entry, getObj, Sem.run, hh, hhm, hback, hfind]
      · exact hv.elim
    · exact hv.elim
  · exact hv.elim
end
end Go.V

namespace Go.V
open Go
set_option linter.unusedSectionVars false
variable [Mode]

section
variable {P : Program} {ρ : Rho} {H : List SO} {g : Fr} {w : World} {K : SV → List SO → Prop} {t : List SV} {a : Act} {o : Oper}

theorem run_typeInfo {t : TypeId} {i : TypeInfo} (h : P.info? t = some i) : (typeInfo t).run P w = .ok i w := by simp [typeInfo, h]

/-- 'append' where the second operand's elements are known. -/
theorem run_append_any {ts : Array TypeId} {st xt el ty : TypeId} {i : TypeInfo} {z : Value} (ht0 : ts[0]? = some st) (ht1 : ts[1]? = some xt) (hs : P.underlying st = some (.slice el)) {dx : TypeDesc} (hx : P.underlying xt = some dx) (hdx : ∀ k, dx ≠ .int k)
    (hi : P.info? el = some i) (hz : i.zero = some z) (base : Option Addr) (sLen sCap : Nat) (y : Value) (n : Nat) (news : List Value)
    (hlen : ∀ w', (Builtin.lenOf y).run P w' = .ok n w') (hfirst : ∀ w', w'.heap = w.heap → (Builtin.firstCells i.size n y).run P w' = .ok news.toArray w') :
    (sLen + n ≤ sCap → (Builtin.append_ ts ty #[.slice base sLen sCap, y]).run P w =
      (match base with | some b => (storeCells (b.add (sLen * i.size)) news).run P w | none => .ok () w).andThen fun _ w' => .ok (.slice base (sLen + n) sCap) w') ∧
    (sCap < sLen + n → (sLen + n) * i.bytes ≤ 1099511627776 → ((sLen + n : Nat) : Int) ≤ 9223372036854775807 → ∀ olds : List Value, (∀ w', w'.heap = w.heap → (Builtin.firstCells i.size sLen (.slice base sLen sCap)).run P w' = .ok olds.toArray w') →
      (Builtin.append_ ts ty #[.slice base sLen sCap, y]).run P w =
      .ok (.slice (some ⟨w.heap.size, 0, none⟩) (sLen + n) (grownCap w (sLen + n) sCap el)) (w.drew.alloc (.cells (olds.toArray ++ news.toArray ++ Builtin.zeroCells z.cells (grownCap w (sLen + n) sCap el - (sLen + n))) el))) := by
  have hsz : ∀ w', (sizeOf el).run P w' = .ok i.size w' := fun w' => by simp [sizeOf, typeInfo, hi]
  have hzero : ∀ w', (zeroValue el).run P w' = .ok z w' := fun w' => by simp [zeroValue, typeInfo, hi, hz]
  have a0 : (#[Value.slice base sLen sCap, y] : Array Value)[0]? = some (.slice base sLen sCap) := rfl
  have a1 : (#[Value.slice base sLen sCap, y] : Array Value)[1]? = some y := rfl
  constructor
  · intro hle
    simp only [Builtin.append_, ht0, ht1, a0, a1, Sem.run_bind, run_und hs, run_und hx, hsz, Result.andThen_ok, Sem.run_pure, hlen, hfirst w rfl, hle, if_true, Bool.false_eq_true, if_false, Bool.not_false]
    cases base <;> simp
  · intro hlt hb h63 olds hold
    have h1 : ¬ (sLen + n ≤ sCap) := by omega
    have h2 : ¬ (((sLen + n : Nat) : Int) > IntKind.i64.max) := by
      have e : IntKind.i64.max = 9223372036854775807 := by decide
      rw [e]; omega
    have h3 : ¬ (Builtin.nextslicecap (sLen + n) sCap * i.bytes > 2 ^ 48) := by
      have := growslice_fits (bytes := i.bytes) hlt (by omega); omega
    simp only [Builtin.append_, ht0, ht1, a0, a1, Sem.run_bind, run_und hs, run_und hx, hsz, hzero, Result.andThen_ok, Sem.run_pure, hlen, h1, if_false, Bool.false_eq_true, Bool.not_false, run_typeInfo hi, h2, false_and, h3, if_true, run_choose, Question.forced, run_askRoom, World.drew_eq, hfirst w.drew rfl, hold w.drew rfl, newRow, run_newObj, grownCap, World.alloc_eq]
    simp

/-! ### Append -/
theorem first_of {sz n : Nat} {adr : Option Addr} {ys : List Value} {l c : Nat} (h : ElemsAt w adr ys) (hl : ys.length = n * sz) (w' : World) (hw : w'.heap = w.heap) :
    (Builtin.firstCells sz n (.slice adr l c)).run P w' = .ok ys.toArray w' := by
  rcases h with ⟨rfl, rfl⟩ | ⟨b, off, rfl, hc⟩
  · simp [Builtin.firstCells]
  · refine run_firstCells_some w' sz n _ l c ys hl fun j v hj => ?_
    rw [add_eq]
    have := hc j v hj
    simpa [World.cell?, hw] using this
theorem elems_of (hS : St ρ H g w) {sz : Nat} {v : SV} {ys : List Value} {m : Nat} (h : slElems H sz v = some (ys, m)) (hl : ys.length = m * sz) :
    (∀ w', (Builtin.lenOf (V.val ρ v)).run P w' = .ok m w') ∧ ∀ w', w'.heap = w.heap → (Builtin.firstCells sz m (V.val ρ v)).run P w' = .ok ys.toArray w' := by
  rcases slElems_spec hS h with ⟨adr, c, hv, hel⟩ | ⟨s, hv, h1, h2⟩
  · rw [hv]; exact ⟨fun w' => by simp [Builtin.lenOf], fun w' hw => first_of hel hl w' hw⟩
  · rw [hv]; subst h1
    refine ⟨fun w' => by simp [Builtin.lenOf], fun w' _ => ?_⟩
    have e : s.extract 0 s.size = s := by
      apply ByteArray.ext
      rw [ByteArray.data_extract]
      simp
    rw [h2]
    simp only [Builtin.firstCells, e, Sem.run_pure]
    congr 1
    apply Array.toList_inj.1; simp

theorem cellsOK_spec : ∀ {l : List Value}, cellsOK l = true → ∀ v ∈ l, v.oneCell' = true
  | [], _ => by simp
  | x :: l, h => by
    intro v hv
    have h2 : x.oneCell' = true ∧ cellsOK l = true := by
      cases x <;> simp_all [cellsOK, Value.oneCell']
    rcases List.mem_cons.1 hv with rfl | hv
    · exact h2.1
    · exact cellsOK_spec h2.2 v hv

/-- An entry is given up. -/
theorem St.giveUp (h : St ρ H g w) (k : Nat) : St ρ (H.set k .gone) g w := by
  have hget : ∀ (j : Nat) s, (H.set k .gone)[j]? = some s → s = .gone ∨ H[j]? = some s := by
    intro j s hj
    by_cases hjk : k = j
    · subst hjk
      rw [List.getElem?_set_self'] at hj
      cases hH : H[k]? <;> simp [hH] at hj
      exact .inl hj.symm
    · rw [List.getElem?_set_ne hjk] at hj; exact .inr hj
  have hown : ∀ {s : SO}, s.owned = true → s ≠ .gone := by rintro _ h1 rfl; simp [SO.owned] at h1
  have hor : ∀ {s : SO}, s.owned = true ∨ s.isRo = true → s ≠ .gone := by rintro _ h1 rfl; simp [SO.owned, SO.isRo] at h1
  constructor
  · intro j s hj
    rcases hget j s hj with rfl | h1
    · trivial
    · exact h.ent j s h1
  · intro i j si sj b hij hi hj ho hoj hb
    exact h.dis i j si sj b hij ((hget i si hi).resolve_left (hown ho)) ((hget j sj hj).resolve_left (hor hoj)) ho hoj hb
  · intro i j si gh b hi ho hj hb
    exact h.gho i j si gh b ((hget i si hi).resolve_left (hown ho)) ho ((hget j _ hj).resolve_left (by simp)) hb
  · exact h.env
  · exact h.frm
  · intro i si b hi ho hb
    exact h.frd i si b ((hget i si hi).resolve_left (hown ho)) ho hb
  · intro j l e hj
    simpa using h.scp j l e ((hget j _ hj).resolve_left (by simp))
  · intro j m s seen st hj
    simpa using h.sci j m s seen st ((hget j _ hj).resolve_left (by simp))
  · intro j gh b hj hb
    exact h.hpf j gh b ((hget j _ hj).resolve_left (by simp)) hb
  · intro j i gh b si hj hb hi ho
    exact h.hpo j i gh b si ((hget j _ hj).resolve_left (by simp)) hb ((hget i si hi).resolve_left (hor ho)) ho
  · intro j i gh b si hj hb hij hi hc
    refine h.hpc j i gh b si ((hget j _ hj).resolve_left (by simp)) hb hij ((hget i si hi).resolve_left ?_) hc
    rintro rfl; simp [SO.claims] at hc

/-- The row of a nil slice. -/
theorem St.nilRow (h : St ρ H g w) (e : TypeId) : St (upd ρ H.length none) (H ++ [.arr [] e]) g w := by
  have hget : ∀ (j : Nat) s, (H ++ [SO.arr [] e])[j]? = some s → (j < H.length ∧ H[j]? = some s) ∨ (j = H.length ∧ s = SO.arr [] e) := by
    intro j s hj
    rcases Nat.lt_trichotomy j H.length with h1 | h1 | h1
    · rw [List.getElem?_append_left h1] at hj; exact .inl ⟨h1, hj⟩
    · subst h1; rw [List.getElem?_append_right (by simp)] at hj; simp at hj; exact .inr ⟨rfl, hj.symm⟩
    · rw [List.getElem?_eq_none (by simp; omega)] at hj; cases hj
  constructor
  · intro j s hj
    rcases hget j s hj with ⟨h1, h2⟩ | ⟨rfl, rfl⟩
    · refine entryOK_congr h1 (h.ent j s h2) (fun i hi => upd_lt ρ _ hi) ?_ ?_ (fun b o _ hb _ _ => hb)
      · rintro l e rfl; exact h.scp j l e h2
      · rintro m s' seen st rfl; exact h.sci j m s' seen st h2
    · exact .inl ⟨upd_same _ _ _, rfl⟩
  · intro i j si sj b hij hi' hj' ho hoj hb
    rcases hget i si hi' with ⟨h1, h2⟩ | ⟨rfl, rfl⟩
    · rw [upd_lt ρ _ h1] at hb
      rcases hget j sj hj' with ⟨h3, h4⟩ | ⟨rfl, rfl⟩
      · rw [upd_lt ρ _ h3]; exact h.dis i j si sj b hij h2 h4 ho hoj hb
      · rw [upd_same]; simp
    · rw [upd_same] at hb; cases hb
  · intro i j si gh b hi' ho hj' hb
    rcases hget i si hi' with ⟨h1, h2⟩ | ⟨rfl, rfl⟩
    · rw [upd_lt ρ _ h1] at hb
      rcases hget j _ hj' with ⟨h3, h4⟩ | ⟨_, h4⟩
      · exact h.gho i j si gh b h2 ho h4 hb
      · cases h4
    · rw [upd_same] at hb; cases hb
  · exact h.env
  · exact h.frm
  · intro i si b hi' ho hb
    rcases hget i si hi' with ⟨h1, h2⟩ | ⟨rfl, rfl⟩
    · rw [upd_lt ρ _ h1] at hb; exact h.frd i si b h2 ho hb
    · rw [upd_same] at hb; cases hb
  · intro j l e2 hj
    rcases hget j _ hj with ⟨h1, h2⟩ | ⟨_, h2⟩
    · exact belowL_mono (by simp) l (h.scp j l e2 h2)
    · cases h2
  · intro j m s' seen st hj
    rcases hget j _ hj with ⟨h1, h2⟩ | ⟨_, h2⟩
    · have := h.sci j m s' seen st h2; simp; omega
    · cases h2
  · intro j gh b hj hb
    rcases hget j _ hj with ⟨h1, h2⟩ | ⟨_, h2⟩
    · exact h.hpf j gh b h2 hb
    · cases h2
  · intro j i gh b si hj hb hi ho
    rcases hget j _ hj with ⟨h1, h2⟩ | ⟨_, h2⟩
    · rcases hget i _ hi with ⟨h3, h4⟩ | ⟨h3, h4⟩
      · rw [upd_lt ρ _ h3]; exact h.hpo j i gh b si h2 hb h4 ho
      · subst h3; rw [upd_same]; simp
    · cases h2
  · intro j i gh b si hj hb hij hi
    rcases hget j _ hj with ⟨h1, h2⟩ | ⟨_, h2⟩
    · rcases hget i _ hi with ⟨h3, h4⟩ | ⟨h3, h4⟩
      · exact h.hpc j i gh b si h2 hb hij h4
      · subst h4; simp [SO.claims]
    · cases h2

theorem zeroCells_size (z : Array Value) (n : Nat) : (Builtin.zeroCells z n).size = n * z.size := by simp [Builtin.zeroCells]

theorem s_append (h : At P ρ H g w t a) {e st xt ty : TypeId} {ts : Array TypeId} {sz by' : Nat} {zs : List Value} {lk : LK} {x y : Operand} {x' y' : Opd} (ht0 : ts[0]? = some st) (ht1 : ts[1]? = some xt) (hs : P.underlying st = some (.slice e)) (hk : lenKind P xt = some lk)
    (hsz : sizeT P e = some sz) (hby : bytesT P e = some by') (hzs : zeroCellsT P e = some zs) (h0 : sz ≠ 0) (hzl : zs.length = sz) (hb0 : by' ≠ 0) (hx : cOpd x = some x') (hy : cOpd y = some y') (hv : vcOp P (.append e sz by' zs x' y') t H K) :
    GoodRes P ρ H g K ((do pure (Next.value (← Builtin.append_ ts ty #[a.eval x, a.eval y])) : Sem Next).run P w) := by
  simp only [vcOp, evK_eq] at hv
  rw [h.eq hx, h.eq hy]
  have hbx := h.bel hx
  generalize ev t x' = u at *
  generalize ev t y' = v at *
  cases hi : P.info? e with
  | none => simp [sizeT, hi] at hsz
  | some i =>
  simp [sizeT, hi] at hsz
  simp [bytesT, hi] at hby
  simp [zeroCellsT, zeroT, hi] at hzs
  obtain ⟨z, hz, hzs⟩ := hzs
  obtain ⟨dx, hdx, hni⟩ : ∃ dx, P.underlying xt = some dx ∧ ∀ k, dx ≠ .int k := by
    unfold lenKind at hk
    cases hd : P.underlying xt with
    | none => simp [hd] at hk
    | some d => exact ⟨d, rfl, fun k e => by subst e; simp [hd] at hk⟩
  have hzz : z.cells.size = sz := by rw [← hzl, ← hzs]; simp
  obtain ⟨ys, m, hels, hv⟩ : ∃ (ys : List Value) (m : Nat), (ys.length = m * sz → (∀ w', (Builtin.lenOf (V.val ρ v)).run P w' = .ok m w') ∧ ∀ w', w'.heap = w.heap → (Builtin.firstCells sz m (V.val ρ v)).run P w' = .ok ys.toArray w') ∧
      vcAppendB e sz by' u ys m H K := by
    unfold vcAppend at hv
    cases hel : slElems H sz v with
    | some q => exact ⟨q.1, q.2, fun hl => elems_of h.s hel hl, by rw [hel] at hv; exact hv⟩
    | none =>
      rw [hel] at hv; simp only at hv
      split at hv
      · rename_i a0 n c
        obtain ⟨ys, hR, hv⟩ := hv
        refine ⟨ys, _, fun hl => ⟨fun w' => by simp [Builtin.lenOf, V.val], fun w' hw => ?_⟩, hv⟩
        rcases hR with ⟨h0, rfl⟩ | ⟨j, b, o, xs, e', fr, rfl, hB, rfl⟩
        · exact run_firstCells_some w' sz n _ _ _ [] hl (by simp)
        have hh := hasB_heap h.s hB
        refine first_of (w := w) (.inr ⟨b, o, rfl, fun j x hj => ?_⟩) hl w' hw
        rw [cell_of hh]
        have : j < n * sz := by
          have := (List.getElem?_eq_some_iff.1 hj).1; simp at this; omega
        rw [List.getElem?_take_of_lt this, List.getElem?_drop] at hj
        simpa using hj
      · exact hv.elim
  unfold vcAppendB at hv
  have grow : ∀ (base : Option Addr) (n c : Nat) (olds : List Value), V.val ρ u = .slice base n c → ElemsAt w base olds → olds.length = n * sz → ys.length = m * sz → (n + m) * by' ≤ 1099511627776 → c < n + m →
      (∀ (zs' : List Value) (c' : Nat), n + m ≤ c' → zs'.length = c' * sz → zs'.take ((n + m) * sz) = olds ++ ys → Res ρ H g K (.slice (some ⟨w.heap.size, 0, none⟩) (n + m) c') (w.drew.alloc (.cells zs'.toArray e))) →
      GoodRes P ρ H g K ((do pure (Next.value (← Builtin.append_ ts ty #[V.val ρ u, V.val ρ v])) : Sem Next).run P w) := by
    intro base n c olds e1 ho ho2 hl hb hc hres
    obtain ⟨l1, l2⟩ := hels hl
    have hnm : n + m ≤ (n + m) * by' := Nat.le_mul_of_pos_right _ (by omega)
    have := (run_append_any (P := P) (w := w) (ty := ty) ht0 ht1 hs hdx hni hi hz base n c (V.val ρ v) m ys l1 (by rw [hsz]; exact l2)).2 hc (by rw [hby]; exact hb) (by omega) olds (by rw [hsz]; exact fun w' hw => first_of ho ho2 w' hw)
    rw [e1]
    refine GoodRes.val this ?_
    have hge := grownCap_ge w (n + m) c e
    have key := hres (olds ++ ys ++ (Builtin.zeroCells z.cells (grownCap w (n + m) c e - (n + m))).toList) (grownCap w (n + m) c e) hge ?_ ?_
    · have e5 : (olds ++ ys ++ (Builtin.zeroCells z.cells (grownCap w (n + m) c e - (n + m))).toList).toArray = olds.toArray ++ ys.toArray ++ Builtin.zeroCells z.cells (grownCap w (n + m) c e - (n + m)) := by simp
      rw [e5] at key; exact key
    · simp only [List.length_append, Array.length_toList, zeroCells_size, hzz, ho2, hl]
      rw [← Nat.add_mul, ← Nat.add_mul]; congr 1; omega
    · rw [List.take_append_of_le_length (by simp [ho2, hl, Nat.add_mul])]
      exact List.take_of_length_le (by simp [ho2, hl, Nat.add_mul])
  have fresh : ∀ (H1 : List SO) (ρ1 : Rho), St ρ1 H1 g w → H1.length = H.length → (∀ k, k < H.length → ρ1 k = ρ k) → ∀ (zs' : List Value) (n c' : Nat), K (.sl H.length 0 n c') (H1 ++ [.arr zs' e]) →
      Res ρ H g K (.slice (some ⟨w.heap.size, 0, none⟩) n c') (w.drew.alloc (.cells zs'.toArray e)) := by
    intro H1 ρ1 hS1 hl1 hr1 zs' n c' hK
    have := Res.alloc (K := K) (v := .slice (some ⟨w.heap.size, 0, none⟩) n c') (w' := w.drew.alloc (.cells zs'.toArray e)) (hS1.heap (w' := w.drew) ⟨rfl, rfl, rfl, rfl, Nat.le_succ _⟩) (so := .arr zs' e) (o := .cells zs'.toArray e) (sv := .sl H1.length 0 n c') ⟨rfl, rfl, rfl, rfl, Nat.le_refl _⟩ rfl
      (.inr ⟨w.heap.size, (0, 0), by rw [upd_same]; rfl, heap_push_new (w := w.drew) rfl, .inl rfl⟩) (by simp) (by simp) (by simp [V.val, upd_same]) (by simp [below]) (by rw [hl1]; exact hK)
    obtain ⟨ρ', sv, H', a1, a2, a3, a4, a5, a6⟩ := this
    exact ⟨ρ', sv, H', a1, a2, fun k hk => (a3 k (by omega)).trans (hr1 k hk), by omega, a5, a6⟩
  split at hv
  · rename_i k off n c _
    rw [objK_eq] at hv
    cases hobj : obj H k <;> rw [hobj] at hv <;> try exact hv.elim
    rename_i xs e'
    obtain ⟨⟨⟨hnc, hlen, rfl⟩, ⟨hyl, hy1⟩, hbd⟩, hv⟩ := hv
    have hk' : H[k]? = some (.arr xs e') := by rw [← hobj]; exact obj_some (by simp [hobj])
    have hkl : k < H.length := (List.getElem?_eq_some_iff.1 hk').1
    have helx : slElems H sz (.sl k off n c) = some ((xs.drop off).take (n * sz), n) := by simp [slElems, hobj]
    have hnl : n * sz ≤ c * sz := Nat.mul_le_mul_right _ hnc
    have hlx : ((xs.drop off).take (n * sz)).length = n * sz := by simp; omega
    have hEl : ElemsAt w ((ρ k).map fun b => ⟨b, off, none⟩) ((xs.drop off).take (n * sz)) := by
      rcases slElems_spec h.s helx with ⟨adr, cc, hv, hel⟩ | ⟨s, hv, _⟩
      · simp only [V.val] at hv; cases hv; exact hel
      · simp [V.val] at hv
    simp only [setHK_eq, newHK_eq, List.length_set] at hv
    by_cases hfit : n + m ≤ c
    · -- in place
      obtain ⟨l1, l2⟩ := hels hyl
      have hrun := (run_append_any (P := P) (w := w) (ty := ty) ht0 ht1 hs hdx hni hi hz ((ρ k).map fun b => ⟨b, off, none⟩) n c (V.val ρ v) m ys l1 (by rw [hsz]; exact l2)).1 hfit
      have hent := h.s.ent k _ hk'
      rcases hent with ⟨hr0, hx0⟩ | ⟨b, fr, hb, hh, hfr⟩
      · have hc0 : c * sz = 0 := by rw [hx0] at hlen; simp at hlen; omega
        have hm0 : m = 0 := by rcases Nat.mul_eq_zero.1 hc0 with h1 | h1 <;> omega
        have hn0 : n = 0 := by rcases Nat.mul_eq_zero.1 hc0 with h1 | h1 <;> omega
        have hy0 : ys = [] := by rw [hm0] at hyl; simpa using hyl
        subst hx0
        have := hv [] off c ⟨hfit, hlen, by subst hm0; simp [hy0, hn0]⟩
        simp only [hr0, Option.map_none, Result.andThen_ok] at hrun
        refine GoodRes.val (w' := w) (v := .slice none (n + m) c) (by simp only [V.val, hr0, Option.map_none]; exact hrun) ?_
        refine ⟨upd ρ H.length none, .sl H.length off (n + m) c, H.set k .gone ++ [.arr [] e'], ?_, ?_, fun j hj => upd_lt ρ _ hj, by simp, by simp [below], this⟩
        · simp [V.val, upd_same]
        · have := (h.s.giveUp k).nilRow e'
          simpa using this
      · have hnms : (n + m) * sz ≤ c * sz := Nat.mul_le_mul_right _ hfit
        rw [Nat.add_mul] at hnms
        obtain ⟨w', c', r1, r2, r3, r4⟩ := run_storeCells (P := P) (o := off + n * sz) ys 0 xs.toArray w hh (cellsOK_spec hy1) (by simp; omega) (by simpa using hfr)
        simp only [hb, Option.map_some, add_eq, hsz, r1, Result.andThen_ok] at hrun
        have hl' : c'.toList.length = xs.length := by simpa using r3
        have hcell : (c'.toList.drop off).take ((n + m) * sz) = (xs.drop off).take (n * sz) ++ ys := by
          apply List.ext_getElem?
          intro j
          rw [Nat.add_mul]
          by_cases j1 : j < n * sz
          · rw [List.getElem?_take_of_lt (by omega), List.getElem?_drop, List.getElem?_append_left (by omega), List.getElem?_take_of_lt j1, List.getElem?_drop]
            have := r4 (off + j)
            rw [if_neg (by omega)] at this
            simpa using this
          · rw [List.getElem?_append_right (by omega), hlx]
            by_cases j2 : j < n * sz + m * sz
            · rw [List.getElem?_take_of_lt (by omega), List.getElem?_drop]
              have := r4 (off + j)
              rw [if_pos (by omega)] at this
              rw [show off + j - (off + n * sz + 0) = j - n * sz by omega] at this
              simpa using this
            · rw [List.getElem?_eq_none (by simp; omega), List.getElem?_eq_none (by omega)]
        have := hv c'.toList off c ⟨hfit, by omega, hcell⟩
        refine GoodRes.val (w' := w') (v := .slice (some ⟨b, off, none⟩) (n + m) c) (by simp only [V.val, hb, Option.map_some]; exact hrun) ?_
        have hlt := (Array.getElem?_eq_some_iff.1 hh).1
        have hS1 : St ρ (H.set k (.arr c'.toList e')) g w' := h.s.set hk' rfl rfl hb r2 (.inr ⟨b, fr, hb, by rw [r2.1]; simp [hlt], hfr.imp id (by omega)⟩) (by simp) (by simp)
        have hS2 := hS1.move (k := k) (so := .arr c'.toList e') (by simp [hkl]) rfl
        refine ⟨upd ρ H.length (ρ k), .sl H.length off (n + m) c, H.set k .gone ++ [.arr c'.toList e'], by simp [V.val, upd_same, hb], ?_, fun j hj => upd_lt ρ _ hj, by simp, by simp [below], this⟩
        simpa using hS2
    · exact grow ((ρ k).map fun b => ⟨b, off, none⟩) n c _ rfl hEl hlx hyl hbd (by omega) fun zs' c' q1 q2 q3 => by
        have := hv zs' 0 c' ⟨q1, by omega, by simpa using q3⟩
        exact fresh _ ρ (h.s.giveUp k) (by simp) (fun _ _ => rfl) zs' (n + m) c' this
  · obtain ⟨⟨hyl, hbd⟩, hv⟩ := hv
    simp only [newHK_eq] at hv
    by_cases hm : m = 0
    · subst hm
      obtain ⟨l1, l2⟩ := hels hyl
      have hrun := (run_append_any (P := P) (w := w) (ty := ty) ht0 ht1 hs hdx hni hi hz none 0 0 (V.val ρ v) 0 ys l1 (by rw [hsz]; exact l2)).1 (by omega)
      have := hv [] 0 ⟨by omega, by simp, by simp at hyl; simp [hyl]⟩
      refine GoodRes.val (w' := w) (v := .slice none 0 0) (by simpa [V.val] using hrun) ?_
      exact ⟨upd ρ H.length none, .sl H.length 0 0 0, H ++ [.arr [] e], by simp [V.val, upd_same], h.s.nilRow e, fun j hj => upd_lt ρ _ hj, by simp, by simp [below], this⟩
    · refine grow none 0 0 [] rfl (.inl ⟨rfl, rfl⟩) (by simp) hyl (by simpa using hbd) (by omega) fun zs' c' q1 q2 q3 => ?_
      have := hv zs' c' ⟨by omega, by omega, by simpa using q3⟩
      exact fresh H ρ h.s rfl (fun _ _ => rfl) zs' (0 + m) c' (by simpa using this)
  · exact hv.elim
end
end Go.V

namespace Go.V
open Go
set_option linter.unusedSectionVars false
variable [Mode]

section
variable {P : Program} {ρ : Rho} {H : List SO} {g : Fr} {w : World} {K : SV → List SO → Prop} {t : List SV} {a : Act} {o : Oper}

/-- A row whose cells come to xs' now. -/
theorem row_set (hS : St ρ H g w) {k b : Nat} {xs xs' : List Value} {e : TypeId} {fr fr' : Nat × Nat} {w' : World} {sv : SV} {v : Value} (hk : H[k]? = some (.arr xs e)) (hb : ρ k = some b) (hh : w.heap[b]? = some (.cells xs.toArray e fr))
    (hfr : fr'.1 = fr'.2 ∨ xs'.length ≤ fr'.1) (hw : HeapIs w w' (w.heap.setIfInBounds b (.cells xs'.toArray e fr'))) (hv : v = val ρ sv) (hbl : below H.length sv = true) (hK : K sv (H.set k (.arr xs' e))) : Res ρ H g K v w' := by
  have hlt := (Array.getElem?_eq_some_iff.1 hh).1
  refine ⟨ρ, sv, H.set k (.arr xs' e), hv, hS.set hk rfl rfl hb hw (.inr ⟨b, fr', hb, ?_, hfr⟩) (by simp) (by simp), fun _ _ => rfl, by simp, by simpa using hbl, hK⟩
  rw [hw.1]; simp [hlt]

theorem s_conv_s2s (h : At P ρ H g w t a) {src dst e d0 : TypeId} {x : Operand} {y : Opd} (h1 : P.underlying src = some (.slice d0)) (h2 : P.underlying dst = some (.slice e)) (hsd : (src == dst) = true) (h3 : P.underlying e = some (.int .u8)) (hx : cOpd x = some y) (hv : vcOp P (.conv .s2s y) t H K) :
    GoodRes P ρ H g K ((do pure (Next.value (← convert src dst (a.eval x))) : Sem Next).run P w) := by
  simp only [vcOp, evK_eq] at hv
  have hbx := h.bel hx
  rw [h.eq hx]
  generalize ev t y = v at *
  unfold vcConv at hv
  split at hv
  case h_5 =>
    rename_i k o n c _
    rw [objK_eq] at hv
    split at hv
    · rename_i xs e' hk
      obtain ⟨hne, hK⟩ := hv
      have hk' : H[k]? = some (.arr xs e') := by rw [← hk]; exact obj_some (by simp [hk])
      rcases h.s.ent k _ hk' with ⟨_, h0⟩ | ⟨b, fr, hb, hh, hfr⟩
      · exact absurd h0 hne
      · have hlt := (Array.getElem?_eq_some_iff.1 hh).1
        let w2 : World := w.freeze ⟨b, xs.length, none⟩ 1
        let fr' : Nat × Nat := if fr.1 = fr.2 then (xs.length, xs.length + 1) else (min fr.1 xs.length, max fr.2 (xs.length + 1))
        have hfr' : xs.length ≤ fr'.1 := by
          simp only [fr']
          split
          · exact Nat.le_refl _
          · rcases hfr with h1 | h1
            · exact absurd h1 ‹_›
            · simp; omega
        have hw2 : w2.heap = w.heap.setIfInBounds b (.cells xs.toArray e' fr') := by
          simp only [w2, World.freeze, Nat.one_ne_zero, if_false]
          apply Array.ext_getElem?
          intro j
          by_cases hj : b = j
          · subst hj
            obtain ⟨lo, hi⟩ := fr
            rw [Array.getElem?_modify, if_pos rfl, hh]
            simp [hlt, fr']
          · rw [Array.getElem?_modify, if_neg hj, Array.getElem?_setIfInBounds_ne hj]
        refine GoodRes.val (v := V.val ρ (.sl k o n c)) (w' := w2) ?_ ?_
        · simp only [V.val, hb, Option.map_some, convert, Sem.run_bind, run_und h1, run_und h2, Result.andThen_ok, run_und h3, hsd, markStringish, run_shape, World.shape?, hh, run_freeze, Sem.run_pure]
          simp [w2]
        · refine row_set h.s hk' hb hh (fr' := fr') (.inr hfr') ⟨hw2, rfl, rfl, rfl, Nat.le_refl _⟩ rfl hbx ?_
          have : H.set k (.arr xs e') = H := by
            apply List.ext_getElem?
            intro i
            by_cases hi : k = i
            · subst hi; rw [List.getElem?_set_self (List.getElem?_eq_some_iff.1 hk').1, hk']
            · rw [List.getElem?_set_ne hi]
          rw [this]; exact hK
    · exact hv.elim
  case h_11 => exact hv.elim
  all_goals (rename_i hcc; cases hcc)

theorem s_clear (h : At P ρ H g w t a) {st e ty : TypeId} {ts : Array TypeId} {sz : Nat} {zs : List Value} {x : Operand} {x' : Opd} (ht0 : ts[0]? = some st) (hs : P.underlying st = some (.slice e))
    (hsz : sizeT P e = some sz) (hzs : zeroCellsT P e = some zs) (hx : cOpd x = some x') (hv : vcOp P (.clear sz zs x') t H K) :
    GoodRes P ρ H g K ((do pure (Next.value (← Builtin.clear_ ts ty #[a.eval x])) : Sem Next).run P w) := by
  simp only [vcOp, evK_eq] at hv
  rw [h.eq hx]
  have hbx := h.bel hx
  generalize ev t x' = v at *
  have tup : ∀ K' : SV → List SO → Prop, ∀ w' H', St ρ H' g w' → H'.length = H.length → K' un H' → Res ρ H g K' (.tuple #[]) w' := by
    intro K' w' H' hS hl hK
    exact ⟨ρ, un, H', rfl, hS, fun _ _ => rfl, by omega, rfl, hK⟩
  unfold vcClear at hv
  split at hv
  · rename_i k o n c
    rw [objK_eq] at hv
    split at hv
    · rename_i xs e' hk
      obtain ⟨⟨q1, q2, q3⟩, hv⟩ := hv
      have hk' : H[k]? = some (.arr xs e') := by rw [← hk]; exact obj_some (by simp [hk])
      have same : setHK H k (.arr xs e') (fun H' => K un H') := hv xs ⟨rfl, fun _ _ => rfl⟩
      rw [setHK_eq] at same
      have hset : H.set k (.arr xs e') = H := by
        apply List.ext_getElem?
        intro i
        by_cases hi : k = i
        · subst hi; rw [List.getElem?_set_self (List.getElem?_eq_some_iff.1 hk').1, hk']
        · rw [List.getElem?_set_ne hi]
      rw [hset] at same
      rcases h.s.ent k _ hk' with ⟨hr, h0⟩ | ⟨b, fr, hb, hh, hfr⟩
      · refine GoodRes.val (v := .tuple #[]) (w' := w) ?_ (tup K w H h.s rfl same)
        simp [Builtin.clear_, ht0, run_und hs, V.val, hr]
      · cases n with
        | zero =>
          refine GoodRes.val (v := .tuple #[]) (w' := w) ?_ (tup K w H h.s rfl same)
          simp [Builtin.clear_, ht0, run_und hs, V.val, hb]
        | succ n =>
          cases hi : P.info? e with
          | none => simp [sizeT, hi] at hsz
          | some i =>
          simp [sizeT, hi] at hsz
          simp [zeroCellsT, zeroT, hi] at hzs
          obtain ⟨z, hz, hzs⟩ := hzs
          have hzz : z.cells.size = sz := by rw [← q1, ← hzs]; simp
          have hzero : (zeroValue e).run P w = .ok z w := by simp [zeroValue, typeInfo, hi, hz]
          let ys := (Builtin.zeroCells z.cells (n + 1)).toList
          have hyl : ys.length = (n + 1) * sz := by simp [ys, zeroCells_size, hzz]
          have hy1 : ∀ v ∈ ys, v.oneCell' = true := by
            intro v hv
            simp only [ys, Builtin.zeroCells, Array.toList_map, Array.toList_range, List.mem_map, List.mem_range] at hv
            obtain ⟨j, hj, rfl⟩ := hv
            have hpos : 0 < z.cells.size := by
              rcases Nat.eq_zero_or_pos z.cells.size with h0 | h0
              · rw [h0] at hj; simp at hj
              · exact h0
            have hlt := Nat.mod_lt j hpos
            have := cellsOK_spec q2 (z.cells[j % z.cells.size]!) (by rw [getElem!_pos z.cells _ hlt, ← hzs]; simp)
            exact this
          obtain ⟨w', c', r1, r2, r3, r4⟩ := run_storeCells (P := P) (o := o) ys 0 xs.toArray w hh hy1 (by simp; omega) (by simpa using hfr)
          refine GoodRes.val (v := .tuple #[]) (w' := w') ?_ ?_
          · have r1' : (storeCells ⟨b, o, none⟩ (Builtin.zeroCells z.cells (n + 1)).toList).run P w = .ok () w' := r1
            simp [V.val, hb, Builtin.clear_, ht0, run_und hs, hzero, r1']
          · have hK := hv c'.toList ⟨by simpa using r3, fun j hj => by
              have := r4 j
              rw [if_neg (by omega)] at this
              simpa using this⟩
            rw [setHK_eq] at hK
            exact row_set h.s hk' hb hh (fr' := fr) (hfr.imp id (by simp at r3; simp; omega)) (by simpa using r2) rfl rfl hK
    · exact hv.elim
  · rename_i n c
    refine GoodRes.val (v := .tuple #[]) (w' := w) ?_ (tup K w H h.s rfl hv)
    simp [Builtin.clear_, ht0, run_und hs, V.val]
  · exact hv.elim

theorem s_copy (h : At P ρ H g w t a) {st e ty : TypeId} {ts : Array TypeId} {sz : Nat} {x y : Operand} {x' y' : Opd} (ht0 : ts[0]? = some st) (hs : P.underlying st = some (.slice e))
    (hsz : sizeT P e = some sz) (hx : cOpd x = some x') (hy : cOpd y = some y') (hv : vcOp P (.copy sz x' y') t H K) :
    GoodRes P ρ H g K ((do pure (Next.value (← Builtin.copy_ ts ty #[a.eval x, a.eval y])) : Sem Next).run P w) := by
  simp only [vcOp, evK_eq] at hv
  rw [h.eq hx, h.eq hy]
  generalize ev t x' = v at *
  generalize ev t y' = u at *
  unfold vcCopy at hv
  cases hel : slElems H sz u with
  | none => rw [hel] at hv; exact hv.elim
  | some q =>
  obtain ⟨ys, m⟩ := q
  rw [hel] at hv
  simp only at hv
  split at hv
  · rename_i k o n c
    rw [objK_eq] at hv
    split at hv
    · rename_i xs e' hk
      obtain ⟨⟨q1, q2, q3⟩, hv⟩ := hv
      have hk' : H[k]? = some (.arr xs e') := by rw [← hk]; exact obj_some (by simp [hk])
      obtain ⟨l1, l2⟩ := elems_of (P := P) h.s hel q1
      have hmn : Nat.min m n ≤ m := Nat.min_le_left _ _
      have hmn2 : Nat.min m n ≤ n := Nat.min_le_right _ _
      -- the first of them
      have first : (Builtin.firstCells sz (Nat.min m n) (V.val ρ u)).run P w = .ok (ys.take (Nat.min m n * sz)).toArray w := by
        rcases slElems_spec h.s hel with ⟨adr, cc, hv, he⟩ | ⟨s, hv, e1, e2⟩
        · rw [hv]
          refine first_of (w := w) ?_ ?_ w rfl
          · rcases he with ⟨rfl, rfl⟩ | ⟨b, off, rfl, hc⟩
            · exact .inl ⟨rfl, by simp⟩
            · refine .inr ⟨b, off, rfl, fun j z hz => hc j z ?_⟩
              rw [List.getElem?_take] at hz
              split at hz
              · exact hz
              · cases hz
          · have := Nat.mul_le_mul_right sz hmn
            simp only [List.length_take]; omega
        · rw [hv]
          subst e1
          have h1 : (Builtin.firstCells sz (Nat.min s.size n) (.string s)).run P w = .ok ((s.extract 0 (Nat.min s.size n)).data.map fun b => Value.int .u8 b.toNat) w := by simp [Builtin.firstCells]
          rw [h1]
          have hsz1 : s.size = 0 ∨ sz = 1 := by
            have : ys.length = s.size := by rw [e2]; simp
            rw [this] at q1
            rcases Nat.eq_zero_or_pos s.size with h0 | h0
            · exact .inl h0
            · right
              have := Nat.eq_of_mul_eq_mul_left h0 (show s.size * sz = s.size * 1 by omega)
              exact this
          congr 1
          apply Array.toList_inj.1
          rw [e2]
          simp only [Array.toList_map, ByteArray.data_extract, Array.toList_extract, ← List.map_take]
          congr 1
          rcases hsz1 with h0 | h0
          · have : s.data.toList = [] := by
              have : s.data.toList.length = 0 := by simpa using h0
              exact List.eq_nil_of_length_eq_zero this
            simp [this, List.extract]
          · subst h0; simp [List.extract]
      have bigstep : ∀ w', (match (V.val ρ (SV.sl k o n c)) with | .slice (some ad) _ _ => (storeCells ad (ys.take (Nat.min m n * sz))).run P w = .ok () w' | _ => w' = w) →
          (Builtin.copy_ ts ty #[V.val ρ (.sl k o n c), V.val ρ u]).run P w = .ok (.int .i64 (Nat.min m n)) w' := by
        intro w' hw
        simp only [V.val] at hw ⊢
        cases hr : ρ k with
        | none =>
          simp only [hr, Option.map_none] at hw ⊢
          subst hw
          simp only [Builtin.copy_, ht0, Sem.run_bind, run_und hs, Result.andThen_ok, l1, run_size hsz, first, Sem.run_pure, goInt]
          simp [ht0, run_und hs, l1, run_size hsz, first, goInt]
        | some b =>
          simp only [hr, Option.map_some] at hw ⊢
          simp [Builtin.copy_, ht0, run_und hs, l1, run_size hsz, first, hw, goInt]
      rcases h.s.ent k _ hk' with ⟨hr, h0⟩ | ⟨b, fr, hb, hh, hfr⟩
      · refine GoodRes.val (v := .int .i64 (Nat.min m n)) (w' := w) (bigstep w (by simp [V.val, hr])) ?_
        subst h0
        have h0 : n * sz = 0 := by
          have q3' : o + n * sz ≤ 0 := q3
          omega
        have h00 : Nat.min m n * sz = 0 := by have := Nat.mul_le_mul_right sz hmn2; omega
        have hK := hv [] ⟨rfl, fun j => by rw [if_neg (by omega)]⟩
        rw [setHK_eq] at hK
        have hset : H.set k (.arr [] e') = H := by
          apply List.ext_getElem?
          intro i
          by_cases hi : k = i
          · subst hi; rw [List.getElem?_set_self (List.getElem?_eq_some_iff.1 hk').1, hk']
          · rw [List.getElem?_set_ne hi]
        rw [hset] at hK
        exact Res.here h.s (sv := .raw (.int .i64 (Nat.min m n))) rfl hK
      · have h3 := Nat.mul_le_mul_right sz hmn2
        have h4 := Nat.mul_le_mul_right sz hmn
        have hyl : (ys.take (Nat.min m n * sz)).length = Nat.min m n * sz := by simp only [List.length_take]; omega
        obtain ⟨w', c', r1, r2, r3, r4⟩ := run_storeCells (P := P) (o := o) (ys.take (Nat.min m n * sz)) 0 xs.toArray w hh (fun v hv => cellsOK_spec q2 v (List.mem_of_mem_take hv)) (by simp; omega) (by simpa using hfr)
        refine GoodRes.val (v := .int .i64 (Nat.min m n)) (w' := w') (bigstep w' (by simpa [V.val, hb] using r1)) ?_
        have hK := hv c'.toList ⟨by simpa using r3, fun j => by
          have := r4 j
          rw [hyl] at this
          simp only [Nat.add_zero] at this
          rw [show c'.toList[j]? = c'[j]? by simp, this]
          split
          · rw [List.getElem?_take_of_lt (by omega)]
          · simp⟩
        rw [setHK_eq] at hK
        exact row_set h.s hk' hb hh (fr' := fr) (hfr.imp id (by simp at r3; simp; omega)) (by simpa using r2) rfl rfl hK
    · exact hv.elim
  · rename_i c
    obtain ⟨l1, l2⟩ : (∀ w', (Builtin.lenOf (V.val ρ u)).run P w' = .ok m w') ∧ True := by
      rcases slElems_spec h.s hel with ⟨adr, cc, hv, he⟩ | ⟨s, hv, e1, e2⟩
      · rw [hv]; exact ⟨fun w' => by simp [Builtin.lenOf], trivial⟩
      · rw [hv]; subst e1; exact ⟨fun w' => by simp [Builtin.lenOf], trivial⟩
    have first : ∃ z, (Builtin.firstCells sz 0 (V.val ρ u)).run P w = .ok z w := by
      rcases slElems_spec h.s hel with ⟨adr, cc, hv, he⟩ | ⟨s, hv, e1, e2⟩
      · rw [hv]
        rcases he with ⟨rfl, rfl⟩ | ⟨b, off, rfl, hc⟩
        · exact ⟨#[], by simp [Builtin.firstCells]⟩
        · refine ⟨#[], ?_⟩
          simp [Builtin.firstCells]
          rfl
      · rw [hv]; exact ⟨_, by simp [Builtin.firstCells]; rfl⟩
    obtain ⟨z, first⟩ := first
    have hmin : Nat.min m 0 = 0 := Nat.min_zero m
    refine GoodRes.val (v := .int .i64 0) (w' := w) ?_ (Res.here h.s (sv := .raw (.int .i64 0)) rfl hv)
    simp only [V.val, Builtin.copy_, ht0, Sem.run_bind, run_und hs, Result.andThen_ok, l1, run_size hsz, Sem.run_pure, goInt]
    simp [ht0, run_und hs, l1, run_size hsz, first, goInt, hmin]
  · exact hv.elim

theorem s_mkslice (h : At P ρ H g w t a) {ty e : TypeId} {zs : List Value} {by' : Nat} {x y : Operand} {x' y' : Opd} (hu : P.underlying ty = some (.slice e)) (hzs : zeroCellsT P e = some zs) (hby : bytesT P e = some by') (hsz0 : sizeT P e = some zs.length)
    (hx : cOpd x = some x') (hy : cOpd y = some y') (hv : vcOp P (.mkslice e zs by' x' y') t H K) :
    GoodRes P ρ H g K ((do pure (Next.value (← Instr.makeSlice ty (a.eval x) (a.eval y))) : Sem Next).run P w) := by
  simp only [vcOp, evK_eq] at hv
  rw [h.eq hx, h.eq hy]
  generalize ev t x' = v at *
  generalize ev t y' = u at *
  unfold vcMkslice at hv
  split at hv
  · rename_i k n k' m
    obtain ⟨⟨q0, q1, q2, q3, q4⟩, hv⟩ := hv
    rw [newHK_eq] at hv
    cases hi : P.info? e with
    | none => simp [bytesT, hi] at hby
    | some i =>
    simp [bytesT, hi] at hby
    simp [zeroCellsT, zeroT, hi] at hzs
    obtain ⟨z, hz, hzs⟩ := hzs
    have hw1 : IntKind.i64.wrap n = n := IntWalk.i64_in n ⟨by omega, by omega⟩
    have hw2 : IntKind.i64.wrap m = m := IntWalk.i64_in m ⟨by omega, by omega⟩
    have hti : ∀ w, (typeInfo e).run P w = .ok i w := fun w => run_typeInfo hi
    have hsz : sizeT P e = some i.size := by simp [sizeT, hi]
    have hzero : (zeroValue e).run P w = .ok z w := by simp [zeroValue, typeInfo, hi, hz]
    have hbn : (by' : Int) * n ≤ by' * m := Int.mul_le_mul_of_nonneg_left q2 (by omega)
    have t1 : ¬ ((by' : Int) * m > 2 ^ 48) := by omega
    have t2 : ¬ ((by' : Int) * n > 2 ^ 48) := by omega
    have hzl : z.cells.size = zs.length := by rw [← hzs]; simp
    let xs : List Value := (List.range (m.toNat * zs.length)).map fun j => zs[j % zs.length]!
    refine GoodRes.val (v := .slice (some ⟨w.heap.size, 0, none⟩) n.toNat m.toNat) (w' := w.alloc (.cells xs.toArray e)) ?_ ?_
    · have hsz1 : i.size = zs.length := by rw [hsz] at hsz0; exact Option.some.inj hsz0
      have hcells : (if m.toNat * i.size = 0 then #[] else z.cells) = z.cells ∨ m.toNat * i.size = 0 := by
        by_cases h0 : m.toNat * i.size = 0
        · exact .inr h0
        · exact .inl (if_neg h0)
      have n0 : ¬ n < 0 := by omega
      have n1 : ¬ n > m := by omega
      have n2 : ¬ m < 0 := by omega
      simp only [V.val, Instr.makeSlice, asInt, asIntOf, run_und hu, Sem.run_bind, Result.andThen_ok, Sem.run_pure, hti, hw1, hw2]
      rw [hby]
      simp only [n0, n1, n2, t1, t2, decide_false, Bool.or_false, Bool.false_eq_true, if_false, or_self, false_or, run_askRoom, Sem.run_bind, Result.andThen_ok, Sem.run_pure, run_size hsz]
      have hrow : (Array.range (m.toNat * i.size)).map (fun x => z.cells[x % z.cells.size]!) = xs.toArray := by
        apply Array.toList_inj.1
        simp only [Array.toList_map, Array.toList_range, xs, hsz1]
        apply List.map_congr_left
        intro j hj
        rw [hzl]
        have hjlt : j % zs.length < zs.length := Nat.mod_lt _ (by rcases Nat.eq_zero_or_pos zs.length with h0 | h0 <;> first | (rw [h0] at hj; simp at hj; done) | exact h0)
        rw [getElem!_pos z.cells _ (by omega), getElem!_pos zs _ hjlt]
        simp only [← hzs, Array.getElem_toList]
      split
      · rename_i h0
        have hx0 : xs = [] := by simp only [xs]; rw [← hsz1, h0]; rfl
        rw [h0]
        have hr0 : Array.range 0 = #[] := by apply Array.eq_empty_of_size_eq_zero; simp
        rw [hr0]
        simp [newRow, hx0]
      · simp only [Sem.run_bind, hzero, Result.andThen_ok, Sem.run_pure, hrow]
        simp [newRow]
    · exact Res.alloc h.s (so := .arr xs e) (sv := .sl H.length 0 n.toNat m.toNat) ⟨rfl, rfl, rfl, rfl, Nat.le_refl _⟩ rfl (.inr ⟨w.heap.size, (0, 0), upd_same _ _ _, heap_push_new rfl, .inl rfl⟩) (by simp) (by simp) (by simp [V.val, upd_same]) (by simp [below]) hv
  · exact hv.elim

theorem s_srange (h : At P ρ H g w t a) {ty : TypeId} {x : Operand} {y : Opd} (hu : P.underlying ty = some .string) (hx : cOpd x = some y) (hv : vcOp P (.range true y) t H K) :
    GoodRes P ρ H g K ((do pure (Next.value (← Instr.range ty (a.eval x))) : Sem Next).run P w) := by
  simp only [vcOp, evK_eq] at hv
  rw [h.eq hx]
  split at hv
  · rename_i s e0
    rw [e0]
    rw [newHK_eq] at hv
    refine GoodRes.val (v := .pointer (some ⟨w.heap.size, 0, none⟩)) (w' := w.alloc (.stringIter s 0)) ?_ ?_
    · simp [V.val, Instr.range, run_und hu]
    · exact Res.alloc h.s (so := .siter s 0) (sv := .ptr H.length 0) ⟨rfl, rfl, rfl, rfl, Nat.le_refl _⟩ rfl ⟨w.heap.size, upd_same _ _ _, by rw [heap_push_new rfl]⟩ (by simp) (by simp) (by simp [V.val, upd_same]) (by simp [below]) hv
  · exact hv.elim

theorem s_snext (h : At P ρ H g w t a) {ty : TypeId} {x : Operand} {y : Opd} (hx : cOpd x = some y) (hv : vcOp P (.next true y) t H K) :
    GoodRes P ρ H g K ((do pure (Next.value (← Instr.next (a.eval x) true ty)) : Sem Next).run P w) := by
  simp only [vcOp, evK_eq] at hv
  rw [h.eq hx]
  split at hv
  · rename_i n e0
    rw [e0]
    rw [objK_eq] at hv
    split at hv
    · rename_i s pos hk
      have hk' : H[n]? = some (.siter s pos) := by rw [← hk]; exact obj_some (by simp [hk])
      obtain ⟨b, hb, hh⟩ := h.s.ent n _ hk'
      obtain ⟨h1, h2⟩ := hv
      by_cases hp : pos < s.size
      · obtain ⟨c, wd, hd⟩ : ∃ c wd, Utf8.decode s pos = (c, wd) := ⟨_, _, rfl⟩
        have hK := h1 hp c wd hd
        rw [setHK_eq] at hK
        have hlt := (Array.getElem?_eq_some_iff.1 hh).1
        refine GoodRes.val (v := .tuple #[.bool true, .int .i64 pos, .int .i32 c]) (w' := { w with heap := w.heap.setIfInBounds b (.stringIter s (pos + wd)) }) ?_ ?_
        · simp [V.val, hb, Instr.next, getObj, setObj, Sem.run, hh, hp, hd, goInt]
        · refine ⟨ρ, .tup [.kb true, .raw (.int .i64 pos), .raw (.int .i32 c)], H.set n (.siter s (pos + wd)), by simp [V.val, valL], ?_, fun _ _ => rfl, by simp, rfl, hK⟩
          refine h.s.set hk' rfl rfl hb (o := .stringIter s (pos + wd)) ⟨rfl, rfl, rfl, rfl, Nat.le_refl _⟩ ⟨b, hb, by simp [hlt]⟩ (by simp) (by simp)
      · refine GoodRes.val (w' := w) (v := .tuple #[.bool false]) ?_ ?_
        · simp [V.val, hb, Instr.next, getObj, Sem.run, hh, hp]
        · simpa [V.val, valL] using Res.here (K := K) h.s (sv := .tup [.kb false]) rfl (h2 hp)
    · exact hv.elim
  · exact hv.elim
end
end Go.V

namespace Go.V
open Go
set_option linter.unusedSectionVars false
variable [Mode]

section
variable {P : Program} {ρ : Rho} {H : List SO} {g : Fr} {w : World} {K : SV → List SO → Prop} {t : List SV} {a : Act} {o : Oper}

/-! ### Blocks under other names -/
theorem nodup_spec : ∀ {σ : List Nat}, nodup σ = true → ∀ (i j k : Nat), σ[i]? = some k → σ[j]? = some k → i = j
  | [], _ => by simp
  | x :: σ, h => by
    simp only [nodup, Bool.and_eq_true, Bool.not_eq_true', List.contains_eq_mem, decide_eq_false_iff_not] at h
    intro i j k hi hj
    cases i with
    | zero =>
      cases j with
      | zero => rfl
      | succ j => simp at hi hj; subst hi; exact absurd (List.mem_of_getElem? hj) h.1
    | succ i =>
      cases j with
      | zero => simp at hi hj; subst hj; exact absurd (List.mem_of_getElem? hi) h.1
      | succ j => simp at hi hj; rw [nodup_spec h.2 i j k hi hj]

theorem okσ_spec {n m : Nat} {σ : List Nat} (h : okσ n m σ = true) : σ.length = n ∧ (∀ (i j k : Nat), σ[i]? = some k → σ[j]? = some k → i = j) ∧ ∀ k ∈ σ, k < m := by
  simp only [okσ, Bool.and_eq_true, beq_iff_eq, List.all_eq_true, decide_eq_true_eq] at h
  exact ⟨h.1.1, nodup_spec h.1.2, h.2⟩

theorem sub_lt {σ : List Nat} {n m k : Nat} (hl : σ.length = n) (hm : ∀ k ∈ σ, k < m) (hk : k < n) : sub σ n m k < m := by
  unfold sub
  rw [List.getElem?_eq_getElem (by omega)]
  exact hm _ (List.getElem_mem _)
theorem sub_get {σ : List Nat} {n m k j : Nat} (h : σ[k]? = some j) : sub σ n m k = j := by simp [sub, h]
theorem sub_ge {σ : List Nat} {n m k : Nat} (hl : σ.length = n) (hk : n ≤ k) : sub σ n m k = m + (k - n) := by
  simp [sub, List.getElem?_eq_none (show σ.length ≤ k by omega)]

mutual
theorem below_of_ren {s : Nat → Nat} {n m : Nat} (h : ∀ k, s k < m → k < n) : ∀ (v : SV), below m (ren s v) = true → below n v = true
  | .raw _ | .kb _ => fun _ => rfl
  | .ptr k _ | .ptx k _ | .sl k _ _ _ | .mp k => fun hb => by
    simp only [ren, below, decide_eq_true_eq] at hb ⊢
    exact h _ hb
  | .agg l | .tup l => fun hb => by
    simp only [ren, below] at hb ⊢
    exact belowL_of_ren h l hb
  | .fn _ l => fun hb => by
    simp only [ren, below] at hb ⊢
    exact belowL_of_ren h l hb
  | .ifc _ v => fun hb => by
    simp only [ren, below] at hb ⊢
    exact below_of_ren h v hb
theorem belowL_of_ren {s : Nat → Nat} {n m : Nat} (h : ∀ k, s k < m → k < n) : ∀ (l : List SV), belowL m (renL s l) = true → belowL n l = true
  | [] => fun _ => rfl
  | v :: l => fun hb => by
    simp only [renL, belowL, Bool.and_eq_true] at hb ⊢
    exact ⟨below_of_ren h v hb.1, belowL_of_ren h l hb.2⟩
end

theorem renH_get (s : Nat → Nat) : ∀ (r : List SO) (i : Nat), (renH s r)[i]? = (r[i]?).map (·.ren s)
  | [], i => by simp [renH]
  | o :: r, 0 => by simp [renH]
  | o :: r, i + 1 => by simp [renH, renH_get s r i]
theorem renS_get (s : Nat → Nat) : ∀ (r : List SO) (i : Nat), (renS s r)[i]? = (r[i]?).map fun o => strip (o.ren s)
  | [], i => by simp [renS]
  | o :: r, 0 => by simp [renS]
  | o :: r, i + 1 => by simp [renS, renS_get s r i]
theorem renS_len (s : Nat → Nat) : ∀ (r : List SO), (renS s r).length = r.length
  | [] => rfl
  | o :: r => by simp [renS, renS_len s r]
theorem pickH_get (H : List SO) : ∀ (r : List SO) (σ : List Nat) (i : Nat) (o : SO) (k : Nat), r[i]? = some o → σ[i]? = some k → (pickH H r σ)[i]? = some (asked o (obj H k))
  | [], _, _, _, _, h, _ => by simp at h
  | _ :: _, [], _, _, _, _, h => by simp at h
  | x :: r, y :: σ, 0, o, k, h, h' => by simp at h h'; subst h h'; simp [pickH]
  | x :: r, y :: σ, i + 1, o, k, h, h' => by simp at h h'; simpa [pickH] using pickH_get H r σ i o k h h'

/-- The entry in the caller's list that stands behind one of the callee's. -/
theorem behind {σ : List Nat} {H0 : List SO} {s : Nat → Nat} (hp : pickH H H0 σ = renH s H0) (hl : σ.length = H0.length) {i : Nat} {so : SO} (hi : H0[i]? = some so) :
    ∃ k, σ[i]? = some k ∧ asked so (obj H k) = so.ren s := by
  have hi' := (List.getElem?_eq_some_iff.1 hi).1
  have h1 : σ[i]? = some σ[i] := List.getElem?_eq_getElem (by omega)
  have h2 := pickH_get H H0 σ i so _ hi h1
  rw [hp, renH_get, hi] at h2
  simp at h2
  exact ⟨_, h1, h2.symm⟩

theorem asked_eq (a b : SO) : asked a b = b ∨ ∃ xs e, a.isRo = true ∧ b = .arr xs e ∧ asked a b = .ro xs e := by
  cases a <;> cases b <;> simp [asked, SO.isRo]
theorem ren_owned (s : Nat → Nat) (o : SO) : (o.ren s).owned = o.owned := by
  cases o <;> try rfl
  rename_i m _ _ _; cases m <;> rfl
theorem ren_isRo (s : Nat → Nat) (o : SO) : (o.ren s).isRo = o.isRo := by
  cases o <;> try rfl
  rename_i m _ _ _; cases m <;> rfl

theorem entryOK_ren (s : Nat → Nat) (k : Nat) (o : SO) : entryOK ρ w (s k) (o.ren s) ↔ entryOK (fun i => ρ (s i)) w k o := by
  cases o <;> simp only [SO.ren, entryOK, valL_ren]
  rename_i m _ _ _
  cases m <;> simp

/-- A part of the blocks, under names of its own. -/
theorem St.pick (h : St ρ H g w) {σ : List Nat} {H0 : List SO} (hp : pickH H H0 σ = renH (sub σ H0.length H.length) H0) (hσ : okσ H0.length H.length σ = true) :
    St (fun i => ρ (sub σ H0.length H.length i)) H0 g w := by
  obtain ⟨hl, hnd, hlt⟩ := okσ_spec hσ
  generalize hs : sub σ H0.length H.length = s at *
  have hsg : ∀ {i k : Nat}, σ[i]? = some k → s i = k := fun h => hs ▸ sub_get h
  have hinv : ∀ k, s k < H.length → k < H0.length := by
    intro k hk
    by_cases hk' : k < H0.length
    · exact hk'
    · rw [← hs, sub_ge hl (by omega)] at hk; omega
  -- an owned entry is owned by the caller; one that is read stands there as read or owned
  have own : ∀ {i : Nat} {so : SO}, H0[i]? = some so → (so.owned = true ∨ so.isRo = true) → ∃ so', H[s i]? = some so' ∧ (so.owned = true → so'.owned = true) ∧ (so'.owned = true ∨ so'.isRo = true) := by
    intro i so hi ho
    obtain ⟨k, hk, hk2⟩ := behind hp hl hi
    rw [hsg hk]
    have hng : obj H k ≠ .gone := by
      intro hg
      rcases asked_eq so (obj H k) with e | ⟨xs, e, e1, e2, _⟩
      · rw [e, hg] at hk2
        have h1 := ren_owned s so; have h2 := ren_isRo s so
        rw [← hk2] at h1 h2
        rcases ho with ho | ho
        · rw [ho] at h1; cases h1
        · rw [ho] at h2; cases h2
      · rw [hg] at e2; cases e2
    refine ⟨obj H k, obj_some hng, ?_, ?_⟩
    · intro ho'
      rcases asked_eq so (obj H k) with e | ⟨xs, e, e1, e2, _⟩
      · rw [← e, hk2, ren_owned, ho']
      · rw [e2]; rfl
    · rcases asked_eq so (obj H k) with e | ⟨xs, e, e1, e2, _⟩
      · rw [← e, hk2, ren_owned, ren_isRo]; exact ho
      · rw [e2]; exact .inl rfl
  have byNum : ∀ {i : Nat} {so : SO}, H0[i]? = some so → ((∃ gh, so = .ghost gh) ∨ ∃ gh, so = .heap gh) → ∃ k, σ[i]? = some k ∧ H[k]? = some so := by
    intro i so hi ho
    obtain ⟨k, hk, hk2⟩ := behind hp hl hi
    have hg : obj H k = so := by
      rcases asked_eq so (obj H k) with e | ⟨xs, e, e1, e2, _⟩
      · rw [← e, hk2]; rcases ho with ⟨gh, rfl⟩ | ⟨gh, rfl⟩ <;> rfl
      · rcases ho with ⟨gh, rfl⟩ | ⟨gh, rfl⟩ <;> simp [SO.isRo] at e1
    refine ⟨k, hk, ?_⟩
    rw [← hg]
    refine obj_some ?_
    rw [hg]; rcases ho with ⟨gh, rfl⟩ | ⟨gh, rfl⟩ <;> simp
  constructor
  · intro i so hi
    obtain ⟨k, hk, hk2⟩ := behind hp hl hi
    rw [← entryOK_ren, hsg hk, ← hk2]
    by_cases hng : obj H k = .gone
    · rcases asked_eq so (obj H k) with e | ⟨xs, e, e1, e2, _⟩
      · rw [e, hng]; trivial
      · rw [hng] at e2; cases e2
    · have := h.ent k _ (obj_some hng)
      rcases asked_eq so (obj H k) with e | ⟨xs, e, e1, e2, e3⟩
      · rw [e]; exact this
      · rw [e3]; rw [e2] at this
        rcases this with ⟨a, b⟩ | ⟨b, fr, a, c, _⟩
        · exact .inl ⟨a, b⟩
        · exact .inr ⟨b, fr, a, c⟩
  · intro i j si sj b hij hi hj ho hoj hb
    obtain ⟨si', a1, a2, _⟩ := own hi (.inl ho)
    obtain ⟨sj', b1, _, b3⟩ := own hj hoj
    refine h.dis (s i) (s j) si' sj' b ?_ a1 b1 (a2 ho) b3 hb
    intro e
    obtain ⟨k, hk, _⟩ := behind hp hl hi
    obtain ⟨k', hk', _⟩ := behind hp hl hj
    rw [hsg hk, hsg hk'] at e
    subst e
    exact hij (hnd i j k hk hk')
  · intro i j si gh b hi ho hj hb
    obtain ⟨si', a1, a2, _⟩ := own hi (.inl ho)
    obtain ⟨k, hk, hk2⟩ := behind hp hl hj
    have hg : obj H k = .ghost gh := by
      rcases asked_eq (.ghost gh) (obj H k) with e | ⟨xs, e, e1, e2, _⟩
      · rw [← e, hk2]; rfl
      · simp [SO.isRo] at e1
    have := obj_some (H := H) (k := k) (by rw [hg]; simp)
    rw [hg] at this
    exact h.gho (s i) k si' gh b a1 (a2 ho) this hb
  · exact h.env
  · exact h.frm
  · intro i si b hi ho hb
    obtain ⟨si', a1, a2, _⟩ := own hi (.inl ho)
    exact h.frd (s i) si' b a1 (a2 ho) hb
  · intro i l e hi
    obtain ⟨k, hk, hk2⟩ := behind hp hl hi
    have hg : obj H k = .cells (renL s l) e := by
      rcases asked_eq (.cells l e) (obj H k) with e' | ⟨xs, e', e1, e2, _⟩
      · rw [← e', hk2]; rfl
      · simp [SO.isRo] at e1
    have := obj_some (H := H) (k := k) (by rw [hg]; simp)
    rw [hg] at this
    exact belowL_of_ren hinv l (h.scp k _ _ this)
  · intro i m s' seen st hi
    obtain ⟨k, hk, hk2⟩ := behind hp hl hi
    have hg : obj H k = .iter (some (s m)) s' seen st := by
      rcases asked_eq (.iter (some m) s' seen st) (obj H k) with e' | ⟨xs, e', e1, e2, _⟩
      · rw [← e', hk2]; rfl
      · simp [SO.isRo] at e1
    have := obj_some (H := H) (k := k) (by rw [hg]; simp)
    rw [hg] at this
    exact hinv _ (h.sci k _ _ _ _ this)
  · intro j gh b hj hb
    obtain ⟨k, hk, hk2⟩ := byNum hj (.inr ⟨gh, rfl⟩)
    exact h.hpf k gh b hk2 hb
  · intro j i gh b si hj hb hi ho
    obtain ⟨k, hk, hk2⟩ := byNum hj (.inr ⟨gh, rfl⟩)
    obtain ⟨si', a1, _, a3⟩ := own hi ho
    exact h.hpo k (s i) gh b si' hk2 hb a1 a3
  · intro j i gh b si hj hb hij hi hc
    obtain ⟨k, hk, hk2⟩ := byNum hj (.inr ⟨gh, rfl⟩)
    obtain ⟨k', hk', hk2'⟩ := byNum hi (by cases si <;> simp [SO.claims] at hc <;> simp)
    refine h.hpc k k' gh b si hk2 hb ?_ hk2' hc
    intro e; subst e
    exact hij (hnd i j k' hk' hk)

theorem St.other (h : St ρ H g w) {g' : Fr} (h0 : w.os = g'.os ∧ w.tape = g'.tape ∧ w.output = g'.out ∧ DrOK g' w.drawn) (h1 : ∀ b o, g'.f b = some o → w.heap[b]? = some o) (h2 : ∀ (i : Nat) si b, H[i]? = some si → si.owned = true → ρ i = some b → g'.f b = none)
    (h3 : ∀ (j : Nat) gh b, H[j]? = some (.heap gh) → gh b ≠ none → g'.f b = none) : St ρ H g' w :=
  ⟨h.ent, h.dis, h.gho, h0, h1, h2, h.scp, h.sci, h3, h.hpo, h.hpc⟩

theorem putH_spec (s : Nat → Nat) : ∀ (σ : List Nat) (H fs r : List SO), σ.length = fs.length → σ.length ≤ r.length → (∀ k ∈ σ, k < H.length) → nodup σ = true →
    (putH s H fs r σ).length = H.length + (r.length - σ.length) ∧
    ∀ (j : Nat) s', (putH s H fs r σ)[j]? = some s' →
      (∃ (i : Nat) (f o : SO), σ[i]? = some j ∧ fs[i]? = some f ∧ f.keeps = false ∧ r[i]? = some o ∧ s' = strip (o.ren s)) ∨
      (H[j]? = some s' ∧ ∀ (i : Nat) f, σ[i]? = some j → fs[i]? = some f → f.keeps = true) ∨
      (∃ (i : Nat) (o : SO), j = H.length + i ∧ r[σ.length + i]? = some o ∧ s' = strip (o.ren s))
  | [], H, fs, r, h1, h2, h3, h4 => by
    have hf : fs = [] := List.eq_nil_of_length_eq_zero h1.symm
    subst hf
    have e : putH s H [] r [] = H ++ renS s r := by simp [putH]
    rw [e]
    refine ⟨by simp [renS_len], fun j s' hj => ?_⟩
    by_cases hlt : j < H.length
    · rw [List.getElem?_append_left hlt] at hj
      exact .inr (.inl ⟨hj, by simp⟩)
    · rw [List.getElem?_append_right (by omega), renS_get] at hj
      cases hr : r[j - H.length]? with
      | none => rw [hr] at hj; cases hj
      | some o => rw [hr] at hj; cases hj; exact .inr (.inr ⟨j - H.length, o, by omega, by simpa using hr, rfl⟩)
  | k :: σ, H, [], r, h1, _, _, _ => by simp at h1
  | k :: σ, H, f :: fs, [], _, h2, _, _ => by simp at h2
  | k :: σ, H, f :: fs, o :: r, h1, h2, h3, h4 => by
    simp only [List.length_cons] at h1 h2
    have h4' : nodup σ = true ∧ k ∉ σ := by simp [nodup] at h4; exact ⟨h4.2, h4.1⟩
    have hk : k < H.length := h3 k (by simp)
    cases hf : f.keeps with
    | true =>
      have e : putH s H (f :: fs) (o :: r) (k :: σ) = putH s H fs r σ := by
        cases f <;> simp [SO.keeps] at hf <;> simp [putH]
      rw [e]
      obtain ⟨a, b⟩ := putH_spec s σ H fs r (by omega) (by omega) (fun k hk => h3 k (by simp [hk])) h4'.1
      refine ⟨by rw [a]; simp, fun j s' hj => ?_⟩
      rcases b j s' hj with ⟨i, f', o', c1, c2, c3, c4, c5⟩ | ⟨c1, c2⟩ | ⟨i, o', c1, c2, c3⟩
      · exact .inl ⟨i + 1, f', o', by simpa using c1, by simpa using c2, c3, by simpa using c4, c5⟩
      · refine .inr (.inl ⟨c1, fun i f' d1 d2 => ?_⟩)
        cases i with
        | zero => simp at d2; subst d2; exact hf
        | succ i => simp at d1 d2; exact c2 i f' d1 d2
      · exact .inr (.inr ⟨i, o', c1, by rw [List.length_cons, show σ.length + 1 + i = (σ.length + i) + 1 by omega]; simpa using c2, c3⟩)
    | false =>
      have e : putH s H (f :: fs) (o :: r) (k :: σ) = putH s (H.set k (strip (o.ren s))) fs r σ := by
        cases f <;> simp [SO.keeps] at hf <;> simp [putH]
      rw [e]
      obtain ⟨a, b⟩ := putH_spec s σ (H.set k (strip (o.ren s))) fs r (by omega) (by omega) (fun k hk => by simpa using h3 k (by simp [hk])) h4'.1
      refine ⟨by rw [a]; simp, fun j s' hj => ?_⟩
      rcases b j s' hj with ⟨i, f', o', c1, c2, c3, c4, c5⟩ | ⟨c1, c2⟩ | ⟨i, o', c1, c2, c3⟩
      · exact .inl ⟨i + 1, f', o', by simpa using c1, by simpa using c2, c3, by simpa using c4, c5⟩
      · by_cases hjk : j = k
        · subst hjk
          simp [hk] at c1
          exact .inl ⟨0, f, o, by simp, by simp, hf, by simp, c1.symm⟩
        · rw [List.getElem?_set_ne (Ne.symm hjk)] at c1
          refine .inr (.inl ⟨c1, fun i f' d1 d2 => ?_⟩)
          cases i with
          | zero => simp at d1; exact absurd d1.symm hjk
          | succ i => simp at d1 d2; exact c2 i f' d1 d2
      · exact .inr (.inr ⟨i, o', by simpa using c1, by rw [List.length_cons, show σ.length + 1 + i = (σ.length + i) + 1 by omega]; simpa using c2, c3⟩)

theorem strip_own {o : SO} (h : (strip o).owned = true) : strip o = o ∧ o.owned = true := by
  cases o <;> simp [strip, SO.owned] at h ⊢
theorem strip_isRo (o : SO) : (strip o).isRo = false := by cases o <;> rfl
theorem strip_cells {o : SO} {l : List SV} {e : TypeId} (h : strip o = .cells l e) : o = .cells l e := by
  cases o <;> simp [strip] at h ⊢; exact h
theorem strip_iter {o : SO} {m : Option Nat} {s : Nat} {se : List Nat} {st : Nat} (h : strip o = .iter m s se st) : o = .iter m s se st := by
  cases o <;> simp [strip] at h ⊢; exact h
theorem strip_ghost {o : SO} {gh : Nat → Option Obj} : strip o ≠ .ghost gh := by cases o <;> simp [strip]
theorem strip_heap {o : SO} {s : Nat → Nat} {gh : Nat → Option Obj} (h : strip (o.ren s) = .heap gh) : o = .heap gh := by
  cases o <;> simp [strip, SO.ren] at h ⊢
  · rename_i m _ _ _; cases m <;> simp [strip, SO.ren] at h
  · exact h
theorem keeps_iff (o : SO) (h : o.owned = true) : o.keeps = false := by cases o <;> simp [SO.owned, SO.keeps] at h ⊢

/-! ### A nil slice as a slice of a block of its own -/
theorem St.nil (h : St ρ H g w) (e : TypeId) : St (upd ρ H.length none) (H ++ [.arr [] e]) g w := by
  have hget : ∀ (k : Nat) s, (H ++ [SO.arr [] e])[k]? = some s → (k < H.length ∧ H[k]? = some s) ∨ (k = H.length ∧ s = .arr [] e) := by
    intro k s hk
    rcases Nat.lt_trichotomy k H.length with h1 | h1 | h1
    · exact .inl ⟨h1, by rwa [List.getElem?_append_left h1] at hk⟩
    · subst h1; simp at hk; exact .inr ⟨rfl, hk.symm⟩
    · rw [List.getElem?_eq_none (by simp; omega)] at hk; cases hk
  constructor
  · intro k s hk
    rcases hget k s hk with ⟨h1, h2⟩ | ⟨h1, h2⟩
    · refine entryOK_congr h1 (h.ent k s h2) (fun j hj => upd_lt ρ _ hj) ?_ ?_ (fun b o' _ hb _ _ => hb)
      · rintro l e' rfl; exact h.scp k l e' h2
      · rintro m s' seen st rfl; exact h.sci k m s' seen st h2
    · subst h1 h2; exact .inl ⟨upd_same _ _ _, rfl⟩
  · intro i j si sj b hij hi hj ho hoj hb
    rcases hget i si hi with ⟨h1, h2⟩ | ⟨h1, h2⟩
    · rw [upd_lt ρ _ h1] at hb
      rcases hget j sj hj with ⟨h3, h4⟩ | ⟨h3, h4⟩
      · rw [upd_lt ρ _ h3]; exact h.dis i j si sj b hij h2 h4 ho hoj hb
      · subst h3; rw [upd_same]; simp
    · subst h1; rw [upd_same] at hb; cases hb
  · intro i j si gh b hi ho hj hb
    rcases hget i si hi with ⟨h1, h2⟩ | ⟨h1, h2⟩
    · rw [upd_lt ρ _ h1] at hb
      rcases hget j _ hj with ⟨h3, h4⟩ | ⟨h3, h4⟩
      · exact h.gho i j si gh b h2 ho h4 hb
      · cases h4
    · subst h1; rw [upd_same] at hb; cases hb
  · exact h.env
  · exact h.frm
  · intro i si b hi ho hb
    rcases hget i si hi with ⟨h1, h2⟩ | ⟨h1, h2⟩
    · rw [upd_lt ρ _ h1] at hb; exact h.frd i si b h2 ho hb
    · subst h1; rw [upd_same] at hb; cases hb
  · intro k l e' hk
    rcases hget k _ hk with ⟨h1, h2⟩ | ⟨h1, h2⟩
    · exact belowL_mono (by simp) l (h.scp k l e' h2)
    · cases h2
  · intro k m s seen st hk
    rcases hget k _ hk with ⟨h1, h2⟩ | ⟨h1, h2⟩
    · have := h.sci k m s seen st h2; simp; omega
    · cases h2
  · intro j gh b hj hb
    rcases hget j _ hj with ⟨h1, h2⟩ | ⟨_, h2⟩
    · exact h.hpf j gh b h2 hb
    · cases h2
  · intro j i gh b si hj hb hi ho
    rcases hget j _ hj with ⟨h1, h2⟩ | ⟨_, h2⟩
    · rcases hget i _ hi with ⟨h3, h4⟩ | ⟨h3, h4⟩
      · rw [upd_lt ρ _ h3]; exact h.hpo j i gh b si h2 hb h4 ho
      · subst h3; rw [upd_same]; simp
    · cases h2
  · intro j i gh b si hj hb hij hi
    rcases hget j _ hj with ⟨h1, h2⟩ | ⟨_, h2⟩
    · rcases hget i _ hi with ⟨h3, h4⟩ | ⟨h3, h4⟩
      · exact h.hpc j i gh b si h2 hb hij h4
      · subst h4; simp [SO.claims]
    · cases h2
theorem St.cellsTo (h : St ρ H g w) {b : Nat} {l l' : List SV} {e : TypeId} (hb : H[b]? = some (.cells l e)) (hv : valL ρ l' = valL ρ l) (hbl : belowL H.length l' = true) : St ρ (H.set b (.cells l' e)) g w := by
  have hlt := (List.getElem?_eq_some_iff.1 hb).1
  have hget : ∀ (i : Nat) s, (H.set b (.cells l' e))[i]? = some s → (i ≠ b ∧ H[i]? = some s) ∨ (i = b ∧ s = .cells l' e) := by
    intro i s hi
    by_cases hib : i = b
    · subst hib; rw [List.getElem?_set_self hlt] at hi; cases hi; exact .inr ⟨rfl, rfl⟩
    · rw [List.getElem?_set_ne (Ne.symm hib)] at hi; exact .inl ⟨hib, hi⟩
  have old : ∀ (i : Nat) s, (H.set b (.cells l' e))[i]? = some s → ∃ s0, H[i]? = some s0 ∧ s0.owned = s.owned ∧ s0.isRo = s.isRo := by
    intro i s hi
    rcases hget i s hi with ⟨_, h2⟩ | ⟨rfl, rfl⟩
    · exact ⟨s, h2, rfl, rfl⟩
    · exact ⟨_, hb, rfl, rfl⟩
  constructor
  · intro k s hk
    rcases hget k s hk with ⟨_, h2⟩ | ⟨rfl, rfl⟩
    · exact h.ent k s h2
    · obtain ⟨b', h3, h4⟩ := h.ent k _ hb
      exact ⟨b', h3, by rw [hv]; exact h4⟩
  · intro i j si sj b' hij hi hj ho hoj hb'
    obtain ⟨s0, h1, h2, _⟩ := old i si hi
    obtain ⟨s1, h3, h4, h5⟩ := old j sj hj
    exact h.dis i j s0 s1 b' hij h1 h3 (h2 ▸ ho) (by rw [h4, h5]; exact hoj) hb'
  · intro i j si gh b' hi ho hj hb'
    obtain ⟨s0, h1, h2, _⟩ := old i si hi
    rcases hget j _ hj with ⟨_, h4⟩ | ⟨_, h4⟩
    · exact h.gho i j s0 gh b' h1 (h2 ▸ ho) h4 hb'
    · cases h4
  · exact h.env
  · exact h.frm
  · intro i si b' hi ho hb'
    obtain ⟨s0, h1, h2, _⟩ := old i si hi
    exact h.frd i s0 b' h1 (h2 ▸ ho) hb'
  · intro k l2 e2 hk
    rw [List.length_set]
    rcases hget k _ hk with ⟨_, h2⟩ | ⟨_, h2⟩
    · exact h.scp k l2 e2 h2
    · cases h2; exact hbl
  · intro k m s seen st hk
    rw [List.length_set]
    rcases hget k _ hk with ⟨_, h2⟩ | ⟨_, h2⟩
    · exact h.sci k m s seen st h2
    · cases h2
  · intro j gh b' hj hb'
    rcases hget j _ hj with ⟨_, h2⟩ | ⟨_, h2⟩
    · exact h.hpf j gh b' h2 hb'
    · cases h2
  · intro j i gh b' si hj hb' hi ho
    rcases hget j _ hj with ⟨_, h2⟩ | ⟨_, h2⟩
    · obtain ⟨s1, h3, h4, h5⟩ := old i si hi
      exact h.hpo j i gh b' s1 h2 hb' h3 (by rw [h4, h5]; exact ho)
    · cases h2
  · intro j i gh b' si hj hb' hij hi
    rcases hget j _ hj with ⟨_, h2⟩ | ⟨_, h2⟩
    · rcases hget i _ hi with ⟨_, h4⟩ | ⟨_, h4⟩
      · exact h.hpc j i gh b' si h2 hb' hij h4
      · subst h4; simp [SO.claims]
    · cases h2
theorem setNil_spec {k : Nat} : ∀ {pos : List Nat} {l l' : List SV}, setNil k l pos = some l' → l'.length = l.length ∧ (∀ ρ : Rho, ρ k = none → valL ρ l' = valL ρ l) ∧ (∀ n, k < n → belowL n l = true → belowL n l' = true)
  | [], l, l', h => by simp only [setNil, Option.some.injEq] at h; subst h; exact ⟨rfl, fun _ _ => rfl, fun _ _ h => h⟩
  | p :: ps, l, l', h => by
    simp only [setNil] at h
    split at h
    · rename_i hp
      obtain ⟨h1, h2, h3⟩ := setNil_spec h
      refine ⟨by rw [h1]; simp, fun ρ hk => ?_, fun n hn hb => h3 n hn (belowL_set hb p (by simp [below, hn]))⟩
      rw [h2 ρ hk, valL_eq, valL_eq]
      apply List.ext_getElem?
      intro i
      by_cases hi : p = i
      · subst hi
        have hlt := (List.getElem?_eq_some_iff.1 hp).1
        simp only [List.getElem?_map, List.getElem?_set_self hlt, hp, Option.map_some, V.val, hk]; rfl
      · simp only [List.getElem?_map, List.getElem?_set_ne hi]
    · cases h
theorem setNilH_St {k : Nat} {x : SO} (hk : ρ k = none) : ∀ {posH : List (Nat × Nat)} {H H' : List SO}, setNilH k H posH = some H' → H.length = k → St ρ (H ++ [x]) g w → St ρ (H' ++ [x]) g w ∧ H'.length = k
  | [], H, H', h, hl, hS => by simp only [setNilH, Option.some.injEq] at h; subst h; exact ⟨hS, hl⟩
  | (b, p) :: ps, H, H', h, hl, hS => by
    simp only [setNilH] at h
    split at h
    · rename_i l e ho
      split at h
      · rename_i hp
        have hb : H[b]? = some (.cells l e) := by have := obj_some (H := H) (k := b) (by rw [ho]; simp); rw [ho] at this; exact this
        have hblt := (List.getElem?_eq_some_iff.1 hb).1
        have hb2 : (H ++ [x])[b]? = some (.cells l e) := by rw [List.getElem?_append_left hblt]; exact hb
        have hs : setNil k l [p] = some (l.set p (.sl k 0 0 0)) := by simp [setNil, hp]
        obtain ⟨_, h2, h3⟩ := setNil_spec hs
        have := hS.cellsTo hb2 (h2 ρ hk) (h3 _ (by simp; omega) (hS.scp b l e hb2))
        rw [List.set_append_left _ _ hblt] at this
        exact setNilH_St hk h (by simpa using hl) this
      · cases h
    · cases h

/-! ### Blocks by name or by number -/
mutual
theorem val_rawV {k : Nat} {a : Option Nat} (h : ρ k = a) : ∀ v : SV, val ρ (rawV k a v) = val ρ v
  | .raw _ => rfl
  | .kb _ => rfl
  | .ptr k' o => by
    simp only [rawV]
    split
    · rename_i e; rw [Nat.beq_eq] at e; subst e; simp [val, h]
    · rfl
  | .ptx k' o => by
    simp only [rawV]
    split
    · rename_i e; rw [Nat.beq_eq] at e; subst e; simp [val, h]
    · rfl
  | .sl k' o n c => by
    simp only [rawV]
    split
    · rename_i e; rw [Nat.beq_eq] at e; subst e; cases a <;> simp [val, h]
    · rfl
  | .mp k' => by
    simp only [rawV]
    split
    · rename_i e; rw [Nat.beq_eq] at e; subst e; simp [val, h]
    · rfl
  | .agg l => by simp [rawV, val, valL_rawL h l]
  | .tup l => by simp [rawV, val, valL_rawL h l]
  | .fn f l => by simp [rawV, val, valL_rawL h l]
  | .ifc t v => by simp [rawV, val, val_rawV h v]
theorem valL_rawL {k : Nat} {a : Option Nat} (h : ρ k = a) : ∀ l : List SV, valL ρ (rawL k a l) = valL ρ l
  | [] => rfl
  | v :: l => by simp [rawL, valL, val_rawV h v, valL_rawL h l]
end
mutual
theorem below_rawV {n k : Nat} {a : Option Nat} : ∀ v : SV, below n v = true → below n (rawV k a v) = true
  | .raw _ => fun h => h
  | .kb _ => fun h => h
  | .ptr k' o => fun h => by simp only [rawV]; split <;> first | rfl | exact h
  | .ptx k' o => fun h => by simp only [rawV]; split <;> first | rfl | exact h
  | .sl k' o m c => fun h => by simp only [rawV]; split <;> first | exact h | (cases a <;> rfl)
  | .mp k' => fun h => by simp only [rawV]; split <;> first | rfl | exact h
  | .agg l => fun h => by simp only [rawV, below] at *; exact belowL_rawL l h
  | .tup l => fun h => by simp only [rawV, below] at *; exact belowL_rawL l h
  | .fn f l => fun h => by simp only [rawV, below] at *; exact belowL_rawL l h
  | .ifc t v => fun h => by simp only [rawV, below] at *; exact below_rawV v h
theorem belowL_rawL {n k : Nat} {a : Option Nat} : ∀ l : List SV, belowL n l = true → belowL n (rawL k a l) = true
  | [] => fun h => h
  | v :: l => fun h => by simp only [rawL, belowL, Bool.and_eq_true] at *; exact ⟨below_rawV v h.1, belowL_rawL l h.2⟩
end
mutual
theorem below_of_rawV {n : Nat} {a : Option Nat} : ∀ v : SV, below n (rawV n a v) = true → below (n + 1) v = true
  | .raw _ => fun _ => rfl
  | .kb _ => fun _ => rfl
  | .ptr k' o => fun h => by
    simp only [rawV] at h
    split at h
    · rename_i e; rw [Nat.beq_eq] at e; simp [below, e]
    · simp only [below, decide_eq_true_eq] at h ⊢; omega
  | .ptx k' o => fun h => by
    simp only [rawV] at h
    split at h
    · rename_i e; rw [Nat.beq_eq] at e; simp [below, e]
    · simp only [below, decide_eq_true_eq] at h ⊢; omega
  | .sl k' o m c => fun h => by
    simp only [rawV] at h
    split at h
    · rename_i e; rw [Nat.beq_eq] at e; simp [below, e]
    · simp only [below, decide_eq_true_eq] at h ⊢; omega
  | .mp k' => fun h => by
    simp only [rawV] at h
    split at h
    · rename_i e; rw [Nat.beq_eq] at e; simp [below, e]
    · simp only [below, decide_eq_true_eq] at h ⊢; omega
  | .agg l => fun h => by simp only [rawV, below] at *; exact belowL_of_rawL l h
  | .tup l => fun h => by simp only [rawV, below] at *; exact belowL_of_rawL l h
  | .fn f l => fun h => by simp only [rawV, below] at *; exact belowL_of_rawL l h
  | .ifc t v => fun h => by simp only [rawV, below] at *; exact below_of_rawV v h
theorem belowL_of_rawL {n : Nat} {a : Option Nat} : ∀ l : List SV, belowL n (rawL n a l) = true → belowL (n + 1) l = true
  | [] => fun _ => rfl
  | v :: l => fun h => by simp only [rawL, belowL, Bool.and_eq_true] at *; exact ⟨below_of_rawV v h.1, belowL_of_rawL l h.2⟩
end
theorem rawH_get (k : Nat) (a : Option Nat) : ∀ (H : List SO) (i : Nat), (rawH k a H)[i]? = (H[i]?).map (rawO k a)
  | [], i => by simp [rawH]
  | o :: H, 0 => by simp [rawH]
  | o :: H, i + 1 => by simp [rawH, rawH_get k a H i]
theorem rawH_len (k : Nat) (a : Option Nat) : ∀ (H : List SO), (rawH k a H).length = H.length
  | [] => rfl
  | o :: H => by simp [rawH, rawH_len k a H]
theorem rawO_or (k : Nat) (a : Option Nat) (o : SO) : rawO k a o = o ∨ ∃ l e, o = .cells l e ∧ rawO k a o = .cells (rawL k a l) e := by
  cases o <;> first | exact .inl rfl | exact .inr ⟨_, _, rfl, rfl⟩

/-- Cells told otherwise. -/
theorem St.like (h : St ρ H g w) {H' : List SO} (hl : H'.length = H.length)
    (hr : ∀ (i : Nat) s, H'[i]? = some s → H[i]? = some s ∨ ∃ l l' e, s = .cells l' e ∧ H[i]? = some (.cells l e) ∧ valL ρ l' = valL ρ l ∧ belowL H.length l' = true) : St ρ H' g w := by
  have old : ∀ (i : Nat) s, H'[i]? = some s → ∃ s0, H[i]? = some s0 ∧ s0.owned = s.owned ∧ s0.isRo = s.isRo ∧ ((∀ l e, s ≠ .cells l e) → s0 = s) := by
    intro i s hi
    rcases hr i s hi with h1 | ⟨l, l', e, rfl, h1, _⟩
    · exact ⟨s, h1, rfl, rfl, fun _ => rfl⟩
    · exact ⟨_, h1, rfl, rfl, fun hh => absurd rfl (hh _ _)⟩
  have heap : ∀ (i : Nat) gh, H'[i]? = some (.heap gh) → H[i]? = some (.heap gh) := by
    intro i gh hi
    obtain ⟨s0, h1, _, _, h2⟩ := old i _ hi
    rw [h1, h2 (by simp)]
  constructor
  · intro i s hi
    rcases hr i s hi with h1 | ⟨l, l', e, rfl, h1, h2, _⟩
    · exact h.ent i s h1
    · obtain ⟨b, h3, h4⟩ := h.ent i _ h1
      exact ⟨b, h3, by rw [h2]; exact h4⟩
  · intro i j si sj b hij hi hj ho hoj hb
    obtain ⟨s0, h1, h2, _, _⟩ := old i si hi
    obtain ⟨s1, h3, h4, h5, _⟩ := old j sj hj
    exact h.dis i j s0 s1 b hij h1 h3 (h2 ▸ ho) (by rw [h4, h5]; exact hoj) hb
  · intro i j si gh b hi ho hj hb
    obtain ⟨s0, h1, h2, _, _⟩ := old i si hi
    obtain ⟨s1, h3, _, _, h6⟩ := old j _ hj
    have h6 := h6 (by simp); subst h6
    exact h.gho i j s0 gh b h1 (h2 ▸ ho) h3 hb
  · exact h.env
  · exact h.frm
  · intro i si b hi ho hb
    obtain ⟨s0, h1, h2, _⟩ := old i si hi
    exact h.frd i s0 b h1 (h2 ▸ ho) hb
  · intro i l e hi
    rw [hl]
    rcases hr i _ hi with h1 | ⟨l0, l', e', h0, h1, _, h3⟩
    · exact h.scp i l e h1
    · cases h0; exact h3
  · intro i m s seen st hi
    rw [hl]
    obtain ⟨s0, h1, _, _, h2⟩ := old i _ hi
    have h2 := h2 (by simp); subst h2
    exact h.sci i m s seen st h1
  · intro j gh b hj hb
    exact h.hpf j gh b (heap j gh hj) hb
  · intro j i gh b si hj hb hi ho
    obtain ⟨s0, h1, h2, h3, _⟩ := old i si hi
    exact h.hpo j i gh b s0 (heap j gh hj) hb h1 (by rw [h2, h3]; exact ho)
  · intro j i gh b si hj hb hij hi hc
    obtain ⟨s0, h1, _, _, h2⟩ := old i si hi
    have h2 := h2 (by rintro l e rfl; simp [SO.claims] at hc)
    subst h2
    exact h.hpc j i gh b s0 (heap j gh hj) hb hij h1 hc
theorem St.rawH (h : St ρ H g w) {k : Nat} {a : Option Nat} (hk : ρ k = a) : St ρ (rawH k a H) g w := by
  refine h.like (rawH_len k a H) fun i s hi => ?_
  rw [rawH_get] at hi
  cases hH : H[i]? with
  | none => rw [hH] at hi; cases hi
  | some o =>
    rw [hH] at hi
    simp only [Option.map_some, Option.some.injEq] at hi
    subst hi
    rcases rawO_or k a o with e | ⟨l, e, rfl, e2⟩
    · exact .inl (by rw [e])
    · exact .inr ⟨l, _, e, e2, rfl, valL_rawL hk l, belowL_rawL l (h.scp i l e hH)⟩
/-- A named block goes into the heap. -/
theorem St.publish (h : St ρ H g w) {k j b : Nat} {so : SO} {hp : Nat → Option Obj} {o : Obj} (hk : H[k]? = some so) (hown : so.owned = true) (hb : ρ k = some b) (ho : w.heap[b]? = some o) (hj : H[j]? = some (.heap hp)) :
    St ρ ((H.set k .gone).set j (.heap (updh hp b o))) g w := by
  have hkl := (List.getElem?_eq_some_iff.1 hk).1
  have hjl := (List.getElem?_eq_some_iff.1 hj).1
  have hkj : k ≠ j := by rintro rfl; rw [hk] at hj; cases hj; simp [SO.owned] at hown
  have hget : ∀ (i : Nat) s, ((H.set k .gone).set j (.heap (updh hp b o)))[i]? = some s → (i = j ∧ s = .heap (updh hp b o)) ∨ s = .gone ∨ (i ≠ j ∧ i ≠ k ∧ H[i]? = some s) := by
    intro i s hi
    by_cases hij : i = j
    · subst hij
      rw [List.getElem?_set_self (by simpa using hjl)] at hi
      cases hi; exact .inl ⟨rfl, rfl⟩
    · rw [List.getElem?_set_ne (Ne.symm hij)] at hi
      by_cases hik : i = k
      · subst hik; rw [List.getElem?_set_self hkl] at hi; cases hi; exact .inr (.inl rfl)
      · rw [List.getElem?_set_ne (Ne.symm hik)] at hi; exact .inr (.inr ⟨hij, hik, hi⟩)
  have own : ∀ (i : Nat) s, ((H.set k .gone).set j (.heap (updh hp b o)))[i]? = some s → (s.owned = true ∨ s.isRo = true) → i ≠ j ∧ i ≠ k ∧ H[i]? = some s := by
    intro i s hi hs
    rcases hget i s hi with ⟨_, rfl⟩ | rfl | h1
    · simp [SO.owned, SO.isRo] at hs
    · simp [SO.owned, SO.isRo] at hs
    · exact h1
  have hdom : ∀ b', updh hp b o b' ≠ none → b' = b ∨ hp b' ≠ none := by
    intro b' h1
    by_cases hbb : b' = b
    · exact .inl hbb
    · exact .inr (by simpa [updh, hbb] using h1)
  constructor
  · intro i s hi
    rcases hget i s hi with ⟨rfl, rfl⟩ | rfl | ⟨_, _, h1⟩
    · intro b' o' hb'
      by_cases hbb : b' = b
      · subst hbb; simp only [updh, if_true, Option.some.injEq] at hb'; subst hb'; exact ho
      · simp only [updh, hbb, if_false] at hb'; exact h.ent i _ hj b' o' hb'
    · trivial
    · exact h.ent i s h1
  · intro i i' si si' b' hii hi hi' hs hs' hb'
    exact h.dis i i' si si' b' hii (own i si hi (.inl hs)).2.2 (own i' si' hi' hs').2.2 hs hs' hb'
  · intro i i' si gh b' hi hs hi' hb'
    rcases hget i' _ hi' with ⟨_, h1⟩ | h1 | ⟨_, _, h1⟩
    · cases h1
    · cases h1
    · exact h.gho i i' si gh b' (own i si hi (.inl hs)).2.2 hs h1 hb'
  · exact h.env
  · exact h.frm
  · intro i si b' hi hs hb'
    exact h.frd i si b' (own i si hi (.inl hs)).2.2 hs hb'
  · intro i l e hi
    simp only [List.length_set]
    exact h.scp i l e (own i _ hi (.inl rfl)).2.2
  · intro i m s seen st hi
    simp only [List.length_set]
    exact h.sci i m s seen st (own i _ hi (.inl rfl)).2.2
  · intro i gh b' hi hb'
    rcases hget i _ hi with ⟨rfl, h1⟩ | h1 | ⟨_, _, h1⟩
    · cases h1
      rcases hdom b' hb' with rfl | h2
      · exact h.frd k so b' hk hown hb
      · exact h.hpf i hp b' hj h2
    · cases h1
    · exact h.hpf i gh b' h1 hb'
  · intro i i' gh b' si hi hb' hi' hs hρ
    obtain ⟨a1, a2, a3⟩ := own i' si hi' hs
    rcases hget i _ hi with ⟨rfl, h1⟩ | h1 | ⟨_, _, h1⟩
    · cases h1
      rcases hdom b' hb' with rfl | h2
      · exact h.dis k i' so si b' (Ne.symm a2) hk a3 hown hs hb hρ
      · exact h.hpo i i' hp b' si hj h2 a3 hs hρ
    · cases h1
    · exact h.hpo i i' gh b' si h1 hb' a3 hs hρ
  · intro i i' gh b' si hi hb' hii hi' hc
    rcases hget i' si hi' with ⟨rfl, rfl⟩ | rfl | ⟨_, _, h2⟩
    · rcases hget i _ hi with ⟨rfl, h1⟩ | h1 | ⟨_, _, h1⟩
      · omega
      · cases h1
      · simp only [SO.claims] at hc
        rcases hdom b' hc with rfl | h3
        · exact h.hpo i k gh b' so h1 hb' hk (.inl hown) hb
        · exact h.hpc i i' gh b' _ h1 hb' hii hj h3
    · simp [SO.claims] at hc
    · rcases hget i _ hi with ⟨rfl, h1⟩ | h1 | ⟨_, _, h1⟩
      · cases h1
        rcases hdom b' hb' with rfl | h3
        · cases si <;> simp [SO.claims] at hc
          · exact hc (h.gho k i' so _ b' hk hown h2 hb)
          · exact h.hpo i' k _ b' so h2 hc hk (.inl hown) hb
        · exact h.hpc i i' hp b' si hj h3 hii h2 hc
      · cases h1
      · exact h.hpc i i' gh b' si h1 hb' hii h2 hc
/-- A block of the heap gets a name. -/
theorem St.unpublish (h : St ρ H g w) {j b : Nat} {so : SO} {hp : Nat → Option Obj} (hj : H[j]? = some (.heap hp)) (hb : hp b ≠ none) (hown : so.owned = true)
    (he : entryOK (upd ρ H.length (some b)) w H.length so) (hs : ∀ l e, so = .cells l e → belowL H.length l = true) (hi : ∀ m s seen st, so = .iter (some m) s seen st → m < H.length) :
    St (upd ρ H.length (some b)) (H.set j (.heap (delh hp b)) ++ [so]) g w := by
  have hjl := (List.getElem?_eq_some_iff.1 hj).1
  have hget : ∀ (i : Nat) s, (H.set j (.heap (delh hp b)) ++ [so])[i]? = some s → (i = j ∧ s = .heap (delh hp b)) ∨ (i = H.length ∧ s = so) ∨ (i ≠ j ∧ i < H.length ∧ H[i]? = some s) := by
    intro i s hi
    rcases Nat.lt_trichotomy i H.length with h1 | h1 | h1
    · rw [List.getElem?_append_left (by simpa using h1)] at hi
      by_cases hij : i = j
      · subst hij; rw [List.getElem?_set_self hjl] at hi; cases hi; exact .inl ⟨rfl, rfl⟩
      · rw [List.getElem?_set_ne (Ne.symm hij)] at hi; exact .inr (.inr ⟨hij, h1, hi⟩)
    · subst h1; rw [List.getElem?_append_right (by simp)] at hi; simp at hi; exact .inr (.inl ⟨rfl, hi.symm⟩)
    · rw [List.getElem?_eq_none (by simp; omega)] at hi; cases hi
  have hdom : ∀ b', delh hp b b' ≠ none → b' ≠ b ∧ hp b' ≠ none := by
    intro b' h1
    by_cases hbb : b' = b
    · subst hbb; simp [delh] at h1
    · exact ⟨hbb, by simpa [delh, hbb] using h1⟩
  have hin : ∀ b' o', delh hp b b' = some o' → hp b' = some o' := by
    intro b' o' h1
    by_cases hbb : b' = b
    · subst hbb; simp [delh] at h1
    · simpa [delh, hbb] using h1
  constructor
  · intro i s hi
    rcases hget i s hi with ⟨rfl, rfl⟩ | ⟨rfl, rfl⟩ | ⟨_, h1, h2⟩
    · intro b' o' hb'; exact h.ent i _ hj b' o' (hin b' o' hb')
    · exact he
    · refine entryOK_congr h1 (h.ent i s h2) (fun j hj => upd_lt ρ _ hj) ?_ ?_ (fun _ _ _ hb' _ _ => hb')
      · rintro l e rfl; exact h.scp i l e h2
      · rintro m s' seen st rfl; exact h.sci i m s' seen st h2
  · intro i i' si si' b' hii hi hi' ho ho' hb'
    rcases hget i si hi with ⟨_, rfl⟩ | ⟨rfl, rfl⟩ | ⟨_, h1, h2⟩
    · simp [SO.owned] at ho
    · rw [upd_same] at hb'; cases hb'
      rcases hget i' si' hi' with ⟨_, rfl⟩ | ⟨rfl, rfl⟩ | ⟨_, h3, h4⟩
      · simp [SO.owned, SO.isRo] at ho'
      · omega
      · rw [upd_lt ρ _ h3]; exact h.hpo j i' hp _ si' hj hb h4 ho'
    · rw [upd_lt ρ _ h1] at hb'
      rcases hget i' si' hi' with ⟨_, rfl⟩ | ⟨rfl, rfl⟩ | ⟨_, h3, h4⟩
      · simp [SO.owned, SO.isRo] at ho'
      · rw [upd_same]; intro e; cases e; exact h.hpo j i hp _ si hj hb h2 (.inl ho) hb'
      · rw [upd_lt ρ _ h3]; exact h.dis i i' si si' b' hii h2 h4 ho ho' hb'
  · intro i i' si gh b' hi ho hi' hb'
    rcases hget i' _ hi' with ⟨_, h1⟩ | ⟨_, h1⟩ | ⟨h0, _, h4⟩
    · cases h1
    · subst h1; simp [SO.owned] at hown
    · rcases hget i si hi with ⟨_, rfl⟩ | ⟨rfl, rfl⟩ | ⟨_, h1, h2⟩
      · simp [SO.owned] at ho
      · rw [upd_same] at hb'; cases hb'
        have := h.hpc j i' hp b _ hj hb h0 h4
        simpa [SO.claims] using this
      · rw [upd_lt ρ _ h1] at hb'; exact h.gho i i' si gh b' h2 ho h4 hb'
  · exact h.env
  · exact h.frm
  · intro i si b' hi ho hb'
    rcases hget i si hi with ⟨_, rfl⟩ | ⟨rfl, rfl⟩ | ⟨_, h1, h2⟩
    · simp [SO.owned] at ho
    · rw [upd_same] at hb'; cases hb'; exact h.hpf j hp _ hj hb
    · rw [upd_lt ρ _ h1] at hb'; exact h.frd i si b' h2 ho hb'
  · intro i l e hi'
    rcases hget i _ hi' with ⟨_, h1⟩ | ⟨_, h1⟩ | ⟨_, _, h1⟩
    · cases h1
    · exact belowL_mono (by simp) l (hs l e h1.symm)
    · exact belowL_mono (by simp) l (h.scp i l e h1)
  · intro i m s seen st hi'
    rcases hget i _ hi' with ⟨_, h1⟩ | ⟨_, h1⟩ | ⟨_, _, h1⟩
    · cases h1
    · have := hi m s seen st h1.symm; simp; omega
    · have := h.sci i m s seen st h1; simp; omega
  · intro i gh b' hi' hb'
    rcases hget i _ hi' with ⟨_, h1⟩ | ⟨_, h1⟩ | ⟨_, _, h1⟩
    · cases h1; exact h.hpf j hp b' hj (hdom b' hb').2
    · subst h1; simp [SO.owned] at hown
    · exact h.hpf i gh b' h1 hb'
  · intro i i' gh b' si hi' hb' hi2 ho hρ
    rcases hget i _ hi' with ⟨rfl, h1⟩ | ⟨_, h1⟩ | ⟨h0, _, h1⟩
    · cases h1
      obtain ⟨q1, q2⟩ := hdom b' hb'
      rcases hget i' si hi2 with ⟨_, rfl⟩ | ⟨rfl, rfl⟩ | ⟨_, h3, h4⟩
      · simp [SO.owned, SO.isRo] at ho
      · rw [upd_same] at hρ; cases hρ; exact q1 rfl
      · rw [upd_lt ρ _ h3] at hρ; exact h.hpo i i' hp b' si hj q2 h4 ho hρ
    · subst h1; simp [SO.owned] at hown
    · rcases hget i' si hi2 with ⟨_, rfl⟩ | ⟨rfl, rfl⟩ | ⟨_, h3, h4⟩
      · simp [SO.owned, SO.isRo] at ho
      · rw [upd_same] at hρ; cases hρ
        exact h.hpc i j gh _ _ h1 hb' (Ne.symm h0) hj hb
      · rw [upd_lt ρ _ h3] at hρ; exact h.hpo i i' gh b' si h1 hb' h4 ho hρ
  · intro i i' gh b' si hi' hb' hii hi2 hc
    rcases hget i _ hi' with ⟨rfl, h1⟩ | ⟨_, h1⟩ | ⟨h0, _, h1⟩
    · cases h1
      obtain ⟨q1, q2⟩ := hdom b' hb'
      rcases hget i' si hi2 with ⟨h5, rfl⟩ | ⟨rfl, rfl⟩ | ⟨_, h3, h4⟩
      · omega
      · exact SO.owned_claims hown b' hc
      · exact h.hpc i i' hp b' si hj q2 hii h4 hc
    · subst h1; simp [SO.owned] at hown
    · rcases hget i' si hi2 with ⟨rfl, rfl⟩ | ⟨rfl, rfl⟩ | ⟨_, h3, h4⟩
      · exact h.hpc i i' gh b' _ h1 hb' hii hj (hdom b' hc).2
      · exact SO.owned_claims hown b' hc
      · exact h.hpc i i' gh b' si h1 hb' hii h4 hc

theorem opn_step {ρ : Rho} (hS : St ρ H g w) {j b : Nat} {so : SO} {hp : Nat → Option Obj} {l l' : List SV} {H' : List SO} {K : List SV → List SO → Prop} (hj : H[j]? = some (.heap hp)) (hb : hp b ≠ none) (hown : so.owned = true)
    (he : entryOK (upd ρ H.length (some b)) w H.length so) (hs : ∀ l e, so = .cells l e → belowL H.length l = true) (hi : ∀ m s seen st, so = .iter (some m) s seen st → m < H.length)
    (f2 : rawL H.length (some b) l' = l) (f3 : rawH H.length (some b) H' = H.set j (.heap (delh hp b))) (hbl : belowL H.length l = true)
    (ih : ∀ {ρ : Rho}, St ρ (H' ++ [so]) g w → belowL (H' ++ [so]).length l' = true →
      ∃ ρ' l2 H2, valL ρ' l2 = valL ρ l' ∧ St ρ' H2 g w ∧ (∀ k, k < (H' ++ [so]).length → ρ' k = ρ k) ∧ (H' ++ [so]).length ≤ H2.length ∧ belowL H2.length l2 = true ∧ K l2 H2) :
    ∃ ρ' l2 H2, valL ρ' l2 = valL ρ l ∧ St ρ' H2 g w ∧ (∀ k, k < H.length → ρ' k = ρ k) ∧ H.length ≤ H2.length ∧ belowL H2.length l2 = true ∧ K l2 H2 := by
  have hlen : H'.length = H.length := by
    have := congrArg List.length f3
    rwa [rawH_len, List.length_set] at this
  have h1 := hS.unpublish hj hb hown he hs hi
  rw [← f3] at h1
  have h2 : St (upd ρ H.length (some b)) (H' ++ [so]) g w := by
    refine h1.like (by simp [rawH_len]) fun i s hi' => ?_
    by_cases hil : i < H'.length
    · rw [List.getElem?_append_left hil] at hi'
      rw [List.getElem?_append_left (by rw [rawH_len]; exact hil), rawH_get, hi', Option.map_some]
      rcases rawO_or H.length (some b) s with e | ⟨l0, e, rfl, e2⟩
      · exact .inl (by rw [e])
      · refine .inr ⟨_, l0, e, rfl, by rw [e2], (valL_rawL (upd_same _ _ _) l0).symm, ?_⟩
        have h5 : (H'.set j (.heap (delh hp b)) ++ [so]).length = H.length + 1 := by simp [hlen]
        have h6 : (rawH H.length (some b) H')[i]? = some (.cells (rawL H.length (some b) l0) e) := by rw [rawH_get, hi', Option.map_some, e2]
        rw [f3] at h6
        have h7 : belowL H.length (rawL H.length (some b) l0) = true := by
          by_cases hij : i = j
          · subst hij
            rw [List.getElem?_set_self (by omega)] at h6; cases h6
          · rw [List.getElem?_set_ne (Ne.symm hij)] at h6
            exact hS.scp i _ _ h6
        simp only [List.length_append, rawH_len, List.length_cons, List.length_nil, hlen]
        exact belowL_of_rawL l0 h7
    · rw [List.getElem?_append_right (by omega)] at hi'
      rw [List.getElem?_append_right (by rw [rawH_len]; omega), rawH_len]
      exact .inl hi'
  have hbl' : belowL (H' ++ [so]).length l' = true := by
    simp only [List.length_append, List.length_cons, List.length_nil, hlen]
    exact belowL_of_rawL l' (f2 ▸ hbl)
  obtain ⟨ρ', l2, H2, q1, q2, q3, q4, q5, q6⟩ := ih h2 hbl'
  simp only [List.length_append, List.length_cons, List.length_nil, hlen] at q3 q4
  refine ⟨ρ', l2, H2, ?_, q2, fun k hk => ?_, by omega, q5, q6⟩
  · rw [q1, ← valL_rawL (upd_same ρ H.length (some b)) l', f2]
    exact valL_congr (n := H.length) (fun k hk => upd_lt ρ _ hk) l hbl
  · rw [q3 k (by omega)]; exact upd_lt ρ _ hk

/-- What another look at a state comes to. -/
theorem view_sound {l : List SV} {K : List SV → List SO → Prop} (hv : VView l H K) : ∀ {ρ : Rho}, St ρ H g w → belowL H.length l = true →
    ∃ ρ' l' H', valL ρ' l' = valL ρ l ∧ St ρ' H' g w ∧ (∀ k, k < H.length → ρ' k = ρ k) ∧ H.length ≤ H'.length ∧ belowL H'.length l' = true ∧ K l' H' := by
  induction hv with
  | done h => intro ρ hS hb; exact ⟨ρ, _, _, rfl, hS, fun _ _ => rfl, Nat.le_refl _, hb, h⟩
  | nil e pos posH fit k ih =>
    rename_i l H K l' H'
    intro ρ hS hb
    obtain ⟨f1, f2⟩ := fit
    obtain ⟨h1, h2, h3⟩ := setNil_spec f1
    obtain ⟨hS', hl'⟩ := setNilH_St (upd_same ρ H.length none) f2 rfl (hS.nil e)
    obtain ⟨ρ', l2, H2, q1, q2, q3, q4, q5, q6⟩ := ih hS' (h3 _ (by simp [hl']) (belowL_mono (by simp [hl']) _ hb))
    refine ⟨ρ', l2, H2, ?_, q2, fun k hk => ?_, ?_, q5, q6⟩
    · rw [q1, h2 _ (upd_same _ _ _)]
      exact valL_congr (n := H.length) (fun k hk => upd_lt ρ _ hk) l hb
    · rw [q3 k (by simp [hl']; omega)]; exact upd_lt ρ _ hk
    · simp [hl'] at q4; omega
  | pubArr k j fit k0 k1 ih0 ih1 =>
    rename_i l H K xs e h
    intro ρ hS hb
    obtain ⟨f1, f2⟩ := fit
    have hk : H[k]? = some (.arr xs e) := by rw [← f1]; exact obj_some (by simp [f1])
    have hj : H[j]? = some (.heap h) := by rw [← f2]; exact obj_some (by simp [f2])
    rcases hS.ent k _ hk with ⟨a1, a2⟩ | ⟨b, fr, a1, a2, a3⟩
    · obtain ⟨ρ', l2, H2, q1, q2, q3, q4, q5, q6⟩ := ih0 a2 ((hS.giveUp k).rawH a1) (by rw [rawH_len, List.length_set]; exact belowL_rawL l hb)
      rw [rawH_len, List.length_set] at q3 q4
      exact ⟨ρ', l2, H2, by rw [q1, valL_rawL a1], q2, q3, q4, q5, q6⟩
    · have hn : h b = none := by
        cases hx : h b with
        | none => rfl
        | some o => exact absurd a1 (hS.hpo j k h b _ hj (by rw [hx]; simp) hk (.inl rfl))
      obtain ⟨ρ', l2, H2, q1, q2, q3, q4, q5, q6⟩ := ih1 b fr hn a3 ((hS.publish hk rfl a1 a2 hj).rawH a1) (by rw [rawH_len, List.length_set, List.length_set]; exact belowL_rawL l hb)
      rw [rawH_len, List.length_set, List.length_set] at q3 q4
      exact ⟨ρ', l2, H2, by rw [q1, valL_rawL a1], q2, q3, q4, q5, q6⟩
  | pubCells k j fit k1 ih1 =>
    rename_i l H K cs xs e h
    intro ρ hS hb
    obtain ⟨f1, f2, f3⟩ := fit
    have hk : H[k]? = some (.cells cs e) := by rw [← f1]; exact obj_some (by simp [f1])
    have hj : H[j]? = some (.heap h) := by rw [← f2]; exact obj_some (by simp [f2])
    obtain ⟨b, a1, a2⟩ := hS.ent k _ hk
    rw [plainL_val ρ f3] at a2
    have hn : h b = none := by
      cases hx : h b with
      | none => rfl
      | some o => exact absurd a1 (hS.hpo j k h b _ hj (by rw [hx]; simp) hk (.inl rfl))
    obtain ⟨ρ', l2, H2, q1, q2, q3, q4, q5, q6⟩ := ih1 b hn ((hS.publish hk rfl a1 a2 hj).rawH a1) (by rw [rawH_len, List.length_set, List.length_set]; exact belowL_rawL l hb)
    rw [rawH_len, List.length_set, List.length_set] at q3 q4
    exact ⟨ρ', l2, H2, by rw [q1, valL_rawL a1], q2, q3, q4, q5, q6⟩
  | pubMap k j fit k1 ih1 =>
    rename_i l H K es c h
    intro ρ hS hb
    obtain ⟨f1, f2⟩ := fit
    have hk : H[k]? = some (.map es c) := by rw [← f1]; exact obj_some (by simp [f1])
    have hj : H[j]? = some (.heap h) := by rw [← f2]; exact obj_some (by simp [f2])
    obtain ⟨b, a1, a2⟩ := hS.ent k _ hk
    have hn : h b = none := by
      cases hx : h b with
      | none => rfl
      | some o => exact absurd a1 (hS.hpo j k h b _ hj (by rw [hx]; simp) hk (.inl rfl))
    obtain ⟨ρ', l2, H2, q1, q2, q3, q4, q5, q6⟩ := ih1 b hn ((hS.publish hk rfl a1 a2 hj).rawH a1) (by rw [rawH_len, List.length_set, List.length_set]; exact belowL_rawL l hb)
    rw [rawH_len, List.length_set, List.length_set] at q3 q4
    exact ⟨ρ', l2, H2, by rw [q1, valL_rawL a1], q2, q3, q4, q5, q6⟩
  | opnArr j b l' H' hb0 fit k1 ih =>
    rename_i l H K xs e fr h
    intro ρ hS hb
    obtain ⟨f1, f2, f3⟩ := fit
    have hj : H[j]? = some (.heap h) := by rw [← f1]; exact obj_some (by simp [f1])
    exact opn_step (so := .arr xs e) hS hj (by rw [hb0.1]; simp) rfl (.inr ⟨b, fr, upd_same _ _ _, hS.ent j _ hj b _ hb0.1, hb0.2⟩) (by simp) (by simp) f2 f3 hb ih
  | opnCells j b l' H' hb0 fit k1 ih =>
    rename_i l H K xs e h
    intro ρ hS hb
    obtain ⟨f1, f2, f3⟩ := fit
    have hj : H[j]? = some (.heap h) := by rw [← f1]; exact obj_some (by simp [f1])
    refine opn_step (so := .cells (xs.map .raw) e) hS hj (by rw [hb0]; simp) rfl ⟨b, upd_same _ _ _, ?_⟩ ?_ (by simp) f2 f3 hb ih
    · have : valL (upd ρ H.length (some b)) (xs.map .raw) = xs := by rw [valL_eq]; simp [Function.comp_def, V.val]
      rw [this]; exact hS.ent j _ hj b _ hb0
    · intro l0 e0 h0; cases h0; exact below_raws _ _
  | opnMap j b l' H' hb0 fit k1 ih =>
    rename_i l H K es c h
    intro ρ hS hb
    obtain ⟨f1, f2, f3⟩ := fit
    have hj : H[j]? = some (.heap h) := by rw [← f1]; exact obj_some (by simp [f1])
    exact opn_step (so := .map es c) hS hj (by rw [hb0]; simp) rfl ⟨b, upd_same _ _ _, hS.ent j _ hj b _ hb0⟩ (by simp) (by simp) f2 f3 hb ih

/-- A call by contract. -/
theorem sound_call1 {f : FuncId} {vs : List SV} (hS : St ρ H g w) (hb : belowL H.length vs = true) (hv : VCall1 P f vs H K) :
    Calls P f (valL ρ vs).toArray w fun e w' => ∃ v, e = .returned v ∧ Res ρ H g K v w' := by
  classical
  obtain ⟨σ, spec, ⟨hargs, hp, hσ⟩, hk⟩ := hv
  rename_i af Hf Post
  have hσ' := hσ
  obtain ⟨hl, hnd, hlt⟩ := okσ_spec hσ
  have hndb : nodup σ = true := by simp only [okσ, Bool.and_eq_true] at hσ'; exact hσ'.1.2
  have hS0 := hS.pick hp hσ
  generalize hs : sub σ Hf.length H.length = s at *
  have hsg : ∀ {i k : Nat}, σ[i]? = some k → s i = k := fun h => hs ▸ sub_get h
  have hinv : ∀ k, s k < H.length → k < Hf.length := by
    intro k hk
    by_cases hk' : k < Hf.length
    · exact hk'
    · rw [← hs, sub_ge hl (by omega)] at hk; omega
  have hslt : ∀ k, k < Hf.length → s k < H.length := fun k hk => hs ▸ sub_lt hl hlt hk
  have hsge : ∀ k, Hf.length ≤ k → s k = H.length + (k - Hf.length) := fun k hk => hs ▸ sub_ge hl hk
  -- the frame: everything that the callee does not own
  let gf : Fr := ⟨fun b => if (∃ (i : Nat) (si : SO), Hf[i]? = some si ∧ si.owned = true ∧ ρ (s i) = some b) ∨ (∃ (i : Nat) (gh : Nat → Option Obj), Hf[i]? = some (.heap gh) ∧ gh b ≠ none) then none else w.heap[b]?, w.os, w.tape, w.output, Mode.dr w⟩
  have hgf1 : ∀ b o, gf.f b = some o → w.heap[b]? = some o := by
    intro b o h
    by_cases hc : (∃ (i : Nat) (si : SO), Hf[i]? = some si ∧ si.owned = true ∧ ρ (s i) = some b) ∨ (∃ (i : Nat) (gh : Nat → Option Obj), Hf[i]? = some (.heap gh) ∧ gh b ≠ none)
    · simp only [gf, if_pos hc] at h; cases h
    · simpa only [gf, if_neg hc] using h
  have hgf2 : ∀ (i : Nat) si b, Hf[i]? = some si → si.owned = true → ρ (s i) = some b → gf.f b = none := by
    intro i si b h1 h2 h3
    simp only [gf]; exact if_pos (.inl ⟨i, si, h1, h2, h3⟩)
  have hgf4 : ∀ (i : Nat) gh b, Hf[i]? = some (.heap gh) → gh b ≠ none → gf.f b = none := by
    intro i gh b h1 h2
    simp only [gf]; exact if_pos (.inr ⟨i, gh, h1, h2⟩)
  have hgf3 : ∀ b, (∀ (i : Nat) si, Hf[i]? = some si → si.owned = true → ρ (s i) ≠ some b) → (∀ (i : Nat) gh, Hf[i]? = some (.heap gh) → gh b = none) → gf.f b = w.heap[b]? := by
    intro b h h'
    simp only [gf]
    exact if_neg (by
      rintro (⟨i, si, h1, h2, h3⟩ | ⟨i, gh, h1, h2⟩)
      · exact h i si h1 h2 h3
      · exact h2 (h' i gh h1))
  have hSf := hS0.other (g' := gf) ⟨rfl, rfl, rfl, Mode.dr_le w, Mode.dr_lax w⟩ hgf1 hgf2 hgf4
  -- a heap of the callee's is one of the caller's
  have heapAt : ∀ (i : Nat) gh, Hf[i]? = some (.heap gh) → ∃ k, σ[i]? = some k ∧ H[k]? = some (.heap gh) := by
    intro i gh hi
    obtain ⟨k, e1, e2⟩ := behind hp hl hi
    have hg : obj H k = .heap gh := by
      rcases asked_eq (.heap gh) (obj H k) with e | ⟨xs, e, e3, e4, _⟩
      · rw [← e, e2]; rfl
      · simp [SO.isRo] at e3
    refine ⟨k, e1, ?_⟩
    rw [← hg]; exact obj_some (by rw [hg]; simp)
  rw [hargs, valL_ren]
  have hbf : belowL Hf.length af = true := belowL_of_ren hinv af (hargs ▸ hb)
  refine Calls.mono (spec _ gf w hSf hbf) ?_
  rintro e w' ⟨ρ', v, Hf', rfl, hS', hρ', hlen, hbv, hpost⟩
  refine ⟨_, rfl, ?_⟩
  have hkk := hk v Hf' hpost
  rw [fK_eq, fHK_eq] at hkk
  obtain ⟨q1, q2⟩ := putH_spec s σ H Hf Hf' hl (by omega) hlt hndb
  -- the names behind the call
  let ρ2 : Rho := fun k => if k < H.length then ρ k else ρ' (Hf.length + (k - H.length))
  have hρ2lt : ∀ k, k < H.length → ρ2 k = ρ k := fun k hk => by simp only [ρ2, if_pos hk]
  have hρ2 : ∀ k, ρ2 (s k) = ρ' k := by
    intro k
    by_cases hk : k < Hf.length
    · rw [hρ2lt _ (hslt k hk), hρ' k hk]
    · rw [hsge k (by omega)]
      simp only [ρ2]
      rw [if_neg (by omega)]
      congr 1; omega
  have hH2 : (putH s H Hf Hf' σ).length = H.length + (Hf'.length - Hf.length) := by rw [q1, hl]
  have hs2 : ∀ k, k < Hf'.length → s k < (putH s H Hf Hf' σ).length := by
    intro k hk
    rw [hH2]
    by_cases hk' : k < Hf.length
    · have := hslt k hk'; omega
    · rw [hsge k (by omega)]; omega
  -- an entry of the new list: the callee's, or the caller's own
  have cases2 : ∀ (j : Nat) s', (putH s H Hf Hf' σ)[j]? = some s' →
      (∃ (i : Nat) (o : SO), s i = j ∧ Hf'[i]? = some o ∧ s' = strip (o.ren s)) ∨
      (j < H.length ∧ H[j]? = some s' ∧ ∀ (i : Nat) f, σ[i]? = some j → Hf[i]? = some f → f.keeps = true) := by
    intro j s' hj
    rcases q2 j s' hj with ⟨i, f, o, c1, c2, c3, c4, c5⟩ | ⟨c1, c2⟩ | ⟨i, o, c1, c2, c3⟩
    · exact .inl ⟨i, o, hsg c1, c4, c5⟩
    · exact .inr ⟨(List.getElem?_eq_some_iff.1 c1).1, c1, c2⟩
    · refine .inl ⟨Hf.length + i, o, ?_, by rw [hl] at c2; exact c2, c3⟩
      rw [hsge _ (by omega), c1]; omega
  -- what the caller keeps lies in the callee's frame
  have kept : ∀ (j : Nat) s' b, j < H.length → H[j]? = some s' → (∀ (i : Nat) f, σ[i]? = some j → Hf[i]? = some f → f.keeps = true) →
      (s'.owned = true ∨ s'.isRo = true) → ρ j = some b → gf.f b = w.heap[b]? := by
    intro j s' b _ hj hkeep ho hb
    refine hgf3 b (fun i si h1 h2 h3 => ?_) (fun i gh h1 => ?_)
    rotate_left 1
    · obtain ⟨k, e1, e2⟩ := heapAt i gh h1
      cases hx : gh b with
      | none => rfl
      | some o => exact absurd hb (hS.hpo k j gh b s' e2 (by rw [hx]; simp) hj ho)
    obtain ⟨k, e1, e2⟩ := behind hp hl h1
    have hk1 : obj H k ≠ .gone := by
      intro hg
      rw [hg] at e2
      have : (si.ren s).owned = true := by rw [ren_owned, h2]
      rw [← e2] at this
      cases si <;> simp [asked, SO.owned] at this
    have hko : (obj H k).owned = true := by
      have h5 := ren_owned s si
      rw [h2, ← e2] at h5
      rcases asked_eq si (obj H k) with e | ⟨xs, e, e3, e4, _⟩
      · rwa [e] at h5
      · rw [e4]; rfl
    have hkj : k ≠ j := by
      rintro rfl
      have := hkeep i si e1 h1
      rw [keeps_iff si h2] at this; cases this
    rw [hsg e1] at h3
    exact hS.dis k j _ _ b hkj (obj_some hk1) hj hko ho h3 hb
  have ghosts : ∀ (j : Nat) gh b o, H[j]? = some (.ghost gh) → gh b = some o → gf.f b = w.heap[b]? := by
    intro j gh b o hj hb
    refine hgf3 b (fun i si h1 h2 h3 => ?_) (fun i gh' h1 => ?_)
    rotate_left 1
    · obtain ⟨k, e1, e2⟩ := heapAt i gh' h1
      cases hx : gh' b with
      | none => rfl
      | some o' =>
        refine absurd ?_ (hS.hpc k j gh' b _ e2 (by rw [hx]; simp) ?_ hj)
        · simp [SO.claims, hb]
        · rintro rfl; rw [e2] at hj; cases hj
    obtain ⟨k, e1, e2⟩ := behind hp hl h1
    have hko : (obj H k).owned = true := by
      have h5 := ren_owned s si
      rw [h2, ← e2] at h5
      rcases asked_eq si (obj H k) with e | ⟨xs, e, e3, e4, _⟩
      · rwa [e] at h5
      · rw [e4]; rfl
    rw [hsg e1] at h3
    have := hS.gho k j _ gh b (obj_some (by intro hg; rw [hg] at hko; cases hko)) hko hj h3
    rw [this] at hb; cases hb
  -- a heap that the caller keeps
  have heaps : ∀ (j : Nat) gh b, j < H.length → H[j]? = some (.heap gh) → (∀ (i : Nat) f, σ[i]? = some j → Hf[i]? = some f → f.keeps = true) → gh b ≠ none → gf.f b = w.heap[b]? := by
    intro j gh b _ hj hkeep hb
    refine hgf3 b (fun i si h1 h2 h3 => ?_) (fun i gh' h1 => ?_)
    · obtain ⟨k, e1, e2⟩ := behind hp hl h1
      have hko : (obj H k).owned = true := by
        have h5 := ren_owned s si
        rw [h2, ← e2] at h5
        rcases asked_eq si (obj H k) with e | ⟨xs, e, e3, e4, _⟩
        · rwa [e] at h5
        · rw [e4]; rfl
      rw [hsg e1] at h3
      exact hS.hpo j k gh b _ hj hb (obj_some (by intro hg; rw [hg] at hko; cases hko)) (.inl hko) h3
    · obtain ⟨k, e1, e2⟩ := heapAt i gh' h1
      cases hx : gh' b with
      | none => rfl
      | some o' =>
        by_cases hkj : j = k
        · subst hkj
          have := hkeep i _ e1 h1
          cases this
        · exact absurd hb (fun hb => hS.hpc k j gh' b _ e2 (by rw [hx]; simp) hkj hj hb)
  have outer : ∀ b o, g.f b = some o → gf.f b = w.heap[b]? := by
    intro b o hg
    refine hgf3 b (fun k sk h1 h2 h3 => ?_) (fun k gh h1 => ?_)
    · have := hS0.frd k sk b h1 h2 h3
      rw [this] at hg; cases hg
    · cases hx : gh b with
      | none => rfl
      | some o' =>
        have := hS0.hpf k gh b h1 (by rw [hx]; simp)
        rw [this] at hg; cases hg
  refine ⟨ρ2, ren s v, putH s H Hf Hf' σ, ?_, ?_, hρ2lt, by omega, below_ren s hs2 v hbv, hkk⟩
  · rw [val_ren]; exact (congrArg (fun r => V.val r v) (funext hρ2)).symm
  constructor
  · intro j s' hj
    rcases cases2 j s' hj with ⟨i, o, rfl, c2, rfl⟩ | ⟨c1, c2, c3⟩
    · have := hS'.ent i o c2
      have h3 : entryOK ρ2 w' (s i) (o.ren s) := by
        rw [entryOK_ren]
        have : (fun i => ρ2 (s i)) = ρ' := funext hρ2
        rw [this]; assumption
      cases o <;> first | exact h3 | trivial | (rename_i m _ _ _; cases m <;> exact h3)
    · refine entryOK_congr c1 (hS.ent j s' c2) (fun i hi => hρ2lt i hi) ?_ ?_ ?_
      · rintro l e rfl; exact hS.scp j l e c2
      · rintro m s'' seen st rfl; exact hS.sci j m s'' seen st c2
      · intro b o hng hb hor hgh
        refine hS'.frm b o ?_
        by_cases ho : s'.owned = true ∨ s'.isRo = true
        · rw [kept j s' b c1 c2 c3 ho (hor ho)]; exact hb
        · cases s' <;> simp [SO.owned, SO.isRo] at ho
          · rw [ghosts j _ b o c2 (hgh _ (.inl rfl))]; exact hb
          · rw [heaps j _ b c1 c2 c3 (by rw [hgh _ (.inr rfl)]; simp)]; exact hb
          · exact absurd rfl hng
  · intro i j si sj b hij hi hj ho hoj hbi
    rcases cases2 i si hi with ⟨i', oi, rfl, c2, rfl⟩ | ⟨c1, c2, c3⟩ <;> rcases cases2 j sj hj with ⟨j', oj, rfl, d2, rfl⟩ | ⟨d1, d2, d3⟩
    · obtain ⟨e1, e2⟩ := strip_own ho
      rw [ren_owned] at e2
      have e3 : (oj.ren s).owned = true := by
        rcases hoj with h | h
        · exact (strip_own h).2
        · rw [strip_isRo] at h; cases h
      rw [ren_owned] at e3
      rw [hρ2] at hbi ⊢
      exact hS'.dis i' j' oi oj b (fun e => hij (by rw [e])) c2 d2 e2 (.inl e3) hbi
    · obtain ⟨e1, e2⟩ := strip_own ho
      rw [ren_owned] at e2
      rw [hρ2] at hbi
      rw [hρ2lt j d1]
      intro hbj
      have h1 := hS'.frd i' oi b c2 e2 hbi
      rw [kept j sj b d1 d2 d3 hoj hbj] at h1
      have h2 := entryOK_lt (hS.ent j sj d2) hoj hbj
      rw [Array.getElem?_eq_none_iff] at h1
      omega
    · have e3 : (oj.ren s).owned = true := by
        rcases hoj with h | h
        · exact (strip_own h).2
        · rw [strip_isRo] at h; cases h
      rw [ren_owned] at e3
      rw [hρ2lt i c1] at hbi
      rw [hρ2]
      intro hbj
      have h1 := hS'.frd j' oj b d2 e3 hbj
      rw [kept i si b c1 c2 c3 (.inl ho) hbi] at h1
      have h2 := entryOK_lt (hS.ent i si c2) (.inl ho) hbi
      rw [Array.getElem?_eq_none_iff] at h1
      omega
    · rw [hρ2lt i c1] at hbi
      rw [hρ2lt j d1]
      exact hS.dis i j si sj b hij c2 d2 ho hoj hbi
  · intro i j si gh b hi ho hj hbi
    rcases cases2 j _ hj with ⟨j', oj, rfl, d2, d3⟩ | ⟨d1, d2, d3⟩
    · exact absurd d3.symm strip_ghost
    · rcases cases2 i si hi with ⟨i', oi, rfl, c2, rfl⟩ | ⟨c1, c2, c3⟩
      · obtain ⟨e1, e2⟩ := strip_own ho
        rw [ren_owned] at e2
        rw [hρ2] at hbi
        cases hg : gh b with
        | none => rfl
        | some o =>
          have h1 := hS'.frd i' oi b c2 e2 hbi
          rw [ghosts j gh b o d2 hg] at h1
          have h2 := hS.ent j _ d2 b o hg
          rw [h2] at h1; cases h1
      · rw [hρ2lt i c1] at hbi
        exact hS.gho i j si gh b c2 ho d2 hbi
  · exact ⟨hS'.env.1.trans hS.env.1, hS'.env.2.1.trans hS.env.2.1, hS'.env.2.2.1.trans hS.env.2.2.1, hS.env.2.2.2.behind hS'.env.2.2.2.1⟩
  · intro b o hb
    refine hS'.frm b o ?_
    rw [hgf3 b]
    · exact hS.frm b o hb
    · intro i si h1 h2 h3
      have := hS0.frd i si b h1 h2 h3
      rw [this] at hb; cases hb
    · intro i gh h1
      cases hx : gh b with
      | none => rfl
      | some o' =>
        have := hS0.hpf i gh b h1 (by rw [hx]; simp)
        rw [this] at hb; cases hb
  · intro i si b hi ho hbi
    rcases cases2 i si hi with ⟨i', oi, rfl, c2, rfl⟩ | ⟨c1, c2, c3⟩
    · obtain ⟨e1, e2⟩ := strip_own ho
      rw [ren_owned] at e2
      rw [hρ2] at hbi
      cases hg : g.f b with
      | none => rfl
      | some o =>
        have h1 := hS'.frd i' oi b c2 e2 hbi
        rw [hgf3 b] at h1
        · rw [hS.frm b o hg] at h1; cases h1
        · intro k sk h1 h2 h3
          have := hS0.frd k sk b h1 h2 h3
          rw [this] at hg; cases hg
        · intro k gh h1
          cases hx : gh b with
          | none => rfl
          | some o' =>
            have := hS0.hpf k gh b h1 (by rw [hx]; simp)
            rw [this] at hg; cases hg
    · rw [hρ2lt i c1] at hbi
      exact hS.frd i si b c2 ho hbi
  · intro j l e hj
    rcases cases2 j _ hj with ⟨j', oj, rfl, d2, d3⟩ | ⟨d1, d2, d3⟩
    · have := strip_cells d3.symm
      cases oj <;> simp [SO.ren] at this
      · obtain ⟨rfl, rfl⟩ := this
        exact belowL_ren s hs2 _ (hS'.scp j' _ _ d2)
      · rename_i m _ _ _; cases m <;> simp at this
    · exact belowL_mono (by omega) l (hS.scp j l e d2)
  · intro j m s'' seen st hj
    rcases cases2 j _ hj with ⟨j', oj, rfl, d2, d3⟩ | ⟨d1, d2, d3⟩
    · have := strip_iter d3.symm
      cases oj <;> simp [SO.ren] at this
      rename_i m' _ _ _
      cases m' with
      | none => simp at this
      | some m' =>
        simp at this
        obtain ⟨rfl, _⟩ := this
        exact hs2 _ (hS'.sci j' _ _ _ _ d2)
    · have := hS.sci j m s'' seen st d2; omega
  · intro j gh b hj hb
    rcases cases2 j _ hj with ⟨j', oj, rfl, d2, d3⟩ | ⟨d1, d2, d3⟩
    · have := strip_heap d3.symm; subst this
      cases hg : g.f b with
      | none => rfl
      | some o =>
        have h1 := hS'.hpf j' gh b d2 hb
        rw [outer b o hg, hS.frm b o hg] at h1; cases h1
    · exact hS.hpf j gh b d2 hb
  · intro j i gh b si hj hb hi ho hbi
    rcases cases2 j _ hj with ⟨j', oj, rfl, d2, d3⟩ | ⟨d1, d2, d3⟩ <;> rcases cases2 i si hi with ⟨i', oi, rfl, c2, rfl⟩ | ⟨c1, c2, c3⟩
    · have := strip_heap d3.symm; subst this
      have e3 : (oi.ren s).owned = true := by
        rcases ho with h | h
        · exact (strip_own h).2
        · rw [strip_isRo] at h; cases h
      rw [ren_owned] at e3
      rw [hρ2] at hbi
      exact hS'.hpo j' i' gh b oi d2 hb c2 (.inl e3) hbi
    · have := strip_heap d3.symm; subst this
      rw [hρ2lt i c1] at hbi
      have h1 := hS'.hpf j' gh b d2 hb
      rw [kept i si b c1 c2 c3 ho hbi] at h1
      have h2 := entryOK_lt (hS.ent i si c2) ho hbi
      rw [Array.getElem?_eq_none_iff] at h1
      omega
    · have e3 : (oi.ren s).owned = true := by
        rcases ho with h | h
        · exact (strip_own h).2
        · rw [strip_isRo] at h; cases h
      rw [ren_owned] at e3
      rw [hρ2] at hbi
      have h1 := hS'.frd i' oi b c2 e3 hbi
      rw [heaps j gh b d1 d2 d3 hb] at h1
      cases hx : gh b with
      | none => exact hb hx
      | some o => rw [hS.ent j _ d2 b o hx] at h1; cases h1
    · rw [hρ2lt i c1] at hbi
      exact hS.hpo j i gh b si d2 hb c2 ho hbi
  · intro j i gh b si hj hb hij hi hc
    rcases cases2 j _ hj with ⟨j', oj, rfl, d2, d3⟩ | ⟨d1, d2, d3⟩ <;> rcases cases2 i si hi with ⟨i', oi, rfl, c2, rfl⟩ | ⟨c1, c2, c3⟩
    · have := strip_heap d3.symm; subst this
      have e3 : oi.claims b ∧ ∃ gh', oi = .heap gh' := by
        cases oi <;> simp [SO.ren, strip, SO.claims] at hc ⊢
        · rename_i m _ _ _; cases m <;> simp [SO.ren, strip, SO.claims] at hc
        · exact hc
      exact hS'.hpc j' i' gh b oi d2 hb (fun e => hij (by rw [e])) c2 e3.1
    · have := strip_heap d3.symm; subst this
      have h1 := hS'.hpf j' gh b d2 hb
      cases si <;> simp [SO.claims] at hc
      · rename_i gh'
        cases hx : gh' b with
        | none => exact hc hx
        | some o => rw [ghosts i gh' b o c2 hx, hS.ent i _ c2 b o hx] at h1; cases h1
      · rename_i gh'
        cases hx : gh' b with
        | none => exact hc hx
        | some o => rw [heaps i gh' b c1 c2 c3 hc, hS.ent i _ c2 b o hx] at h1; cases h1
    · have e3 : ∃ gh', oi = .heap gh' ∧ gh' b ≠ none := by
        cases oi <;> simp [SO.ren, strip, SO.claims] at hc ⊢
        · rename_i m _ _ _; cases m <;> simp [SO.ren, strip, SO.claims] at hc
        · exact hc
      obtain ⟨gh', rfl, hb'⟩ := e3
      have h1 := hS'.hpf i' gh' b c2 hb'
      rw [heaps j gh b d1 d2 d3 hb] at h1
      cases hx : gh b with
      | none => exact hb hx
      | some o => rw [hS.ent j _ d2 b o hx] at h1; cases h1
    · exact hS.hpc j i gh b si d2 hb hij c2 hc

theorem sound_call {f : FuncId} {vs : List SV} (hS : St ρ H g w) (hb : belowL H.length vs = true) (hv : VCall P f vs H K) :
    Calls P f (valL ρ vs).toArray w fun e w' => ∃ v, e = .returned v ∧ Res ρ H g K v w' := by
  induction hv generalizing ρ with
  | one h => exact sound_call1 hS hb h
  | nil e pos posH fit k ih =>
    rename_i args H K args' H'
    obtain ⟨f1, f2⟩ := fit
    obtain ⟨h1, h2, h3⟩ := setNil_spec f1
    obtain ⟨hS', hl'⟩ := setNilH_St (upd_same ρ H.length none) f2 rfl (hS.nil e)
    have hb' : belowL (H' ++ [SO.arr [] e]).length args' = true := by
      refine h3 _ (by simp [hl']) (belowL_mono (by simp [hl']) _ hb)
    have hval : valL (upd ρ H.length none) args' = valL ρ args := by
      rw [h2 _ (upd_same _ _ _)]
      exact valL_congr (n := H.length) (fun k hk => upd_lt ρ _ hk) args hb
    have := ih hS' hb'
    rw [hval] at this
    refine Calls.mono this ?_
    rintro e' w' ⟨v, rfl, ρ2, sv, H2, q1, q2, q3, q4, q5, q6⟩
    refine ⟨v, rfl, ρ2, sv, H2, q1, q2, fun k hk => ?_, ?_, q5, q6⟩
    · rw [q3 k (by simp [hl']; omega)]; exact upd_lt ρ _ hk
    · simp [hl'] at q4; omega
  | view h =>
    obtain ⟨ρ1, l1, H1, p1, p2, p3, p4, p5, p6⟩ := view_sound h hS hb
    rw [← p1]
    refine Calls.mono (sound_call1 p2 p5 p6) ?_
    rintro e' w' ⟨v, rfl, ρ2, sv, H2, q1, q2, q3, q4, q5, q6⟩
    exact ⟨v, rfl, ρ2, sv, H2, q1, q2, fun k hk => (q3 k (by omega)).trans (p3 k hk), by omega, q5, q6⟩
  | fin h hk ih =>
    refine Calls.mono (ih hS hb) ?_
    rintro e' w' ⟨v, rfl, ρ2, sv, H2, q1, q2, q3, q4, q5, q6⟩
    obtain ⟨ρ3, l3, H3, p1, p2, p3, p4, p5, v', rfl, p6⟩ := view_sound (hk sv H2 q6) q2 (by simp [belowL, q5])
    simp only [fK_eq, fHK_eq] at p6
    simp only [valL, List.cons.injEq, and_true] at p1
    simp only [belowL, Bool.and_true] at p5
    exact ⟨v, rfl, ρ3, v', H3, by rw [q1, p1], p2, fun k hk => (p3 k (by omega)).trans (q3 k hk), by omega, p5, p6⟩

theorem run_enters {f : FuncId} (he : enters P f = true) (args : Array Value) : (callFunc f args).run P w = .ok (.enter f args) w := by
  unfold enters at he
  cases hf : P.funcs[f]? with
  | none => simp [hf] at he
  | some fn =>
    simp only [hf, Bool.and_eq_true, Bool.not_eq_true'] at he
    obtain ⟨h1, h2⟩ := he
    have h1' : fn.name ≠ "runtime.NumGoroutine" := by simpa using h1
    simp [callFunc, hf, h1']
    cases hb : fn.body with
    | none => simp [hb] at h2
    | some c => simp

theorem s_call (h : At P ρ H g w t a) {f : FuncId} {args : Array Operand} {ats : Array TypeId} {l : List Opd} (ho : o.op = .call { callee := .value (.func f), args := args, argTypes := ats }) (he : enters P f = true) (hx : cOpds args = some l) (hv : vcOp P (.call f l) t H K) :
    GoodRes P ρ H g K ((execOp a.eval o).run P w) := by
  simp only [vcOp, evLK_eq] at hv
  obtain ⟨h1, h2⟩ := evL_map h hx
  have e : args.map a.eval = (valL ρ (evL t l)).toArray := by
    rw [← h1]; apply Array.toList_inj.1; simp
  have := sound_call h.s h2 hv
  simp [execOp, ho, resolve, Act.eval, Deferred.ofValue, invoke, run_enters he, GoodRes, e, this]

theorem s_callv (h : At P ρ H g w t a) {x : Operand} {y : Opd} {args : Array Operand} {ats : Array TypeId} {l : List Opd} (ho : o.op = .call { callee := .value x, args := args, argTypes := ats }) (hx0 : cOpd x = some y) (hx : cOpds args = some l) (hv : vcOp P (.callv y l) t H K) :
    GoodRes P ρ H g K ((execOp a.eval o).run P w) := by
  simp only [vcOp, evLK_eq, evK_eq] at hv
  obtain ⟨h1, h2⟩ := evL_map h hx
  have e : args.map a.eval = (valL ρ (evL t l)).toArray := by
    rw [← h1]; apply Array.toList_inj.1; simp
  have hbx := h.bel hx0
  split at hv
  · rename_i f caps e1
    obtain ⟨he, hv⟩ := hv
    rw [e1] at hbx
    simp only [below] at hbx
    have := sound_call h.s (belowL_append.2 ⟨h2, hbx⟩) hv
    have e2 : valL ρ (evL t l ++ caps) = valL ρ (evL t l) ++ valL ρ caps := by simp [valL_eq]
    rw [e2] at this
    have e3 : a.eval x = .func (.func f) #[] (valL ρ caps).toArray := by rw [h.eq hx0, e1]; rfl
    simp [execOp, ho, resolve, e3, Deferred.ofValue, invoke, run_enters he, GoodRes, e]
    simpa using this
  · rename_i f caps e1
    obtain ⟨he, hv⟩ := hv
    rw [rawsK_eq] at hv
    have := sound_call h.s (belowL_append.2 ⟨h2, below_raws _ caps⟩) hv
    have e2 : valL ρ (evL t l ++ caps.map .raw) = valL ρ (evL t l) ++ caps := by simp [valL_eq, Function.comp_def, V.val]
    rw [e2] at this
    have e3 : a.eval x = .func (.func f) #[] caps.toArray := by rw [h.eq hx0, e1]; rfl
    simp [execOp, ho, resolve, e3, Deferred.ofValue, invoke, run_enters he, GoodRes, e]
    simpa using this
  · exact hv.elim
theorem s_invoke (h : At P ρ H g w t a) {r : Operand} {m : String} {y : Opd} {args : Array Operand} {ats : Array TypeId} {l : List Opd} (ho : o.op = .call { callee := .invoke r m, args := args, argTypes := ats }) (hx0 : cOpd r = some y) (hx : cOpds args = some l) (hv : vcOp P (.invoke m y l) t H K) :
    GoodRes P ρ H g K ((execOp a.eval o).run P w) := by
  simp only [vcOp, evLK_eq, evK_eq] at hv
  obtain ⟨h1, h2⟩ := evL_map h hx
  have e : args.map a.eval = (valL ρ (evL t l)).toArray := by
    rw [← h1]; apply Array.toList_inj.1; simp
  have hbx := h.bel hx0
  split at hv
  · rename_i ty v e1
    obtain ⟨f, ⟨hm, he⟩, hv⟩ := hv
    rw [e1] at hbx
    simp only [below] at hbx
    have hc := sound_call h.s (show belowL H.length (v :: evL t l) = true by simp [belowL, hbx, h2]) hv
    have e3 : a.eval r = .iface ty (val ρ v) := by rw [h.eq hx0, e1]; rfl
    have e4 := hm w (val ρ v)
    have e5 : #[val ρ v] ++ (valL ρ (evL t l)).toArray = (valL ρ (v :: evL t l)).toArray := by apply Array.toList_inj.1; simp [valL_eq]
    have e6 : (#[Value.iface ty (val ρ v)] ++ (valL ρ (evL t l)).toArray).extract 1 (#[Value.iface ty (val ρ v)] ++ (valL ρ (evL t l)).toArray).size = (valL ρ (evL t l)).toArray := by
      apply Array.toList_inj.1; simp
    have e7 : (callMethod (.iface ty (val ρ v)) m (valL ρ (evL t l)).toArray).run P w = .ok (.enter f (valL ρ (v :: evL t l)).toArray) w := by
      simp only [callMethod, Sem.run_bind, run_program, Result.andThen_ok, e4]
      rw [e5, run_enters he]
    simp only [execOp, ho, resolve, e3, e, Sem.run_bind, Sem.run_pure, Result.andThen_ok, invoke]
    have e8 : (#[Value.iface ty (val ρ v)] ++ (valL ρ (evL t l)).toArray)[0]? = some (.iface ty (val ρ v)) := by simp
    rw [e8]
    show GoodRes P ρ H g K ((callMethod (.iface ty (val ρ v)) m ((#[Value.iface ty (val ρ v)] ++ (valL ρ (evL t l)).toArray).extract 1 (#[Value.iface ty (val ρ v)] ++ (valL ρ (evL t l)).toArray).size)).run P w)
    rw [e6, e7]
    exact hc
  · exact hv.elim
end
end Go.V

namespace Go.V
open Go
set_option linter.unusedSectionVars false
variable [Mode]

section
variable {P : Program} {ρ : Rho} {H : List SO} {g : Fr} {w : World} {K : SV → List SO → Prop} {t : List SV} {a : Act} {o : Oper}

def Both (P : Program) (ρ : Rho) (H : List SO) (g : Fr) (K : SV → List SO → Prop) (w : World) (op : VOp) (r : Result Next) : Prop :=
  GoodRes P ρ H g K r ∧ (still op = true → GoodRes1 P ρ H K w r)
theorem both (hS : St ρ H g w) {op : VOp} {r : Result Next} (h : GoodRes1 P ρ H K w r) : Both P ρ H g K w op r := ⟨h.good hS, fun _ => h⟩
theorem only {op : VOp} {r : Result Next} (h : GoodRes P ρ H g K r) (hn : still op = false) : Both P ρ H g K w op r := ⟨h, fun e => by rw [hn] at e; cases e⟩

/-- Every operation that is covered, by its condition. -/
theorem vcOp_sound {op : VOp} (h : At P ρ H g w t a) (hc : cOp P o = some op) (hv : vcOp P op t H K) : Both P ρ H g K w op ((execOp a.eval o).run P w) := by
  unfold cOp at hc
  split at hc
  -- move, assign
  · rename_i x ho
    simp only [Option.bind_eq_bind, Option.bind_eq_some_iff, Option.pure_def, Option.some.injEq] at hc
    obtain ⟨y, hx, rfl⟩ := hc
    simp only [execOp, ho]; exact both h.s (s_mov h hx hv)
  · rename_i x ho
    simp only [Option.bind_eq_bind, Option.bind_eq_some_iff, Option.pure_def, Option.some.injEq] at hc
    obtain ⟨y, hx, rfl⟩ := hc
    simp only [execOp, ho]; exact both h.s (s_mov h hx hv)
  -- pick
  · rename_i c x y ho
    simp only [Option.bind_eq_bind, Option.bind_eq_some_iff, Option.pure_def, Option.some.injEq] at hc
    obtain ⟨c', hcc, x', hx, y', hy, rfl⟩ := hc
    simp only [execOp, ho]; exact both h.s (s_pick h hcc hx hy hv)
  -- alloc
  · rename_i e ho
    simp only [Option.bind_eq_bind, Option.bind_eq_some_iff, Option.pure_def, Option.some.injEq] at hc
    obtain ⟨zs, hz, rfl⟩ := hc
    simp only [execOp, ho]; exact only (s_new h hz hv) rfl
  -- box
  · rename_i e x ho
    simp only [Option.bind_eq_bind, Option.bind_eq_some_iff, Option.pure_def, Option.some.injEq] at hc
    obtain ⟨y, hx, rfl⟩ := hc
    simp only [execOp, ho]; exact only (s_box h hx hv) rfl
  -- build
  · rename_i ty ps ho
    split at hc
    · rename_i fs hu
      split at hc
      · rename_i hall
        simp only [Option.bind_eq_bind, Option.bind_eq_some_iff, Option.pure_def, Option.some.injEq] at hc
        obtain ⟨zs, hz, qs, hq, rfl⟩ := hc
        simp only [execOp, ho]; exact both h.s (s_build_struct h hu hz hall hq hv)
      · cases hc
    · rename_i n e hu
      simp only [Option.bind_eq_bind, Option.bind_eq_some_iff, Option.pure_def, Option.some.injEq] at hc
      obtain ⟨zs, hz, sz, hsz, qs, hq, rfl⟩ := hc
      simp only [execOp, ho]; exact both h.s (s_build_array h hu hz hsz hq hv)
    · cases hc
  -- buildSlice
  · rename_i ty n ps ho
    split at hc
    · rename_i e hu
      simp only [Option.bind_eq_bind, Option.bind_eq_some_iff, Option.pure_def] at hc
      obtain ⟨sz, hsz, hc⟩ := hc
      split at hc
      · cases hc
      · rename_i hn
        simp only [Option.bind_eq_some_iff, Option.some.injEq] at hc
        obtain ⟨zl, hzl, qs, hq, rfl⟩ := hc
        simp only [not_or] at hn
        cases hz : zeroT P e with
        | none => simp [hz] at hn
        | some z =>
          simp [zeroCellsT, hz] at hzl
          subst hzl
          simp only [execOp, ho]; exact only (s_bslice h hu hz hsz hn.1 hq hv) rfl
    · cases hc
  -- load
  · rename_i ty x ho
    simp only [Option.bind_eq_bind, Option.bind_eq_some_iff, Option.pure_def, Option.some.injEq] at hc
    obtain ⟨n, hs, y, hx, rfl⟩ := hc
    simp only [execOp, ho]; exact both h.s (s_load h hs hx hv)
  -- store
  · rename_i ty x v ho
    simp only [Option.bind_eq_bind, Option.bind_eq_some_iff, Option.pure_def, Option.some.injEq] at hc
    obtain ⟨n, hs, y, hx, z, hz, rfl⟩ := hc
    simp only [execOp, ho]; exact only (s_store h hs hx hz hv) rfl
  -- nilCheck
  · rename_i x ho
    simp only [Option.bind_eq_bind, Option.bind_eq_some_iff, Option.pure_def, Option.some.injEq] at hc
    obtain ⟨y, hx, rfl⟩ := hc
    exact both h.s (s_nilck h ho hx hv)
  -- binOp
  · rename_i op ty x y z ho
    simp only [Option.bind_eq_bind, Option.bind_eq_some_iff, Option.pure_def, Option.some.injEq] at hc
    obtain ⟨x', hx, y', hy, rfl⟩ := hc
    simp only [execOp, ho]; exact both h.s (s_bin h hx hy hv)
  -- unOp
  · rename_i op ty x ho
    simp only [Option.bind_eq_bind, Option.bind_eq_some_iff, Option.pure_def, Option.some.injEq] at hc
    obtain ⟨y, hx, rfl⟩ := hc
    simp only [execOp, ho]; exact both h.s (s_un h hx hv)
  -- convert
  · rename_i src dst x ho
    simp only [execOp, ho]
    split at hc
    · rename_i q k h1 h2
      simp only [Option.bind_eq_bind, Option.bind_eq_some_iff, Option.pure_def, Option.some.injEq] at hc
      obtain ⟨y, hx, rfl⟩ := hc
      exact both h.s (s_conv_int h h1 h2 hx hv)
    · rename_i h1 h2
      simp only [Option.bind_eq_bind, Option.bind_eq_some_iff, Option.pure_def, Option.some.injEq] at hc
      obtain ⟨y, hx, rfl⟩ := hc
      exact both h.s (s_conv_same h h1 h2 hx hv)
    · rename_i e h1 h2
      split at hc
      · rename_i h3
        simp only [Option.bind_eq_bind, Option.bind_eq_some_iff, Option.pure_def, Option.some.injEq] at hc
        obtain ⟨y, hx, rfl⟩ := hc
        exact only (s_conv_s2b h h1 h2 h3 hx hv) rfl
      · rename_i h3
        simp only [Option.bind_eq_bind, Option.bind_eq_some_iff, Option.pure_def, Option.some.injEq] at hc
        obtain ⟨y, hx, rfl⟩ := hc
        exact only (s_conv_s2r h h1 h2 h3 hx hv) rfl
      · cases hc
    · rename_i e h1 h2
      split at hc
      · rename_i h3
        simp only [Option.bind_eq_bind, Option.bind_eq_some_iff, Option.pure_def, Option.some.injEq] at hc
        obtain ⟨y, hx, rfl⟩ := hc
        exact both h.s (s_conv_b2s h h1 h2 h3 hx hv)
      · rename_i h3
        simp only [Option.bind_eq_bind, Option.bind_eq_some_iff, Option.pure_def, Option.some.injEq] at hc
        obtain ⟨y, hx, rfl⟩ := hc
        exact both h.s (s_conv_r2s h h1 h2 h3 hx hv)
      · cases hc
    · rename_i d0 e h1 h2
      split at hc
      · rename_i hsd h3
        simp only [Option.bind_eq_bind, Option.bind_eq_some_iff, Option.pure_def, Option.some.injEq] at hc
        obtain ⟨y, hx, rfl⟩ := hc
        exact only (s_conv_s2s h h1 h2 hsd h3 hx hv) rfl
      · cases hc
    · cases hc
  -- makeInterface
  · rename_i ty x ho
    split at hc
    · cases hc
    · rename_i d hd hu
      simp only [Option.bind_eq_bind, Option.bind_eq_some_iff, Option.pure_def, Option.some.injEq] at hc
      obtain ⟨y, hx, rfl⟩ := hc
      simp only [execOp, ho]; exact both h.s (s_mkif h hu (fun ms e => hd ms e) hx hv)
    · cases hc
  -- makeFunc
  · rename_i f first caps ho
    split at hc
    · rename_i h0
      simp only [Option.bind_eq_bind, Option.bind_eq_some_iff, Option.pure_def, Option.some.injEq] at hc
      obtain ⟨l, hx, rfl⟩ := hc
      have e0 : first = #[] := Array.eq_empty_of_size_eq_zero h0
      subst e0
      simp only [execOp, ho]; exact both h.s (s_mkfn h hx hv)
    · cases hc
  -- makeMap
  · rename_i ty ho
    cases hc
    simp only [execOp, ho]; exact only (s_mkmap h hv) rfl
  -- makeSlice
  · rename_i ty x y ho
    split at hc
    · rename_i e hu
      simp only [Option.bind_eq_bind, Option.bind_eq_some_iff, Option.pure_def] at hc
      obtain ⟨zs, hzs, hc⟩ := hc
      split at hc
      · rename_i hsz0
        simp only [Option.bind_eq_some_iff, Option.some.injEq] at hc
        obtain ⟨by', hby, x', hx, y', hy, rfl⟩ := hc
        simp only [execOp, ho]; exact only (s_mkslice h hu hzs hby hsz0 hx hy hv) rfl
      · cases hc
    · cases hc
  -- slice
  · rename_i ty x lo hi ho
    simp only [execOp, ho]
    split at hc
    · rename_i hu
      simp only [Option.bind_eq_bind, Option.bind_eq_some_iff, Option.pure_def, Option.some.injEq] at hc
      obtain ⟨x', hx, lo', hl, hi', hh, rfl⟩ := hc
      exact both h.s (s_slice_str h hu hx hl hh hv)
    · rename_i e hu
      simp only [Option.bind_eq_bind, Option.bind_eq_some_iff, Option.pure_def, Option.some.injEq] at hc
      obtain ⟨sz, hsz, x', hx, lo', hl, hi', hh, rfl⟩ := hc
      exact both h.s (s_slice_sl h hu hsz hx hl hh hv)
    · cases hc
  -- fieldAddr
  · rename_i ty x f ho
    split at hc
    · rename_i fs hu
      simp only [Option.bind_eq_bind, Option.bind_eq_some_iff, Option.pure_def] at hc
      obtain ⟨fd, hfd, n, hn, hc⟩ := hc
      split at hc
      · cases hc
      · rename_i h0
        simp only [Option.bind_eq_some_iff, Option.some.injEq] at hc
        obtain ⟨y, hx, rfl⟩ := hc
        simp only [execOp, ho]; exact both h.s (s_faddr h hu hfd hn h0 hx hv)
    · cases hc
  -- field
  · rename_i ty x f ho
    split at hc
    · rename_i fs hu
      simp only [Option.bind_eq_bind, Option.bind_eq_some_iff, Option.pure_def, Option.some.injEq] at hc
      obtain ⟨fd, hfd, n, hn, y, hx, rfl⟩ := hc
      simp only [execOp, ho]; exact both h.s (s_field h hu hfd hn hx hv)
    · cases hc
  -- indexAddr
  · rename_i ty x i ho
    simp only [execOp, ho]
    split at hc
    · rename_i n e hu
      split at hc
      · cases hc
      · rename_i hn
        simp only [Option.bind_eq_bind, Option.bind_eq_some_iff, Option.pure_def, Option.some.injEq] at hc
        obtain ⟨sz, hsz, y, hx, j, hj, rfl⟩ := hc
        simp only [not_or] at hn
        exact both h.s (s_iaddr h (some n) hu hsz (fun e0 => hn.2 (e0 ▸ hsz)) (fun m e0 => by cases e0; omega) hx hj hv)
    · rename_i e hu
      split at hc
      · cases hc
      · rename_i hn
        simp only [Option.bind_eq_bind, Option.bind_eq_some_iff, Option.pure_def, Option.some.injEq] at hc
        obtain ⟨sz, hsz, y, hx, j, hj, rfl⟩ := hc
        exact both h.s (s_iaddr h none hu hsz (fun e0 => hn (e0 ▸ hsz)) (fun m e0 => by cases e0) hx hj hv)
    · cases hc
  -- index
  · rename_i ty x i ho
    simp only [execOp, ho]
    split at hc
    · rename_i hu
      simp only [Option.bind_eq_bind, Option.bind_eq_some_iff, Option.pure_def, Option.some.injEq] at hc
      obtain ⟨x', hx, i', hi, rfl⟩ := hc
      exact both h.s (s_sindex h hu hx hi hv)
    · rename_i n e hu
      split at hc
      · rename_i hs
        simp only [Option.bind_eq_bind, Option.bind_eq_some_iff, Option.pure_def, Option.some.injEq] at hc
        obtain ⟨x', hx, i', hi, rfl⟩ := hc
        exact both h.s (s_aindex h hu (shape_none hs).2 (shape_none hs).1 (fun _ => rfl) hx hi hv)
      · rename_i m hs
        simp only [Option.bind_eq_bind, Option.bind_eq_some_iff, Option.pure_def, Option.some.injEq] at hc
        obtain ⟨x', hx, i', hi, rfl⟩ := hc
        exact both h.s (s_aindex h hu (shape_some hs).2 (shape_some hs).1 (fun e => by cases e) hx hi hv)
      · cases hc
    · cases hc
  -- lookup
  · rename_i ty x i ok ho
    split at hc
    · simp only [Option.bind_eq_bind, Option.bind_eq_some_iff, Option.pure_def, Option.some.injEq] at hc
      obtain ⟨x', hx, i', hi, rfl⟩ := hc
      simp only [execOp, ho]; exact both h.s (s_lookup h hx hi hv)
    · cases hc
  -- mapUpdate, insert
  · rename_i ty x i v ho
    simp only [Option.bind_eq_bind, Option.bind_eq_some_iff, Option.pure_def, Option.some.injEq] at hc
    obtain ⟨x', hx, i', hi, v', hz, rfl⟩ := hc
    simp only [execOp, ho]; exact only (s_mapup h hx hi hz hv) rfl
  · rename_i ty x i v ho
    simp only [Option.bind_eq_bind, Option.bind_eq_some_iff, Option.pure_def, Option.some.injEq] at hc
    obtain ⟨x', hx, i', hi, v', hz, rfl⟩ := hc
    simp only [execOp, ho]; exact only (s_mapup h hx hi hz hv) rfl
  -- range
  · rename_i ty x ho
    split at hc
    · rename_i hu
      simp only [Option.bind_eq_bind, Option.bind_eq_some_iff, Option.pure_def, Option.some.injEq] at hc
      obtain ⟨x', hx, rfl⟩ := hc
      simp only [execOp, ho]; exact only (s_srange h hu hx hv) rfl
    · rename_i k e hu
      simp only [Option.bind_eq_bind, Option.bind_eq_some_iff, Option.pure_def, Option.some.injEq] at hc
      obtain ⟨x', hx, rfl⟩ := hc
      simp only [execOp, ho]; exact only (s_range h hu hx hv) rfl
    · cases hc
  -- next
  · rename_i it s ho
    simp only [Option.bind_eq_bind, Option.bind_eq_some_iff, Option.pure_def, Option.some.injEq] at hc
    obtain ⟨x', hx, rfl⟩ := hc
    cases s with
    | true => simp only [execOp, ho]; exact only (s_snext h hx hv) rfl
    | false => simp only [execOp, ho]; exact only (s_next h hx hv) rfl
  -- entry
  · rename_i it ho
    simp only [Option.bind_eq_bind, Option.bind_eq_some_iff, Option.pure_def, Option.some.injEq] at hc
    obtain ⟨x', hx, rfl⟩ := hc
    simp only [execOp, ho]; exact both h.s (s_entry h hx hv)
  -- typeAssert
  · rename_i x xT ty ok ho
    split at hc
    · cases hc
    · rename_i d hd hu
      simp only [Option.bind_eq_bind, Option.bind_eq_some_iff, Option.pure_def, Option.some.injEq] at hc
      obtain ⟨z, hz, y, hx, rfl⟩ := hc
      simp only [execOp, ho]; exact both h.s (s_tassert h hu (fun ms e => hd ms e) hz hx hv)
    · cases hc
  -- extract
  · rename_i x i ho
    simp only [Option.bind_eq_bind, Option.bind_eq_some_iff, Option.pure_def, Option.some.injEq] at hc
    obtain ⟨y, hx, rfl⟩ := hc
    simp only [execOp, ho]; exact both h.s (s_extr h hx hv)
  -- call of a function
  · rename_i f args ats ho
    split at hc
    · rename_i he
      simp only [Option.bind_eq_bind, Option.bind_eq_some_iff, Option.pure_def, Option.some.injEq] at hc
      obtain ⟨l, hx, rfl⟩ := hc
      exact only (s_call h ho he hx hv) rfl
    · cases hc
  -- call of a function value
  · rename_i x args ats _ ho
    simp only [Option.bind_eq_bind, Option.bind_eq_some_iff, Option.pure_def, Option.some.injEq] at hc
    obtain ⟨y, hx0, l, hx, rfl⟩ := hc
    exact only (s_callv h ho hx0 hx hv) rfl
  -- invoke
  · rename_i r m args ats ho
    simp only [Option.bind_eq_bind, Option.bind_eq_some_iff, Option.pure_def, Option.some.injEq] at hc
    obtain ⟨y, hx0, l, hx, rfl⟩ := hc
    exact only (s_invoke h ho hx0 hx hv) rfl
  -- builtins
  · rename_i b args ats ho
    have arg1 : ∀ {x : Operand}, args.toList = [x] → args = #[x] := fun h => by apply Array.toList_inj.1; simpa using h
    have arg2 : ∀ {x y : Operand}, args.toList = [x, y] → args = #[x, y] := fun h => by apply Array.toList_inj.1; simpa using h
    have at0 : ∀ {t : TypeId} {l : List TypeId}, ats.toList = t :: l → ats[0]? = some t := fun h => by rw [← Array.getElem?_toList, h]; rfl
    have at1 : ∀ {t u : TypeId} {l : List TypeId}, ats.toList = t :: u :: l → ats[1]? = some u := fun h => by rw [← Array.getElem?_toList, h]; rfl
    have hb : execOp a.eval o = builtin b ats o.type (args.map fun | .const _ => true | _ => false) (args.map a.eval) := by
      simp only [execOp, ho, resolve, invoke]; rfl
    have m1 : ∀ x, (#[x] : Array Operand).map a.eval = #[a.eval x] := by simp
    have m2 : ∀ x y, (#[x, y] : Array Operand).map a.eval = #[a.eval x, a.eval y] := by simp
    rw [hb]
    split at hc
    · rename_i x u h1 h2
      simp only [Option.bind_eq_bind, Option.bind_eq_some_iff, Option.pure_def, Option.some.injEq] at hc
      obtain ⟨k, hk, y, hx, rfl⟩ := hc
      rw [arg1 h1, m1]; simp only [builtin]
      exact both h.s (s_len h (at0 h2) hk hx hv)
    · rename_i x u h1 h2
      split at hc
      · rename_i hk
        simp only [Option.bind_eq_bind, Option.bind_eq_some_iff, Option.pure_def, Option.some.injEq] at hc
        obtain ⟨y, hx, rfl⟩ := hc
        rw [arg1 h1, m1]; simp only [builtin]
        exact both h.s (s_cap h (at0 h2) hk hx hv)
      · cases hc
    · rename_i x y u u' l h1 h2
      have key : ∀ {e : TypeId} {lk : LK}, P.underlying u = some (.slice e) → lenKind P u' = some lk →
          (do let sz ← sizeT P e
              let zs ← zeroCellsT P e
              let by' ← bytesT P e
              if sz = 0 ∨ zs.length ≠ sz ∨ by' = 0 then none else pure (.append e sz by' zs (← cOpd x) (← cOpd y))) = some op →
          Both P ρ H g K w op ((builtin .append ats o.type (args.map fun | .const _ => true | _ => false) (args.map a.eval)).run P w) := by
        intro e lk hu hl hc
        simp only [Option.bind_eq_bind, Option.bind_eq_some_iff, Option.pure_def] at hc
        obtain ⟨sz, hsz, zs, hzs, by', hby, hc⟩ := hc
        split at hc
        · cases hc
        · rename_i hn
          simp only [Option.bind_eq_some_iff, Option.some.injEq] at hc
          obtain ⟨x', hx, y', hy, rfl⟩ := hc
          simp only [not_or, Decidable.not_not] at hn
          rw [arg2 h1, m2]; simp only [builtin]
          exact only (s_append h (at0 h2) (at1 h2) hu hl hsz hby hzs hn.1 hn.2.1 hn.2.2 hx hy hv) rfl
      split at hc
      · rename_i e hu hl; exact key hu hl hc
      · rename_i e hu hl; exact key hu hl hc
      · cases hc
    · rename_i x y h1
      simp only [Option.bind_eq_bind, Option.bind_eq_some_iff, Option.pure_def, Option.some.injEq] at hc
      obtain ⟨x', hx, y', hy, rfl⟩ := hc
      rw [arg2 h1, m2]; simp only [builtin]
      exact both h.s (s_min h hx hy hv)
    · rename_i x y h1
      simp only [Option.bind_eq_bind, Option.bind_eq_some_iff, Option.pure_def, Option.some.injEq] at hc
      obtain ⟨x', hx, y', hy, rfl⟩ := hc
      rw [arg2 h1, m2]; simp only [builtin]
      exact both h.s (s_max h hx hy hv)
    · rename_i x y u l h1 h2
      simp only [Option.bind_eq_bind, Option.bind_eq_some_iff, Option.pure_def, Option.some.injEq] at hc
      obtain ⟨x', hx, y', hy, rfl⟩ := hc
      rw [arg2 h1, m2]; simp only [builtin]
      exact only (s_delete h (at0 h2) hx hy hv) rfl
    · rename_i x y u l h1 h2
      split at hc
      · rename_i e hu
        simp only [Option.bind_eq_bind, Option.bind_eq_some_iff, Option.pure_def, Option.some.injEq] at hc
        obtain ⟨sz, hsz, x', hx, y', hy, rfl⟩ := hc
        rw [arg2 h1, m2]; simp only [builtin]
        exact only (s_copy h (at0 h2) hu hsz hx hy hv) rfl
      · cases hc
    · rename_i x u l h1 h2
      split at hc
      · rename_i e hu
        simp only [Option.bind_eq_bind, Option.bind_eq_some_iff, Option.pure_def, Option.some.injEq] at hc
        obtain ⟨sz, hsz, zs, hzs, x', hx, rfl⟩ := hc
        rw [arg1 h1, m1]; simp only [builtin]
        exact only (s_clear h (at0 h2) hu hsz hzs hx hv) rfl
      · cases hc
    · cases hc
  · cases hc
end
end Go.V

