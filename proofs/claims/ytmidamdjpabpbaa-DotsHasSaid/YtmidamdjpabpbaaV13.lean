/- Part of the proof that the statement named in the last file holds: lemmas of the prover's own. No conditions. -/
import Derived.Test.YtmidamdjpabpbaaV12
import Derived.Maps.RangeRun
namespace Go.V
open Go

section
variable {P : Program} {ρ : Rho} {H : List SO} {g : Fr} {w : World} {K : SV → List SO → Prop} {t : List SV} {a : Act} {o : Oper}

theorem s_slice_sl (h : At P ρ H g w t a) {ty el : TypeId} {z : Nat} {x : Operand} {lo hi : Option Operand} {x' : Opd} {lo' hi' : Option Opd} (hu : P.underlying ty = some (.slice el)) (hsz : sizeT P el = some z) (hx : cOpd x = some x') (hl : lo.mapM cOpd = some lo') (hh : hi.mapM cOpd = some hi') (hv : vcOp P (.slice (some z) x' lo' hi') t H K) :
    GoodRes1 P ρ H K w ((do pure (Next.value (← Instr.sliceAt ty (a.eval x) (lo.map a.eval) (hi.map a.eval) none)) : Sem Next).run P w) := by
  simp only [vcOp, evK_eq, optK_eq] at hv
  have hb := h.bel hx
  have el' : lo.map a.eval = lo'.map (fun y => V.val ρ (ev t y)) := by
    cases lo <;> simp at hl <;> first | (subst hl; rfl) | (obtain ⟨y, hy, rfl⟩ := hl; simp [h.eq hy])
  have eh : hi.map a.eval = hi'.map (fun y => V.val ρ (ev t y)) := by
    cases hi <;> simp at hh <;> first | (subst hh; rfl) | (obtain ⟨y, hy, rfl⟩ := hh; simp [h.eq hy])
  rw [h.eq hx]
  generalize lo.map a.eval = L at *
  generalize hi.map a.eval = R at *
  have hat : ∀ v lo hi, (Instr.sliceAt ty v lo hi none).run P w = (Instr.slice ty v lo hi none).run P w := by intro v lo hi; simp [Instr.sliceAt, run_und hu]
  have he : P.elem ty = el := by simp [Program.elem, hu]
  have hu' : P.underlying ty = some (.slice (P.elem ty)) := by rw [he]; exact hu
  have hsz' : (sizeOf (P.elem ty)).run P w = .ok z w := by rw [he]; exact run_size hsz
  unfold vcSlice at hv
  split at hv
  · rename_i hz _; cases hz
  · rename_i z' k o n c hz e0
    cases hz
    rw [e0] at hb ⊢
    simp only [below] at hb
    have slc : ∀ (l h' : Nat) (m : Nat), m = c → sliced ((ρ k).map fun b => ⟨b, o, none⟩) l h' m z = V.val ρ (.sl k (if c = l then o else o + l * z) (h' - l) (c - l)) := by
      intro l h' m hm
      subst hm
      simp only [sliced, V.val]
      by_cases hml : m = l
      · simp [hml]
      · simp only [hml, if_false]
        cases ρ k <;> simp [add_eq]
    have fin : ∀ sv, (Instr.slice ty (V.val ρ (.sl k o n c)) L R none).run P w = .ok (V.val ρ sv) w → below H.length sv = true → K sv H →
        GoodRes1 P ρ H K w ((do pure (Next.value (← Instr.sliceAt ty (V.val ρ (.sl k o n c)) L R none)) : Sem Next).run P w) :=
      fun sv h1 h2 h3 => GoodRes1.val (by rw [hat]; exact h1) (Here.here h2 h3)
    split at hv
    · rename_i h1 h2
      simp only [Option.map_eq_none_iff] at h1 h2
      subst h1 h2; subst el' eh
      refine fin (.sl k o n c) ?_ (by simpa [below] using hb) (by rw [e0] at hv; exact hv)
      simp only [V.val, Option.map_none]
      rw [run_slice_all w ty _ n c hu', hsz']
      simp only [Result.andThen_ok]
      rw [slc 0 n c rfl]
      simp only [V.val, Nat.zero_mul, Nat.add_zero, Nat.sub_zero, ite_self]
    · rename_i kk i h1 h2
      simp only [Option.map_eq_none_iff, Option.map_eq_some_iff] at h1 h2
      obtain ⟨y, rfl, hy⟩ := h1
      subst h2; subst el' eh
      obtain ⟨⟨r1, r2⟩, o', rfl, hk⟩ := hv
      refine fin _ ?_ (by simpa [below] using hb) hk
      rw [← slc i.toNat n c rfl]
      simp only [V.val, Option.map_none, Option.map_some, hy]
      rw [run_slice_l w ty _ n c hu' kk i r1 r2, hsz']; rfl
    · rename_i kk i h1 h2
      simp only [Option.map_eq_none_iff, Option.map_eq_some_iff] at h1 h2
      obtain ⟨y, rfl, hy⟩ := h2
      subst h1; subst el' eh
      obtain ⟨⟨r1, r2⟩, hk⟩ := hv
      refine fin _ ?_ (by simpa [below] using hb) hk
      have := slc 0 i.toNat c rfl
      simp only [Nat.zero_mul, Nat.add_zero, Nat.sub_zero, ite_self] at this
      rw [← this]
      simp only [V.val, Option.map_none, Option.map_some, hy]
      rw [run_slice_h w ty _ n c hu' kk i r1 r2, hsz']; rfl
    · rename_i kk i kk' i' h1 h2
      simp only [Option.map_eq_some_iff] at h1 h2
      obtain ⟨y, rfl, hy⟩ := h1
      obtain ⟨y', rfl, hy'⟩ := h2
      subst el' eh
      obtain ⟨⟨r0, r1, r2⟩, o', rfl, hk⟩ := hv
      refine fin _ ?_ (by simpa [below] using hb) hk
      rw [← slc i.toNat i'.toNat c rfl]
      simp only [V.val, Option.map_some, hy, hy']
      rw [run_slice_lh w ty _ n c hu' kk kk' i i' r0 r1 r2, hsz']; rfl
    · exact hv.elim
  · exact hv.elim

theorem s_tassert (h : At P ρ H g w t a) {xT ty : TypeId} {x : Operand} {y : Opd} {ok : Bool} {z : Value} {d : TypeDesc} (hu : P.underlying ty = some d) (hd : ∀ ms, d ≠ .interface ms) (hz : zeroT P ty = some z) (hx : cOpd x = some y) (hv : vcOp P (.tassert ty ok z y) t H K) :
    GoodRes1 P ρ H K w ((do pure (Next.value (← Instr.typeAssert (a.eval x) xT ty ok)) : Sem Next).run P w) := by
  simp only [vcOp, evK_eq] at hv
  have hb := h.bel hx
  rw [h.eq hx]
  have fails : ∀ v : Value, (∀ m, (Instr.typeAssert v xT ty true).run P w = .ok (.tuple #[z, .bool false]) m ∨ True) → True := fun _ _ => trivial
  unfold vcTassert at hv
  split at hv
  · rename_i u v e
    rw [e] at hb ⊢
    simp only [below] at hb
    cases hut : u == ty with
    | true =>
      have hut' : u = ty := by simpa using hut
      subst hut'
      simp only [beq_self_eq_true, cond_true] at hv
      cases ok with
      | true =>
        refine GoodRes1.val ?_ (Here.here (sv := .tup [v, .kb true]) (by simp [below, belowL, hb]) hv)
        cases d <;> first | (exact absurd rfl (hd _)) | simp [V.val, valL, Instr.typeAssert, run_und hu]
      | false =>
        refine GoodRes1.val ?_ (Here.here hb hv)
        cases d <;> first | (exact absurd rfl (hd _)) | simp [V.val, Instr.typeAssert, run_und hu]
    | false =>
      have hut' : u ≠ ty := by simpa using hut
      simp only [hut, cond_false] at hv
      cases ok with
      | true =>
        simp only [cond_true] at hv
        refine GoodRes1.val ?_ (Here.here (sv := .tup [svConst z, .kb false]) (by simp [below, belowL, below_svConst]) hv)
        cases d <;> first | (exact absurd rfl (hd _)) | simp [V.val, valL, val_svConst, Instr.typeAssert, run_und hu, hut', run_zero hz]
      | false => exact hv.elim
  · rename_i e
    rw [e]
    cases ok with
    | true =>
      simp only [cond_true] at hv
      refine GoodRes1.val ?_ (Here.here (sv := .tup [svConst z, .kb false]) (by simp [below, belowL, below_svConst]) hv)
      cases d <;> first | (exact absurd rfl (hd _)) | simp [V.val, valL, val_svConst, Instr.typeAssert, run_und hu, run_zero hz]
    | false => exact hv.elim
  · exact hv.elim

theorem s_range (h : At P ρ H g w t a) {ty k e : TypeId} {x : Operand} {y : Opd} (hu : P.underlying ty = some (.map k e)) (hx : cOpd x = some y) (hv : vcOp P (.range false y) t H K) :
    GoodRes P ρ H g K ((do pure (Next.value (← Instr.range ty (a.eval x))) : Sem Next).run P w) := by
  simp only [vcOp, evK_eq] at hv
  have hb := h.bel hx
  rw [h.eq hx]
  split at hv
  · rename_i j e0
    rw [e0] at hb ⊢
    simp only [below, decide_eq_true_eq] at hb
    rw [objK_eq] at hv
    split at hv
    · rename_i es c hk
      rw [newHK_eq] at hv
      obtain ⟨_, b, hb', hh⟩ := map_of h.s hk
      refine GoodRes.val (v := .pointer (some ⟨w.heap.size, 0, none⟩)) (w' := w.alloc (.mapIter (some b) c #[] c)) ?_ ?_
      · simp [V.val, hb', Instr.range, run_und hu, getObj, Sem.run, hh]
      · refine Res.alloc h.s (so := .iter (some j) c [] c) (sv := .ptr H.length 0) ⟨rfl, rfl, rfl, rfl, Nat.le_refl _⟩ rfl ⟨w.heap.size, upd_same _ _ _, ?_⟩ (by simp) ?_ (by simp [V.val, upd_same]) (by simp [below]) hv
        · rw [heap_push_new rfl]; simp [upd_lt ρ _ hb, hb']
        · intro m s seen st he; cases he; exact hb
    · exact hv.elim
  · rename_i e0
    rw [e0]
    rw [newHK_eq] at hv
    refine GoodRes.val (v := .pointer (some ⟨w.heap.size, 0, none⟩)) (w' := w.alloc (.mapIter none 0 #[] 0)) ?_ ?_
    · simp [V.val, Instr.range, run_und hu]
    · exact Res.alloc h.s (so := .iter none 0 [] 0) (sv := .ptr H.length 0) ⟨rfl, rfl, rfl, rfl, Nat.le_refl _⟩ rfl ⟨w.heap.size, upd_same _ _ _, by rw [heap_push_new rfl]; rfl⟩ (by simp) (by simp) (by simp [V.val, upd_same]) (by simp [below]) hv
  · exact hv.elim

theorem iter_of (hS : St ρ H g w) {n : Nat} {m : Option Nat} {s : Nat} {seen : List Nat} {st : Nat} (hk : obj H n = .iter m s seen st) :
    H[n]? = some (.iter m s seen st) ∧ ∃ b, ρ n = some b ∧ w.heap[b]? = some (.mapIter (m.bind ρ) s seen.toArray st) := by
  have hk' : H[n]? = some (.iter m s seen st) := by rw [← hk]; exact obj_some (by simp [hk])
  exact ⟨hk', hS.ent n _ hk'⟩

theorem s_next (h : At P ρ H g w t a) {ty : TypeId} {x : Operand} {y : Opd} (hx : cOpd x = some y) (hv : vcOp P (.next false y) t H K) :
    GoodRes P ρ H g K ((do pure (Next.value (← Instr.next (a.eval x) false ty)) : Sem Next).run P w) := by
  simp only [vcOp, evK_eq] at hv
  have hb := h.bel hx
  rw [h.eq hx]
  unfold vcNext at hv
  split at hv
  · rename_i n e0
    rw [e0]
    rw [objK_eq] at hv
    split at hv
    · rename_i s seen st hk
      obtain ⟨_, b, hb', hh⟩ := iter_of h.s hk
      refine GoodRes.val (w' := w) (v := .tuple #[.bool false]) ?_ ?_
      · simp [V.val, hb', Instr.next, getObj, Sem.run, hh]
      · simpa [V.val, valL] using Res.here (K := K) h.s (sv := .tup [.kb false]) rfl hv
    · rename_i j since seen last hk
      obtain ⟨hk1, b, hb', hh⟩ := iter_of h.s hk
      rw [objK_eq] at hv
      split at hv
      · rename_i es c hkm
        obtain ⟨hkm1, bm, hbm, hhm⟩ := map_of h.s hkm
        obtain ⟨⟨c1, c2⟩, h1, h2⟩ := hv
        simp only [Option.bind_some, hbm] at hh
        simp only [V.val, hb', Option.getD_some]
        rcases run_next_at (P := P) w ty b bm since last seen.toArray es.toArray c hh hhm (by simpa using c1) c2 with ⟨z1, z2⟩ | ⟨e, z1, w1, z2, z3⟩
        · refine GoodRes.val z2 ?_
          have hall : ∀ e ∈ es, e.born ∈ seen := by
            intro e he
            rcases Classical.em (e.born ∈ seen) with h3 | h3
            · exact h3
            · exfalso
              have : e ∈ (leftOf es.toArray seen.toArray) := by
                simp [leftOf, he, h3]
              rw [Array.eq_empty_of_size_eq_zero z1] at this
              simp at this
          simpa [V.val, valL] using Res.here (K := K) h.s (sv := .tup [.kb false]) rfl (h1 hall)
        · have hmem : e ∈ es ∧ e.born ∉ seen := by
            have := Array.mem_toList_iff.1 z1
            simp [leftOf] at this
            exact this
          refine GoodRes.val z3 ?_
          have hk2 := h2 e hmem.1 hmem.2
          rw [setHK_eq] at hk2
          have hlt := (Array.getElem?_eq_some_iff.1 hh).1
          have hheap : (Go.ChangeMaps.setBlock w1 b (.mapIter (some bm) since (seen.toArray.push e.born) c)).heap = w.heap.setIfInBounds b (.mapIter (some bm) since (seen ++ [e.born]).toArray c) := by
            have e1 : w1.heap = w.heap := by rcases z2 with rfl | rfl <;> rfl
            simp [Go.ChangeMaps.setBlock, e1]
          refine ⟨ρ, .tup [.kb true, svConst e.key, svConst e.val], _, by simp [V.val, valL, val_svConst], ?_, fun _ _ => rfl, by simp, by simp [below, belowL, below_svConst], hk2⟩
          have henv : w1.os = w.os ∧ w1.tape = w.tape ∧ w1.output = w.output ∧ w.drawn ≤ w1.drawn := by rcases z2 with rfl | rfl <;> exact ⟨rfl, rfl, rfl, by first | exact Nat.le_refl _ | exact Nat.le_succ _⟩
          refine h.s.set hk1 rfl rfl hb' ⟨hheap, henv.1, henv.2.1, henv.2.2⟩ ⟨b, hb', ?_⟩ (by simp) ?_
          · rw [hheap]; simp [hlt, hbm]
          · intro m s seen' st he; cases he; exact h.s.sci n _ _ _ _ hk1
      · exact hv.elim
    · exact hv.elim
  · exact hv.elim

theorem s_entry (h : At P ρ H g w t a) {x : Operand} {y : Opd} (hx : cOpd x = some y) (hv : vcOp P (.entry y) t H K) :
    GoodRes1 P ρ H K w ((do pure (Next.value (← Instr.entry (a.eval x))) : Sem Next).run P w) := by
  simp only [vcOp, evK_eq] at hv
  rw [h.eq hx]
  unfold vcEntry at hv
  split at hv
  · rename_i n e0
    rw [e0]
    rw [objK_eq] at hv
    split at hv
    · rename_i j since seen st hk
      obtain ⟨hk1, b, hb', hh⟩ := iter_of h.s hk
      rw [objK_eq] at hv
      split at hv
      · rename_i es c hkm
        obtain ⟨hkm1, bm, hbm, hhm⟩ := map_of h.s hkm
        obtain ⟨s, e, h1, h2, h3, h4⟩ := hv
        simp only [Option.bind_some, hbm] at hh
        have hback : seen.toArray.back? = some s := by rw [Array.back?_eq_getElem?]; rw [List.getLast?_eq_getElem?] at h1; simpa using h1
        have hfind : es.toArray.find? (·.born == s) = some e := by simpa using h2
        refine GoodRes1.val (v := .tuple #[e.key, e.val]) ?_ (by simpa [V.val, valL, val_svConst] using Here.here (ρ := ρ) (K := K) (sv := .tup [svConst e.key, svConst e.val]) (by simp [below, belowL, below_svConst]) h4)
        subst h3
        simp [V.val, hb', Instr.entry, getObj, Sem.run, hh, hhm, hback, hfind]
      · exact hv.elim
    · exact hv.elim
  · exact hv.elim
end
end Go.V
