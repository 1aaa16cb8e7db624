/- Part of the proof that the statement named in the last file holds: lemmas of the prover's own. No conditions. -/
import Derived.Test.YtmidamdjpabpbaaV10
import Derived.Laws.BytesArg
namespace Go.V
open Go

section
variable {P : Program} {ρ : Rho} {H : List SO} {g : Fr} {w : World} {K : SV → List SO → Prop} {t : List SV} {a : Act} {o : Oper}

/-! ### Slices' elements -/
def ElemsAt (w : World) (adr : Option Addr) (ys : List Value) : Prop :=
  (adr = none ∧ ys = []) ∨ ∃ b off, adr = some ⟨b, off, none⟩ ∧ ∀ (j : Nat) x, ys[j]? = some x → w.cell? ⟨b, off + j, none⟩ = some x
theorem slElems_spec (hS : St ρ H g w) {sz : Nat} {v : SV} {ys : List Value} {m : Nat} (h : slElems H sz v = some (ys, m)) :
    (∃ adr c, val ρ v = .slice adr m c ∧ ElemsAt w adr ys) ∨
    (∃ s : ByteArray, val ρ v = .string s ∧ m = s.size ∧ ys = s.data.toList.map fun b => .int .u8 b.toNat) := by
  have key : ∀ (k o n : Nat) xs e, (obj H k = .arr xs e ∨ obj H k = .ro xs e) → ElemsAt w ((ρ k).map fun b => ⟨b, o, none⟩) ((xs.drop o).take (n * sz)) := by
    intro k o n xs e hk
    rcases row_of hS hk with rfl | ⟨b, fr, hb, hh⟩
    · cases hr : ρ k with
      | none => exact .inl ⟨rfl, by simp⟩
      | some b => exact .inr ⟨b, o, rfl, fun j x hj => by simp at hj⟩
    · refine .inr ⟨b, o, by simp [hb], fun j x hj => ?_⟩
      rw [cell_of hh]
      have : j < n * sz := by
        have := (List.getElem?_eq_some_iff.1 hj).1; simp at this; omega
      rw [List.getElem?_take_of_lt this, List.getElem?_drop] at hj
      simpa using hj
  unfold slElems at h
  split at h
  · rename_i k o n c
    split at h
    · rename_i xs e hk; cases h; exact .inl ⟨_, c, rfl, key k o m xs e (.inl hk)⟩
    · rename_i xs e hk; cases h; exact .inl ⟨_, c, rfl, key k o m xs e (.inr hk)⟩
    · cases h
  · cases h
    exact .inl ⟨none, _, rfl, .inl ⟨rfl, rfl⟩⟩
  · cases h
    exact .inr ⟨_, rfl, rfl, rfl⟩
  · cases h

theorem s_conv_int (h : At P ρ H g w t a) {src dst : TypeId} {x : Operand} {y : Opd} {q k : IntKind} (h1 : P.underlying src = some (.int q)) (h2 : P.underlying dst = some (.int k)) (hx : cOpd x = some y) (hv : vcOp P (.conv (.int k) y) t H K) :
    GoodRes1 P ρ H K w ((do pure (Next.value (← convert src dst (a.eval x))) : Sem Next).run P w) := by
  simp only [vcOp, evK_eq] at hv
  rw [h.eq hx]
  generalize ev t y = v at *
  cases v <;> simp only [vcConv] at hv
  rename_i v
  cases v <;> simp only at hv
  rename_i k' n
  obtain ⟨m, hm, hk⟩ := hv
  refine GoodRes1.val (v := .int k m) ?_ (Here.here (sv := .raw (.int k m)) rfl hk)
  simp [V.val, convert, run_und h1, run_und h2, Conv.intToInt, hm]

theorem s_conv_same (h : At P ρ H g w t a) {src dst : TypeId} {x : Operand} {y : Opd} (h1 : P.underlying src = some .string) (h2 : P.underlying dst = some .string) (hx : cOpd x = some y) (hv : vcOp P (.conv .same y) t H K) :
    GoodRes1 P ρ H K w ((do pure (Next.value (← convert src dst (a.eval x))) : Sem Next).run P w) := by
  simp only [vcOp, evK_eq] at hv
  rw [h.eq hx]
  generalize ev t y = v at *
  cases v <;> simp only [vcConv] at hv
  rename_i v
  cases v <;> simp only at hv
  rename_i s
  refine GoodRes1.val (v := .string s) ?_ (Here.here (sv := .raw (.string s)) rfl hv)
  simp [V.val, convert, run_und h1, run_und h2]

theorem s_conv_s2b (h : At P ρ H g w t a) {src dst e : TypeId} {x : Operand} {y : Opd} (h1 : P.underlying src = some .string) (h2 : P.underlying dst = some (.slice e)) (h3 : P.underlying e = some (.int .u8)) (hx : cOpd x = some y) (hv : vcOp P (.conv (.s2b e) y) t H K) :
    GoodRes P ρ H g K ((do pure (Next.value (← convert src dst (a.eval x))) : Sem Next).run P w) := by
  simp only [vcOp, evK_eq] at hv
  rw [h.eq hx]
  generalize ev t y = v at *
  cases v <;> simp only [vcConv] at hv
  rename_i v
  cases v <;> simp only at hv
  rename_i s
  let cp := (Question.appendCap s.size 0 e).cut (w.tape w.drawn (.appendCap s.size 0 e))
  have hcp : s.size ≤ cp := by simp only [cp, Question.cut]; omega
  have hk := hv cp hcp
  rw [newHK_eq] at hk
  let xs : List Value := s.data.toList.map (fun b => Value.int .u8 b.toNat) ++ List.replicate (cp - s.size) (.int .u8 0)
  have hlen : xs.length = cp := by simp [xs]; omega
  let w1 : World := { { w with drawn := w.drawn + 1 } with heap := w.heap.push (.cells xs.toArray e (0, 0)) }
  let w2 : World := w1.freeze ⟨w.heap.size, cp, none⟩ 1
  have hw2 : w2.heap = w.heap.push (.cells xs.toArray e (cp, cp + 1)) := by
    simp only [w2, w1, World.freeze]
    apply Array.ext_getElem?
    intro j
    by_cases hj : w.heap.size = j
    · subst hj; simp [Array.getElem_modify]
    · simp only [Nat.one_ne_zero, if_false, Array.getElem?_modify, hj]
      simp [Array.getElem?_push, Ne.symm hj]
  refine GoodRes.val (v := .slice (some ⟨w.heap.size, 0, none⟩) s.size cp) (w' := w2) ?_ ?_
  · have hconv : (convert src dst (.string s)).run P w = (Conv.stringToBytes e s).run P w := by simp [convert, run_und h1, run_und h2, run_und h3]
    simp only [V.val]
    rw [hconv]
    have harr : Array.map (fun b : UInt8 => Value.int IntKind.u8 b.toNat) s.data ++ Array.replicate (cp - s.size) (Value.int IntKind.u8 0) = xs.toArray := by
      apply Array.ext'; simp [xs]
    simp only [Conv.stringToBytes, Sem.run_bind, run_choose, Question.forced, Bool.false_eq_true, if_false, Result.andThen_ok, newRow, run_newObj, Sem.run_pure]
    have harr' : Array.map (fun b : UInt8 => Value.int IntKind.u8 b.toNat) s.data ++ Array.replicate ((Question.appendCap s.size 0 e).cut (w.tape w.drawn (Question.appendCap s.size 0 e)) - s.size) (Value.int IntKind.u8 0) = xs.toArray := harr
    rw [harr']
    simp only [markStringish, Sem.run_bind, run_shape, Result.andThen_ok, World.shape?]
    simp [hlen, w2, w1, cp]
  · refine Res.alloc h.s (so := .arr xs e) (sv := .sl H.length 0 s.size cp) ⟨hw2, rfl, rfl, rfl, Nat.le_succ _⟩ rfl (.inr ⟨w.heap.size, (cp, cp + 1), upd_same _ _ _, heap_push_new hw2, .inr (by simp [hlen])⟩) (by simp) (by simp) (by simp [V.val, upd_same]) (by simp [below]) hk

theorem s_conv_b2s (h : At P ρ H g w t a) {src dst e : TypeId} {x : Operand} {y : Opd} (h1 : P.underlying src = some (.slice e)) (h2 : P.underlying dst = some .string) (h3 : P.underlying e = some (.int .u8)) (hx : cOpd x = some y) (hv : vcOp P (.conv .b2s y) t H K) :
    GoodRes1 P ρ H K w ((do pure (Next.value (← convert src dst (a.eval x))) : Sem Next).run P w) := by
  simp only [vcOp, evK_eq] at hv
  rw [h.eq hx]
  generalize ev t y = v at *
  unfold vcConv at hv
  split at hv
  case h_1 hcc => cases hcc
  case h_2 hcc => cases hcc
  case h_3 hcc => cases hcc
  case h_5 =>
    exact GoodRes1.val (by simp only [V.val]; exact run_convert_bytes_nil w src e h1 h3 0 _ dst h2) (Here.here (sv := .raw (.string ByteArray.empty)) rfl hv)
  case h_6 => exact hv.elim
  · rename_i k o n c
    obtain ⟨s, hs, hk⟩ := hv
    refine GoodRes1.val (v := .string s) ?_ (Here.here (sv := .raw (.string s)) rfl hk)
    rcases slElems_spec h.s hs with ⟨adr, cc, hv, hel⟩ | ⟨s', hv, _⟩
    · rw [hv]
      rcases hel with ⟨rfl, h0⟩ | ⟨b, off, rfl, hc⟩
      · have h0' : s.data.toList = [] := List.map_eq_nil_iff.1 h0
        have hse : s = ByteArray.empty := by
          obtain ⟨⟨l⟩⟩ := s
          simp at h0'; subst h0'; rfl
        rw [run_convert_bytes_nil w src e h1 h3 _ _ dst h2, hse]
      · have hr := run_convert_bytes_arg (P := P) w src e h1 h3 b off s.size cc (s.data.toList.map fun b => (b.toNat : Int)) (by simp) (fun i hi => by
          have hi' : i < s.data.toList.length := by simpa using hi
          have hi2 : i < s.data.size := by simpa using hi
          refine hc i _ ?_
          rw [List.getElem?_map, List.getElem?_eq_getElem hi']
          simp only [List.getD, List.getElem?_map, List.getElem?_eq_getElem hi', Option.map_some, Option.getD_some]) dst h2
        rw [hr]
        congr 2
        obtain ⟨⟨l⟩⟩ := s
        simp [strOfNums, Function.comp_def]
    · simp [V.val] at hv

/-! ### Composite values -/
theorem fold_get (off : Nat) : ∀ (ys : List Value) (k : Nat) (c : Array Value), off + k + ys.length ≤ c.size →
    ((ys.zipIdx k).foldl (fun c (x : Value × Nat) => c.setIfInBounds (off + x.2) x.1) c).size = c.size ∧
    ∀ j, ((ys.zipIdx k).foldl (fun c (x : Value × Nat) => c.setIfInBounds (off + x.2) x.1) c)[j]? = if off + k ≤ j ∧ j < off + k + ys.length then ys[j - (off + k)]? else c[j]?
  | [], k, c, _ => ⟨rfl, fun j => by rw [if_neg (by simp)]; rfl⟩
  | y :: ys, k, c, h => by
    simp only [List.length_cons] at h
    obtain ⟨h1, h2⟩ := fold_get off ys (k + 1) (c.setIfInBounds (off + k) y) (by rw [Array.size_setIfInBounds]; omega)
    simp only [List.zipIdx_cons, List.foldl_cons]
    refine ⟨by rw [h1, Array.size_setIfInBounds], fun j => ?_⟩
    rw [h2 j]
    by_cases e1 : j = off + k
    · subst e1
      rw [if_neg (by omega), if_pos ⟨Nat.le_refl _, by simp only [List.length_cons]; omega⟩]
      simp [show off + k < c.size by omega]
    · by_cases e2 : off + (k + 1) ≤ j ∧ j < off + (k + 1) + ys.length
      · rw [if_pos e2, if_pos ⟨by omega, by simp only [List.length_cons]; omega⟩]
        rw [show j - (off + k) = (j - (off + (k + 1))) + 1 by omega]; simp
      · rw [if_neg e2, if_neg (by simp only [List.length_cons]; omega)]
        rw [Array.getElem?_setIfInBounds_ne (by omega)]

theorem partCells_val {v : SV} {ys : List SV} (h : partCells v = some ys) : (V.val ρ v).cells.toList = valL ρ ys ∧ ∀ n, below n v = true → belowL n ys = true := by
  cases v
  case agg l =>
    simp only [partCells] at h
    cases h
    exact ⟨by simp [V.val, Value.cells], fun n hn => by simpa [below] using hn⟩
  case raw x =>
    cases x <;> simp [partCells, one] at h <;> subst h <;> exact ⟨by simp [V.val, Value.cells, valL], fun n hn => by simp [belowL, below]⟩
  all_goals
    simp [partCells, one] at h
  all_goals
    subst h
    exact ⟨by simp [V.val, Value.cells, valL], fun n hn => by simpa [belowL] using hn⟩

/-- The parts of the model's code and their twins. -/
def Par (place : Nat → Option (Nat × Nat)) : List (Nat × Operand) → List (Nat × Nat × Opd) → Prop
  | [], [] => True
  | (i, x) :: ps, (off, n, y) :: qs => place i = some (off, n) ∧ cOpd x = some y ∧ Par place ps qs
  | _, _ => False

theorem pasteK_sound (h : At P ρ H g w t a) {place : Nat → Option (Nat × Nat)} {Kl : List SV → Prop} : ∀ (ps : List (Nat × Operand)) (qs : List (Nat × Nat × Opd)) (l : List SV), belowL H.length l = true →
    Par place ps qs → pasteK t l qs Kl →
    ∃ l', Instr.fill place (valL ρ l).toArray (ps.map fun p => (p.1, a.eval p.2)) = some (valL ρ l').toArray ∧ belowL H.length l' = true ∧ Kl l'
  | [], [], l, hb, _, hk => ⟨l, rfl, hb, hk⟩
  | (i, x) :: ps, (off, n, y) :: qs, l, hb, ⟨hp, hx, hm⟩, hk => by
    simp only [pasteK, evK_eq] at hk
    split at hk
    · rename_i ys hys
      cases hn : ys.length == n with
      | false => simp [hn] at hk
      | true =>
        simp only [hn, cond_true] at hk
        split at hk
        · rename_i l1 hl1
          obtain ⟨c1, c2⟩ := partCells_val (ρ := ρ) hys
          obtain ⟨p1, p2, p3⟩ := paste_spec hl1
          have hyl : (valL ρ ys).length = ys.length := by rw [valL_eq]; simp
          have hll : (valL ρ l).length = l.length := by rw [valL_eq]; simp
          have hb1 : belowL H.length l1 = true := by
            rw [belowL_eq] at hb ⊢
            intro v hv
            rcases paste_mem hl1 v hv with h1 | h1
            · exact hb v h1
            · exact (belowL_eq _ _).1 (c2 _ (h.bel hx)) v h1
          obtain ⟨l', f1, f2, f3⟩ := pasteK_sound h ps qs l1 hb1 hm hk
          refine ⟨l', ?_, f2, f3⟩
          simp only [List.map_cons, Instr.fill, hp, h.eq hx]
          have hsz : (V.val ρ (ev t y)).cells.size = n := by
            rw [← Array.length_toList, c1, hyl]; simpa using hn
          have hn' : ys.length = n := by simpa using hn
          rw [if_neg (by
            simp only [hsz, List.size_toArray, hll]
            simp; omega)]
          have hfold := fold_get off (V.val ρ (ev t y)).cells.toList 0 (valL ρ l).toArray (by rw [c1, hyl, List.size_toArray, hll]; omega)
          have hfin : (V.val ρ (ev t y)).cells.zipIdx.foldl (fun cs (x : Value × Nat) => cs.setIfInBounds (off + x.2) x.1) (valL ρ l).toArray = (valL ρ l1).toArray := by
            rw [← Array.foldl_toList, Array.toList_zipIdx]
            apply Array.ext_getElem?
            intro j
            rw [hfold.2 j, c1]
            simp only [List.getElem?_toArray, valL_eq, List.getElem?_map, p3 j, List.length_map, Nat.add_zero]
            split <;> simp
          have := f1
          simp only [hfin]
          exact f1
        · exact hk.elim
    · exact hk.elim

theorem par_struct {fs : Array Field} : ∀ {l : List (Nat × Operand)} {qs : List (Nat × Nat × Opd)}, partsStruct P fs l = some qs → Par (fun i => (fs[i]?).bind fun f => (sizeT P f.type).map fun n => (f.offset, n)) l qs
  | [], qs, h => by simp [partsStruct] at h; subst h; trivial
  | (i, x) :: l, qs, h => by
    simp [partsStruct, List.mapM_cons, Option.bind_eq_some_iff] at h
    obtain ⟨_, _, _, ⟨f, hf, n, hn, y, hy, rfl, rfl, rfl⟩, qs', hq, rfl⟩ := h
    refine ⟨by simp [hf, hn], hy, par_struct (by simpa [partsStruct] using hq)⟩
theorem par_row {sz : Nat} : ∀ {l : List (Nat × Operand)} {qs : List (Nat × Nat × Opd)}, partsRow sz l = some qs → Par (fun i => some (i * sz, sz)) l qs
  | [], qs, h => by simp [partsRow] at h; subst h; trivial
  | (i, x) :: l, qs, h => by
    simp [partsRow, List.mapM_cons, Option.bind_eq_some_iff] at h
    obtain ⟨_, _, _, ⟨y, hy, rfl, rfl, rfl⟩, qs', hq, rfl⟩ := h
    exact ⟨rfl, hy, par_row (by simpa [partsRow] using hq)⟩
end
end Go.V
