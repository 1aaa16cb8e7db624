/- Part of the proof that the statement named in the last file holds: lemmas of the prover's own. No conditions. -/
import Derived.Test.YtmidamdjpabpbaaV13
import Derived.Laws.AppendOwn
namespace Go.V
open Go

section
variable {P : Program} {ρ : Rho} {H : List SO} {g : Fr} {w : World} {K : SV → List SO → Prop} {t : List SV} {a : Act} {o : Oper}

theorem run_typeInfo {t : TypeId} {i : TypeInfo} (h : P.info? t = some i) : (typeInfo t).run P w = .ok i w := by simp [typeInfo, h]

/-- 'append' where the second operand's elements are known. -/
theorem run_append_any {ts : Array TypeId} {st xt el ty : TypeId} {i : TypeInfo} {z : Value} (ht0 : ts[0]? = some st) (ht1 : ts[1]? = some xt) (hs : P.underlying st = some (.slice el)) {dx : TypeDesc} (hx : P.underlying xt = some dx) (hdx : ∀ k, dx ≠ .int k)
    (hi : P.info? el = some i) (hz : i.zero = some z) (base : Option Addr) (sLen sCap : Nat) (y : Value) (n : Nat) (news : List Value)
    (hlen : ∀ w', (Builtin.lenOf y).run P w' = .ok n w') (hfirst : ∀ w', w'.heap = w.heap → (Builtin.firstCells i.size n y).run P w' = .ok news.toArray w') :
    (sLen + n ≤ sCap → (Builtin.append_ ts ty #[.slice base sLen sCap, y]).run P w =
      (match base with | some b => (storeCells (b.add (sLen * i.size)) news).run P w | none => .ok () w).andThen fun _ w' => .ok (.slice base (sLen + n) sCap) w') ∧
    (sCap < sLen + n → (sLen + n) * i.bytes ≤ 1099511627776 → ((sLen + n : Nat) : Int) ≤ 9223372036854775807 → ∀ olds : List Value, (∀ w', w'.heap = w.heap → (Builtin.firstCells i.size sLen (.slice base sLen sCap)).run P w' = .ok olds.toArray w') →
      (Builtin.append_ ts ty #[.slice base sLen sCap, y]).run P w =
      .ok (.slice (some ⟨w.heap.size, 0, none⟩) (sLen + n) (grownCap w (sLen + n) sCap el)) (w.drew.alloc (.cells (olds.toArray ++ news.toArray ++ Builtin.zeroCells z.cells (grownCap w (sLen + n) sCap el - (sLen + n))) el))) := by
  have hsz : ∀ w', (sizeOf el).run P w' = .ok i.size w' := fun w' => by simp [sizeOf, typeInfo, hi]
  have hzero : ∀ w', (zeroValue el).run P w' = .ok z w' := fun w' => by simp [zeroValue, typeInfo, hi, hz]
  have a0 : (#[Value.slice base sLen sCap, y] : Array Value)[0]? = some (.slice base sLen sCap) := rfl
  have a1 : (#[Value.slice base sLen sCap, y] : Array Value)[1]? = some y := rfl
  constructor
  · intro hle
    simp only [Builtin.append_, ht0, ht1, a0, a1, Sem.run_bind, run_und hs, run_und hx, hsz, Result.andThen_ok, Sem.run_pure, hlen, hfirst w rfl, hle, if_true, Bool.false_eq_true, if_false, Bool.not_false]
    cases base <;> simp
  · intro hlt hb h63 olds hold
    have h1 : ¬ (sLen + n ≤ sCap) := by omega
    have h2 : ¬ (((sLen + n : Nat) : Int) > IntKind.i64.max) := by
      have e : IntKind.i64.max = 9223372036854775807 := by decide
      rw [e]; omega
    have h3 : ¬ (Builtin.nextslicecap (sLen + n) sCap * i.bytes > 2 ^ 48) := by
      have := growslice_fits (bytes := i.bytes) hlt (by omega); omega
    simp only [Builtin.append_, ht0, ht1, a0, a1, Sem.run_bind, run_und hs, run_und hx, hsz, hzero, Result.andThen_ok, Sem.run_pure, hlen, h1, if_false, Bool.false_eq_true, Bool.not_false, run_typeInfo hi, h2, false_and, h3, if_true, run_choose, Question.forced, run_askRoom, World.drew_eq, hfirst w.drew rfl, hold w.drew rfl, newRow, run_newObj, grownCap, World.alloc_eq]
    simp

/-! ### Append -/
theorem first_of {sz n : Nat} {adr : Option Addr} {ys : List Value} {l c : Nat} (h : ElemsAt w adr ys) (hl : ys.length = n * sz) (w' : World) (hw : w'.heap = w.heap) :
    (Builtin.firstCells sz n (.slice adr l c)).run P w' = .ok ys.toArray w' := by
  rcases h with ⟨rfl, rfl⟩ | ⟨b, off, rfl, hc⟩
  · simp [Builtin.firstCells]
  · refine run_firstCells_some w' sz n _ l c ys hl fun j v hj => ?_
    rw [add_eq]
    have := hc j v hj
    simpa [World.cell?, hw] using this
theorem elems_of (hS : St ρ H g w) {sz : Nat} {v : SV} {ys : List Value} {m : Nat} (h : slElems H sz v = some (ys, m)) (hl : ys.length = m * sz) :
    (∀ w', (Builtin.lenOf (V.val ρ v)).run P w' = .ok m w') ∧ ∀ w', w'.heap = w.heap → (Builtin.firstCells sz m (V.val ρ v)).run P w' = .ok ys.toArray w' := by
  rcases slElems_spec hS h with ⟨adr, c, hv, hel⟩ | ⟨s, hv, h1, h2⟩
  · rw [hv]; exact ⟨fun w' => by simp [Builtin.lenOf], fun w' hw => first_of hel hl w' hw⟩
  · rw [hv]; subst h1
    refine ⟨fun w' => by simp [Builtin.lenOf], fun w' _ => ?_⟩
    have e : s.extract 0 s.size = s := by
      apply ByteArray.ext
      rw [ByteArray.data_extract]
      simp
    rw [h2]
    simp only [Builtin.firstCells, e, Sem.run_pure]
    congr 1
    apply Array.toList_inj.1; simp

theorem cellsOK_spec : ∀ {l : List Value}, cellsOK l = true → ∀ v ∈ l, v.oneCell' = true
  | [], _ => by simp
  | x :: l, h => by
    intro v hv
    have h2 : x.oneCell' = true ∧ cellsOK l = true := by
      cases x <;> simp_all [cellsOK, Value.oneCell']
    rcases List.mem_cons.1 hv with rfl | hv
    · exact h2.1
    · exact cellsOK_spec h2.2 v hv

/-- An entry is given up. -/
theorem St.giveUp (h : St ρ H g w) (k : Nat) : St ρ (H.set k .gone) g w := by
  have hget : ∀ (j : Nat) s, (H.set k .gone)[j]? = some s → s = .gone ∨ H[j]? = some s := by
    intro j s hj
    by_cases hjk : k = j
    · subst hjk
      rw [List.getElem?_set_self'] at hj
      cases hH : H[k]? <;> simp [hH] at hj
      exact .inl hj.symm
    · rw [List.getElem?_set_ne hjk] at hj; exact .inr hj
  have hown : ∀ {s : SO}, s.owned = true → s ≠ .gone := by rintro _ h1 rfl; simp [SO.owned] at h1
  have hor : ∀ {s : SO}, s.owned = true ∨ s.isRo = true → s ≠ .gone := by rintro _ h1 rfl; simp [SO.owned, SO.isRo] at h1
  constructor
  · intro j s hj
    rcases hget j s hj with rfl | h1
    · trivial
    · exact h.ent j s h1
  · intro i j si sj b hij hi hj ho hoj hb
    exact h.dis i j si sj b hij ((hget i si hi).resolve_left (hown ho)) ((hget j sj hj).resolve_left (hor hoj)) ho hoj hb
  · intro i j si gh b hi ho hj hb
    exact h.gho i j si gh b ((hget i si hi).resolve_left (hown ho)) ho ((hget j _ hj).resolve_left (by simp)) hb
  · exact h.env
  · exact h.frm
  · intro i si b hi ho hb
    exact h.frd i si b ((hget i si hi).resolve_left (hown ho)) ho hb
  · intro j l e hj
    simpa using h.scp j l e ((hget j _ hj).resolve_left (by simp))
  · intro j m s seen st hj
    simpa using h.sci j m s seen st ((hget j _ hj).resolve_left (by simp))

/-- The row of a nil slice. -/
theorem St.nilRow (h : St ρ H g w) (e : TypeId) : St (upd ρ H.length none) (H ++ [.arr [] e]) g w := by
  have hget : ∀ (j : Nat) s, (H ++ [SO.arr [] e])[j]? = some s → (j < H.length ∧ H[j]? = some s) ∨ (j = H.length ∧ s = SO.arr [] e) := by
    intro j s hj
    rcases Nat.lt_trichotomy j H.length with h1 | h1 | h1
    · rw [List.getElem?_append_left h1] at hj; exact .inl ⟨h1, hj⟩
    · subst h1; rw [List.getElem?_append_right (by simp)] at hj; simp at hj; exact .inr ⟨rfl, hj.symm⟩
    · rw [List.getElem?_eq_none (by simp; omega)] at hj; cases hj
  constructor
  · intro j s hj
    rcases hget j s hj with ⟨h1, h2⟩ | ⟨rfl, rfl⟩
    · refine entryOK_congr h1 (h.ent j s h2) (fun i hi => upd_lt ρ _ hi) ?_ ?_ (fun b o _ hb _ _ => hb)
      · rintro l e rfl; exact h.scp j l e h2
      · rintro m s' seen st rfl; exact h.sci j m s' seen st h2
    · exact .inl ⟨upd_same _ _ _, rfl⟩
  · intro i j si sj b hij hi' hj' ho hoj hb
    rcases hget i si hi' with ⟨h1, h2⟩ | ⟨rfl, rfl⟩
    · rw [upd_lt ρ _ h1] at hb
      rcases hget j sj hj' with ⟨h3, h4⟩ | ⟨rfl, rfl⟩
      · rw [upd_lt ρ _ h3]; exact h.dis i j si sj b hij h2 h4 ho hoj hb
      · rw [upd_same]; simp
    · rw [upd_same] at hb; cases hb
  · intro i j si gh b hi' ho hj' hb
    rcases hget i si hi' with ⟨h1, h2⟩ | ⟨rfl, rfl⟩
    · rw [upd_lt ρ _ h1] at hb
      rcases hget j _ hj' with ⟨h3, h4⟩ | ⟨_, h4⟩
      · exact h.gho i j si gh b h2 ho h4 hb
      · cases h4
    · rw [upd_same] at hb; cases hb
  · exact h.env
  · exact h.frm
  · intro i si b hi' ho hb
    rcases hget i si hi' with ⟨h1, h2⟩ | ⟨rfl, rfl⟩
    · rw [upd_lt ρ _ h1] at hb; exact h.frd i si b h2 ho hb
    · rw [upd_same] at hb; cases hb
  · intro j l e2 hj
    rcases hget j _ hj with ⟨h1, h2⟩ | ⟨_, h2⟩
    · exact belowL_mono (by simp) l (h.scp j l e2 h2)
    · cases h2
  · intro j m s' seen st hj
    rcases hget j _ hj with ⟨h1, h2⟩ | ⟨_, h2⟩
    · have := h.sci j m s' seen st h2; simp; omega
    · cases h2

theorem zeroCells_size (z : Array Value) (n : Nat) : (Builtin.zeroCells z n).size = n * z.size := by simp [Builtin.zeroCells]

theorem s_append (h : At P ρ H g w t a) {e st xt ty : TypeId} {ts : Array TypeId} {sz by' : Nat} {zs : List Value} {lk : LK} {x y : Operand} {x' y' : Opd} (ht0 : ts[0]? = some st) (ht1 : ts[1]? = some xt) (hs : P.underlying st = some (.slice e)) (hk : lenKind P xt = some lk)
    (hsz : sizeT P e = some sz) (hby : bytesT P e = some by') (hzs : zeroCellsT P e = some zs) (h0 : sz ≠ 0) (hzl : zs.length = sz) (hb0 : by' ≠ 0) (hx : cOpd x = some x') (hy : cOpd y = some y') (hv : vcOp P (.append e sz by' zs x' y') t H K) :
    GoodRes P ρ H g K ((do pure (Next.value (← Builtin.append_ ts ty #[a.eval x, a.eval y])) : Sem Next).run P w) := by
  simp only [vcOp, evK_eq] at hv
  rw [h.eq hx, h.eq hy]
  have hbx := h.bel hx
  generalize ev t x' = u at *
  generalize ev t y' = v at *
  cases hi : P.info? e with
  | none => simp [sizeT, hi] at hsz
  | some i =>
  simp [sizeT, hi] at hsz
  simp [bytesT, hi] at hby
  simp [zeroCellsT, zeroT, hi] at hzs
  obtain ⟨z, hz, hzs⟩ := hzs
  obtain ⟨dx, hdx, hni⟩ : ∃ dx, P.underlying xt = some dx ∧ ∀ k, dx ≠ .int k := by
    unfold lenKind at hk
    cases hd : P.underlying xt with
    | none => simp [hd] at hk
    | some d => exact ⟨d, rfl, fun k e => by subst e; simp [hd] at hk⟩
  have hzz : z.cells.size = sz := by rw [← hzl, ← hzs]; simp
  unfold vcAppend at hv
  cases hel : slElems H sz v with
  | none => rw [hel] at hv; exact hv.elim
  | some q =>
  obtain ⟨ys, m⟩ := q
  rw [hel] at hv
  simp only at hv
  have grow : ∀ (base : Option Addr) (n c : Nat) (olds : List Value), V.val ρ u = .slice base n c → ElemsAt w base olds → olds.length = n * sz → ys.length = m * sz → (n + m) * by' ≤ 1099511627776 → c < n + m →
      (∀ (zs' : List Value) (c' : Nat), n + m ≤ c' → zs'.length = c' * sz → zs'.take ((n + m) * sz) = olds ++ ys → Res ρ H g K (.slice (some ⟨w.heap.size, 0, none⟩) (n + m) c') (w.drew.alloc (.cells zs'.toArray e))) →
      GoodRes P ρ H g K ((do pure (Next.value (← Builtin.append_ ts ty #[V.val ρ u, V.val ρ v])) : Sem Next).run P w) := by
    intro base n c olds e1 ho ho2 hl hb hc hres
    obtain ⟨l1, l2⟩ := elems_of (P := P) h.s hel hl
    have hnm : n + m ≤ (n + m) * by' := Nat.le_mul_of_pos_right _ (by omega)
    have := (run_append_any (P := P) (w := w) (ty := ty) ht0 ht1 hs hdx hni hi hz base n c (V.val ρ v) m ys l1 (by rw [hsz]; exact l2)).2 hc (by rw [hby]; exact hb) (by omega) olds (by rw [hsz]; exact fun w' hw => first_of ho ho2 w' hw)
    rw [e1]
    refine GoodRes.val this ?_
    have hge := grownCap_ge w (n + m) c e
    have key := hres (olds ++ ys ++ (Builtin.zeroCells z.cells (grownCap w (n + m) c e - (n + m))).toList) (grownCap w (n + m) c e) hge ?_ ?_
    · have e5 : (olds ++ ys ++ (Builtin.zeroCells z.cells (grownCap w (n + m) c e - (n + m))).toList).toArray = olds.toArray ++ ys.toArray ++ Builtin.zeroCells z.cells (grownCap w (n + m) c e - (n + m)) := by simp
      rw [e5] at key; exact key
    · simp only [List.length_append, Array.length_toList, zeroCells_size, hzz, ho2, hl]
      rw [← Nat.add_mul, ← Nat.add_mul]; congr 1; omega
    · rw [List.take_append_of_le_length (by simp [ho2, hl, Nat.add_mul])]
      exact List.take_of_length_le (by simp [ho2, hl, Nat.add_mul])
  have fresh : ∀ (H1 : List SO) (ρ1 : Rho), St ρ1 H1 g w → H1.length = H.length → (∀ k, k < H.length → ρ1 k = ρ k) → ∀ (zs' : List Value) (n c' : Nat), K (.sl H.length 0 n c') (H1 ++ [.arr zs' e]) →
      Res ρ H g K (.slice (some ⟨w.heap.size, 0, none⟩) n c') (w.drew.alloc (.cells zs'.toArray e)) := by
    intro H1 ρ1 hS1 hl1 hr1 zs' n c' hK
    have := Res.alloc (K := K) (v := .slice (some ⟨w.heap.size, 0, none⟩) n c') (w' := w.drew.alloc (.cells zs'.toArray e)) (hS1.heap (w' := w.drew) ⟨rfl, rfl, rfl, rfl, Nat.le_succ _⟩) (so := .arr zs' e) (o := .cells zs'.toArray e) (sv := .sl H1.length 0 n c') ⟨rfl, rfl, rfl, rfl, Nat.le_refl _⟩ rfl
      (.inr ⟨w.heap.size, (0, 0), by rw [upd_same]; rfl, heap_push_new (w := w.drew) rfl, .inl rfl⟩) (by simp) (by simp) (by simp [V.val, upd_same]) (by simp [below]) (by rw [hl1]; exact hK)
    obtain ⟨ρ', sv, H', a1, a2, a3, a4, a5, a6⟩ := this
    exact ⟨ρ', sv, H', a1, a2, fun k hk => (a3 k (by omega)).trans (hr1 k hk), by omega, a5, a6⟩
  split at hv
  · rename_i k off n c
    rw [objK_eq] at hv
    cases hobj : obj H k <;> rw [hobj] at hv <;> try exact hv.elim
    rename_i xs e'
    obtain ⟨⟨⟨hnc, hlen, rfl⟩, ⟨hyl, hy1⟩, hbd⟩, hv⟩ := hv
    have hk' : H[k]? = some (.arr xs e') := by rw [← hobj]; exact obj_some (by simp [hobj])
    have hkl : k < H.length := (List.getElem?_eq_some_iff.1 hk').1
    have helx : slElems H sz (.sl k off n c) = some ((xs.drop off).take (n * sz), n) := by simp [slElems, hobj]
    have hnl : n * sz ≤ c * sz := Nat.mul_le_mul_right _ hnc
    have hlx : ((xs.drop off).take (n * sz)).length = n * sz := by simp; omega
    have hEl : ElemsAt w ((ρ k).map fun b => ⟨b, off, none⟩) ((xs.drop off).take (n * sz)) := by
      rcases slElems_spec h.s helx with ⟨adr, cc, hv, hel⟩ | ⟨s, hv, _⟩
      · simp only [V.val] at hv; cases hv; exact hel
      · simp [V.val] at hv
    simp only [setHK_eq, newHK_eq, List.length_set] at hv
    by_cases hfit : n + m ≤ c
    · -- in place
      obtain ⟨l1, l2⟩ := elems_of (P := P) h.s hel hyl
      have hrun := (run_append_any (P := P) (w := w) (ty := ty) ht0 ht1 hs hdx hni hi hz ((ρ k).map fun b => ⟨b, off, none⟩) n c (V.val ρ v) m ys l1 (by rw [hsz]; exact l2)).1 hfit
      have hent := h.s.ent k _ hk'
      rcases hent with ⟨hr0, hx0⟩ | ⟨b, fr, hb, hh, hfr⟩
      · have hc0 : c * sz = 0 := by rw [hx0] at hlen; simp at hlen; omega
        have hm0 : m = 0 := by rcases Nat.mul_eq_zero.1 hc0 with h1 | h1 <;> omega
        have hn0 : n = 0 := by rcases Nat.mul_eq_zero.1 hc0 with h1 | h1 <;> omega
        have hy0 : ys = [] := by rw [hm0] at hyl; simpa using hyl
        subst hx0
        have := hv [] off c ⟨hfit, hlen, by subst hm0; simp [hy0, hn0]⟩
        simp only [hr0, Option.map_none, Result.andThen_ok] at hrun
        refine GoodRes.val (w' := w) (v := .slice none (n + m) c) (by simp only [V.val, hr0, Option.map_none]; exact hrun) ?_
        refine ⟨upd ρ H.length none, .sl H.length off (n + m) c, H.set k .gone ++ [.arr [] e'], ?_, ?_, fun j hj => upd_lt ρ _ hj, by simp, by simp [below], this⟩
        · simp [V.val, upd_same]
        · have := (h.s.giveUp k).nilRow e'
          simpa using this
      · have hnms : (n + m) * sz ≤ c * sz := Nat.mul_le_mul_right _ hfit
        rw [Nat.add_mul] at hnms
        obtain ⟨w', c', r1, r2, r3, r4⟩ := run_storeCells (P := P) (o := off + n * sz) ys 0 xs.toArray w hh (cellsOK_spec hy1) (by simp; omega) (by simpa using hfr)
        simp only [hb, Option.map_some, add_eq, hsz, r1, Result.andThen_ok] at hrun
        have hl' : c'.toList.length = xs.length := by simpa using r3
        have hcell : (c'.toList.drop off).take ((n + m) * sz) = (xs.drop off).take (n * sz) ++ ys := by
          apply List.ext_getElem?
          intro j
          rw [Nat.add_mul]
          by_cases j1 : j < n * sz
          · rw [List.getElem?_take_of_lt (by omega), List.getElem?_drop, List.getElem?_append_left (by omega), List.getElem?_take_of_lt j1, List.getElem?_drop]
            have := r4 (off + j)
            rw [if_neg (by omega)] at this
            simpa using this
          · rw [List.getElem?_append_right (by omega), hlx]
            by_cases j2 : j < n * sz + m * sz
            · rw [List.getElem?_take_of_lt (by omega), List.getElem?_drop]
              have := r4 (off + j)
              rw [if_pos (by omega)] at this
              rw [show off + j - (off + n * sz + 0) = j - n * sz by omega] at this
              simpa using this
            · rw [List.getElem?_eq_none (by simp; omega), List.getElem?_eq_none (by omega)]
        have := hv c'.toList off c ⟨hfit, by omega, hcell⟩
        refine GoodRes.val (w' := w') (v := .slice (some ⟨b, off, none⟩) (n + m) c) (by simp only [V.val, hb, Option.map_some]; exact hrun) ?_
        have hlt := (Array.getElem?_eq_some_iff.1 hh).1
        have hS1 : St ρ (H.set k (.arr c'.toList e')) g w' := h.s.set hk' rfl rfl hb r2 (.inr ⟨b, fr, hb, by rw [r2.1]; simp [hlt], hfr.imp id (by omega)⟩) (by simp) (by simp)
        have hS2 := hS1.move (k := k) (so := .arr c'.toList e') (by simp [hkl]) rfl
        refine ⟨upd ρ H.length (ρ k), .sl H.length off (n + m) c, H.set k .gone ++ [.arr c'.toList e'], by simp [V.val, upd_same, hb], ?_, fun j hj => upd_lt ρ _ hj, by simp, by simp [below], this⟩
        simpa using hS2
    · exact grow ((ρ k).map fun b => ⟨b, off, none⟩) n c _ rfl hEl hlx hyl hbd (by omega) fun zs' c' q1 q2 q3 => by
        have := hv zs' 0 c' ⟨q1, by omega, by simpa using q3⟩
        exact fresh _ ρ (h.s.giveUp k) (by simp) (fun _ _ => rfl) zs' (n + m) c' this
  · obtain ⟨⟨hyl, hbd⟩, hv⟩ := hv
    simp only [newHK_eq] at hv
    by_cases hm : m = 0
    · subst hm
      obtain ⟨l1, l2⟩ := elems_of (P := P) h.s hel hyl
      have hrun := (run_append_any (P := P) (w := w) (ty := ty) ht0 ht1 hs hdx hni hi hz none 0 0 (V.val ρ v) 0 ys l1 (by rw [hsz]; exact l2)).1 (by omega)
      have := hv [] 0 ⟨by omega, by simp, by simp at hyl; simp [hyl]⟩
      refine GoodRes.val (w' := w) (v := .slice none 0 0) (by simpa [V.val] using hrun) ?_
      exact ⟨upd ρ H.length none, .sl H.length 0 0 0, H ++ [.arr [] e], by simp [V.val, upd_same], h.s.nilRow e, fun j hj => upd_lt ρ _ hj, by simp, by simp [below], this⟩
    · refine grow none 0 0 [] rfl (.inl ⟨rfl, rfl⟩) (by simp) hyl (by simpa using hbd) (by omega) fun zs' c' q1 q2 q3 => ?_
      have := hv zs' c' ⟨by omega, by omega, by simpa using q3⟩
      exact fresh H ρ h.s rfl (fun _ _ => rfl) zs' (0 + m) c' (by simpa using this)
  · exact hv.elim
end
end Go.V
