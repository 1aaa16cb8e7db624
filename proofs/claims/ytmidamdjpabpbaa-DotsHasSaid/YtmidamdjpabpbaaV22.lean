/- Part of the proof that the statement named in the last file holds: lemmas of the prover's own. No conditions. -/
import Derived.Test.YtmidamdjpabpbaaV21
namespace Go.V
open Go

/-! ### Keys -/
section
variable {P : Program}

theorem run_check (em : Bool) (e : Nat) : ∀ (d : Nat) (t : TypeId) (cl : List FC), clsT P d t = some cl → ∀ (xs : List Value), xs.length = cl.length → ∀ (w : World),
    (Instr.checkKey em (d + e) t (mkV P t xs)).run P w = .ok () w
  | 0, _, _, h, _, _, _ => by simp [clsT] at h
  | d + 1, t, cl, h, xs, hl, w => by
    have ih := run_check em e d
    rw [show d + 1 + e = (d + e) + 1 by omega]
    unfold clsT at h
    cases hu : P.underlying t with
    | none => simp [hu] at h
    | some k =>
      cases k <;> simp only [hu] at h <;> try (cases h; done)
      case bool => simp [Instr.checkKey, run_und hu]
      case int q => simp [Instr.checkKey, run_und hu]
      case string => simp [Instr.checkKey, run_und hu]
      case array n el =>
        split at h
        · rename_i c sz h1 h2
          split at h
          · rename_i h3
            cases h
            obtain ⟨bb, g1, g2⟩ := cls_isAgg h1
            have hsz : bb = false → sz = 1 := fun h => by obtain ⟨c, rfl⟩ := g2 h; simpa using h3.symm
            have hll : xs.length = n * sz := by rw [hl]; simp [h3]
            have hm : mkV P t xs = .agg xs.toArray := mkV_agg (by simp [isAggT, hu]) xs
            rw [hm, Instr.checkKey]
            simp only [Sem.run_bind, run_und hu, Result.andThen_ok]
            simp only [Std.Legacy.Range.forIn_eq_forIn_range', Std.Legacy.Range.size, Nat.sub_zero, Nat.add_one_sub_one, Nat.div_one]
            have each : ∀ j ∈ List.range' 0 n, (j + 1) * sz ≤ xs.length := by
              intro j hj
              rw [List.mem_range'_1] at hj
              rw [hll]; exact Nat.mul_le_mul_right _ (by omega)
            clear hll hl
            generalize List.range' 0 n = is at each
            induction is with
            | nil => simp
            | cons j is ihl =>
              have hj := each j (by simp)
              rw [Nat.add_mul, Nat.one_mul] at hj
              have hp := run_part (P := P) (w := w) (off := j * sz) (cs := xs.toArray) g1 h2 hsz (fun _ => by rw [List.size_toArray]; exact hj)
              simp only [List.forIn_cons, Sem.run_bind, run_size h2, Result.andThen_ok, hp]
              rw [ih el c h1 _ (by simp; omega)]
              simp only [Result.andThen_ok, Sem.run_pure]
              exact ihl (fun y hy => each y (by simp [hy]))
          · cases h
        · cases h
      case struct fs =>
        split at h
        · cases h
        · have hm : mkV P t xs = .agg xs.toArray := mkV_agg (by simp [isAggT, hu]) xs
          rw [hm, Instr.checkKey]
          simp only [Sem.run_bind, run_und hu, Result.andThen_ok]
          rw [← Array.forIn_toList]
          have key : ∀ (L : List Field) (off : Nat) (cl : List FC), fieldsCls P (clsT P d) off L = some cl → off + cl.length ≤ xs.length →
              (forIn L PUnit.unit fun f r => (do
                if f.name ≠ "_" then
                  let v ← part f.type xs.toArray f.offset
                  Instr.checkKey em (d + e) f.type v
                  pure (ForInStep.yield PUnit.unit)
                else pure (ForInStep.yield PUnit.unit) : Sem (ForInStep PUnit))).run P w = .ok PUnit.unit w := by
            intro L
            induction L with
            | nil => intro off cl _ _; simp
            | cons f L ihl =>
              intro off cl hf hlen
              unfold fieldsCls at hf
              split at hf
              · rename_i cf sz h1 h2
                split at hf
                · rename_i h3
                  obtain ⟨h4, h5, h6⟩ := h3
                  split at hf
                  · rename_i cr h7
                    cases hf
                    obtain ⟨bb, g1, g2⟩ := cls_isAgg h1
                    have hsz : bb = false → sz = 1 := fun h => by obtain ⟨c, rfl⟩ := g2 h; simpa using h6.symm
                    subst h5
                    simp only [List.length_append] at hlen
                    have hp := run_part (P := P) (w := w) (off := f.offset) (cs := xs.toArray) g1 h2 hsz (fun _ => by rw [List.size_toArray]; omega)
                    simp only [List.forIn_cons, h4, ne_eq, not_false_eq_true, if_true, Sem.run_bind, hp, Result.andThen_ok]
                    rw [ih f.type cf h1 _ (by simp; omega)]
                    simp only [Result.andThen_ok, Sem.run_pure]
                    exact ihl _ cr h7 (by omega)
                  · cases hf
                · cases hf
              · cases hf
          have := key fs.toList 0 cl h (by omega)
          rw [this]; rfl

/-- A map's type, and how its keys are written. -/
structure KeyT (P : Program) {K : Type} (mt et : TypeId) (enc : K → Value) : Prop where
  ex : ∃ kt d cl, P.underlying mt = some (.map kt et) ∧ d ≤ 10000 ∧ d ≠ 0 ∧ clsT P d kt = some cl ∧
    ∀ a, ∃ xs, enc a = mkV P kt xs ∧ xs.length = cl.length ∧ ∀ b ys, enc b = mkV P kt ys → ys.length = cl.length → ∃ r, eqV cl xs ys = some r ∧ (r = true ↔ a = b)
  bits : ∀ a, Instr.sameBits 10000 (enc a) (enc a) = true

def ent {K V : Type} (enc : K → Value) (encv : V → Value) (x : K × V × Nat) : MapEntry := ⟨enc x.1, encv x.2.1, x.2.2⟩
def ents {K V : Type} (enc : K → Value) (encv : V → Value) (ms : List (K × V × Nat)) : List MapEntry := ms.map (ent enc encv)

/-- An association list: what is there under k, its place. -/
def MP.find {K V : Type} [DecidableEq K] (k : K) : List (K × V × Nat) → Nat → Option (Nat × V)
  | [], _ => none
  | x :: ms, i => if k = x.1 then some (i, x.2.1) else MP.find k ms (i + 1)
def MP.get {K V : Type} [DecidableEq K] (ms : List (K × V × Nat)) (k : K) : Option V := (MP.find k ms 0).map (·.2)
def MP.put {K V : Type} [DecidableEq K] : List (K × V × Nat) → K → V → Nat → List (K × V × Nat)
  | [], k, v, c => [(k, v, c)]
  | x :: ms, k, v, c => if k = x.1 then (x.1, v, x.2.2) :: ms else x :: MP.put ms k v c
def MP.del {K V : Type} [DecidableEq K] : List (K × V × Nat) → K → List (K × V × Nat)
  | [], _ => []
  | x :: ms, k => if k = x.1 then ms else x :: MP.del ms k

variable {K V : Type} [DecidableEq K] {mt et : TypeId} {enc : K → Value} {encv : V → Value}

theorem KeyT.kt (h : KeyT P mt et enc) : ∃ kt, P.underlying mt = some (.map kt et) ∧ (∀ a b (w : World), (Op.equal kt (enc a) (enc b)).run P w = .ok (decide (a = b)) w) ∧
    (∀ a em (w : World), (Instr.checkKey em 10000 kt (enc a)).run P w = .ok () w) ∧
    (∀ a b kd, P.underlying kt = some kd → Instr.sameNow kd (enc a) (enc b) = none ∨ Instr.sameNow kd (enc a) (enc b) = some (decide (a = b))) := by
  obtain ⟨kt, d, cl, h1, h2, h3, h4, h5⟩ := h.ex
  have heq : ∀ a b (w : World), (Op.equal kt (enc a) (enc b)).run P w = .ok (decide (a = b)) w := by
    intro a b w
    obtain ⟨xs, e1, e2, e3⟩ := h5 a
    obtain ⟨ys, f1, f2, _⟩ := h5 b
    obtain ⟨r, g1, g2⟩ := e3 b ys f1 f2
    have := run_eq_cls (P := P) (10000 - d) d kt cl h4 xs ys r w g1
    rw [show d + (10000 - d) = 10000 by omega, ← e1, ← f1] at this
    have hr : r = decide (a = b) := by
      cases r
      · have : ¬ a = b := fun e => by have := g2.2 e; cases this
        simp [this]
      · simp [g2.1 rfl]
    rw [← hr]
    exact this
  refine ⟨kt, h1, heq, ?_, ?_⟩
  · intro a em w
    obtain ⟨xs, e1, e2, _⟩ := h5 a
    have := run_check (P := P) em (10000 - d) d kt cl h4 xs e2 w
    rw [show d + (10000 - d) = 10000 by omega, ← e1] at this
    exact this
  · intro a b kd hkd
    obtain ⟨xs, e1, e2, e3⟩ := h5 a
    obtain ⟨ys, f1, f2, _⟩ := h5 b
    obtain ⟨r, g1, g2⟩ := e3 b ys f1 f2
    have hr : r = decide (a = b) := by
      cases r
      · have : ¬ a = b := fun e => by have := g2.2 e; cases this
        simp [this]
      · simp [g2.1 rfl]
    cases d with
    | zero => exact absurd rfl h3
    | succ d =>
      unfold clsT at h4
      rw [hkd] at h4
      cases kd <;> simp only at h4 <;> try (cases h4; done)
      case bool =>
        cases h4
        match xs, ys, e2, f2, g1 with
        | [x], [y], _, _, g1 =>
          have n1 : enc a = x := by rw [e1]; simp [mkV, isAggT, hkd]
          have n2 : enc b = y := by rw [f1]; simp [mkV, isAggT, hkd]
          rw [n1, n2]
          cases x <;> cases y <;> simp [eqV, eq1V] at g1
          right; simp only [Instr.sameNow, ← hr, ← g1]
      case int q =>
        cases h4
        match xs, ys, e2, f2, g1 with
        | [x], [y], _, _, g1 =>
          have n1 : enc a = x := by rw [e1]; simp [mkV, isAggT, hkd]
          have n2 : enc b = y := by rw [f1]; simp [mkV, isAggT, hkd]
          rw [n1, n2]
          cases x <;> cases y <;> simp only [eqV, eq1V] at g1 <;> try (cases g1; done)
          rename_i q1 i1 _ q2 i2 _ _
          by_cases hk : q1 = q2
          · subst hk
            simp only [if_true, Bool.and_true, Option.some.injEq] at g1
            right; simp only [Instr.sameNow, ← hr, ← g1, if_true]; rfl
          · simp [hk] at g1
      case string =>
        cases h4
        match xs, ys, e2, f2, g1 with
        | [x], [y], _, _, g1 =>
          have n1 : enc a = x := by rw [e1]; simp [mkV, isAggT, hkd]
          have n2 : enc b = y := by rw [f1]; simp [mkV, isAggT, hkd]
          rw [n1, n2]
          cases x <;> cases y <;> simp [eqV, eq1V] at g1
          right; simp only [Instr.sameNow, ← hr, ← g1]
      all_goals exact .inl rfl

theorem findNow_spec {kd : TypeDesc} {k : K} (h : ∀ b, Instr.sameNow kd (enc k) (enc b) = none ∨ Instr.sameNow kd (enc k) (enc b) = some (decide (k = b))) : ∀ (ms : List (K × V × Nat)) (i : Nat),
    Instr.findNow kd (enc k) (ents enc encv ms) i = none ∨ Instr.findNow kd (enc k) (ents enc encv ms) i = some ((MP.find k ms i).map fun p => (p.1, encv p.2))
  | [], i => .inr rfl
  | x :: ms, i => by
    simp only [ents, List.map_cons, Instr.findNow, ent]
    rcases h x.1 with e | e
    · rw [e]; exact .inl rfl
    · rw [e]
      by_cases hk : k = x.1
      · simp only [hk, decide_true]; right; simp [MP.find]
      · simp only [hk, decide_false, MP.find, if_false]; exact findNow_spec h ms (i + 1)
theorem findAsking_spec {kt : TypeId} {k : K} (h : ∀ b (w : World), (Op.equal kt (enc k) (enc b)).run P w = .ok (decide (k = b)) w) : ∀ (ms : List (K × V × Nat)) (i : Nat) (w : World),
    (Instr.findAsking kt (enc k) (ents enc encv ms) i).run P w = .ok ((MP.find k ms i).map fun p => (p.1, encv p.2)) w
  | [], i, w => by simp [ents, Instr.findAsking, MP.find]
  | x :: ms, i, w => by
    simp only [ents, List.map_cons, Instr.findAsking, ent, Sem.run_bind, h, Result.andThen_ok]
    by_cases hk : k = x.1
    · simp [hk, MP.find]
    · simp only [hk, decide_false, MP.find, if_false, Bool.false_eq_true]; exact findAsking_spec h ms (i + 1) w

theorem findKey_spec (h : KeyT P mt et enc) (k : K) (ms : List (K × V × Nat)) {kt : TypeId} (hkt : P.underlying mt = some (.map kt et)) {kd : TypeDesc} (hkd : P.underlying kt = some kd) (w : World) :
    (Instr.findKey kt (enc k) (ents enc encv ms)).run P w = .ok ((MP.find k ms 0).map fun p => (p.1, encv p.2)) w := by
  obtain ⟨kt', h1, h2, h3, h4⟩ := h.kt
  rw [hkt] at h1
  cases h1
  unfold Instr.findKey
  simp only [Sem.run_bind, run_und hkd, Result.andThen_ok]
  rcases findNow_spec (encv := encv) (fun b => h4 k b kd hkd) ms 0 with e | e
  · rw [e]; exact findAsking_spec (fun b w => h2 k b w) ms 0 w
  · rw [e]; simp

omit [DecidableEq K] in
theorem KeyT.kd (h : KeyT P mt et enc) : ∃ kt kd, P.underlying mt = some (.map kt et) ∧ P.underlying kt = some kd := by
  obtain ⟨kt, d, cl, h1, h2, h3, h4, h5⟩ := h.ex
  cases d with
  | zero => exact absurd rfl h3
  | succ d =>
    unfold clsT at h4
    cases hkd : P.underlying kt with
    | none => rw [hkd] at h4; cases h4
    | some kd => exact ⟨kt, kd, h1, hkd⟩

theorem lookup_is (h : KeyT P mt et enc) {z : Value} (hz : zeroT P et = some z) (ms : List (K × V × Nat)) (k : K) :
    LookupIs P mt (ents enc encv ms) (enc k) (match MP.get ms k with | some v => encv v | none => z) (MP.get ms k).isSome := by
  intro w b c ok hh
  obtain ⟨kt, kd, h1, h2⟩ := h.kd
  obtain ⟨kt', h1', h3, h4, h5⟩ := h.kt
  rw [h1] at h1'
  cases h1'
  unfold Instr.lookup
  have hg : (getObj b).run P w = .ok (.map (ents enc encv ms).toArray c) w := by simp [getObj, Sem.run, hh]
  simp only [Sem.run_bind, run_und h1, Result.andThen_ok, hg, Sem.run_pure, h4, findKey_spec h k ms h1 h2]
  unfold MP.get
  cases MP.find k ms 0 with
  | none => cases ok <;> simp [run_zero hz]
  | some p => cases ok <;> simp

theorem put_find_none {k : K} {v : V} {c : Nat} : ∀ {ms : List (K × V × Nat)} {i : Nat}, MP.find k ms i = none → MP.put ms k v c = ms ++ [(k, v, c)]
  | [], _, _ => rfl
  | x :: ms, i, h => by
    unfold MP.find at h
    split at h
    · cases h
    · rename_i hk
      simp [MP.put, hk, put_find_none h]
theorem put_find_some {k : K} {v : V} {c : Nat} : ∀ {ms : List (K × V × Nat)} {i : Nat} {p : Nat × V}, MP.find k ms i = some p → i ≤ p.1 ∧ ∃ x, ms[p.1 - i]? = some x ∧ x.1 = k ∧ x.2.1 = p.2 ∧ MP.put ms k v c = ms.set (p.1 - i) (k, v, x.2.2) ∧ MP.del ms k = ms.eraseIdx (p.1 - i)
  | [], _, _, h => by cases h
  | x :: ms, i, p, h => by
    unfold MP.find at h
    split at h
    · rename_i hk
      cases h
      exact ⟨Nat.le_refl _, x, by simp, hk.symm, rfl, by simp [MP.put, hk], by simp [MP.del, hk]⟩
    · rename_i hk
      obtain ⟨h1, y, h2, h3, h4, h5, h6⟩ := put_find_some (v := v) (c := c) h
      obtain ⟨q, hq⟩ : ∃ q, p.1 - i = q + 1 := ⟨p.1 - (i + 1), by omega⟩
      have hq' : p.1 - (i + 1) = q := by omega
      rw [hq'] at h2 h5 h6
      exact ⟨by omega, y, by rw [hq]; simpa using h2, h3, h4, by rw [hq]; simp [MP.put, hk, h5], by rw [hq]; simp [MP.del, hk, h6]⟩

theorem del_find_none {k : K} : ∀ {ms : List (K × V × Nat)} {i : Nat}, MP.find k ms i = none → MP.del ms k = ms
  | [], _, _ => rfl
  | x :: ms, i, h => by
    unfold MP.find at h
    split at h
    · cases h
    · rename_i hk
      simp [MP.del, hk, del_find_none h]

theorem update_is (h : KeyT P mt et enc) (ms : List (K × V × Nat)) (c : Nat) (k : K) (v : V) :
    UpdateIs P mt (ents enc encv ms) c (enc k) (encv v) (ents enc encv (MP.put ms k v c)) (if (MP.get ms k).isSome then c else c + 1) := by
  intro w b hh
  obtain ⟨kt, kd, h1, h2⟩ := h.kd
  obtain ⟨kt', h1', h3, h4, h5⟩ := h.kt
  rw [h1] at h1'
  cases h1'
  have hlt := (Array.getElem?_eq_some_iff.1 hh).1
  have hg : (getObj b).run P w = .ok (.map (ents enc encv ms).toArray c) w := by simp [getObj, Sem.run, hh]
  have hs : ∀ o : Obj, (setObj b o).run P w = .ok () { w with heap := w.heap.setIfInBounds b o } := by
    intro o; simp only [setObj, Sem.run, hh]
  unfold Instr.mapUpdate
  simp only [Sem.run_bind, run_und h1, Result.andThen_ok, hg, h4, findKey_spec h k ms h1 h2]
  unfold MP.get
  cases hf : MP.find k ms 0 with
  | none =>
    simp only [Option.map_none, hs, put_find_none hf]
    simp [ents, ent]
  | some p =>
    obtain ⟨_, x, g1, g2, g3, g4, _⟩ := put_find_some (v := v) (c := c) hf
    simp only [Nat.sub_zero] at g1 g4
    have hkey : ((ents enc encv ms).toArray[p.1]?.map (·.key)).getD (enc k) = enc k := by
      simp [ents, g1, ent, g2]
    simp only [Option.map_some, Sem.run_bind, hkey, Instr.keyThatStays, h.bits, if_true, Sem.run_pure, Result.andThen_ok, hs]
    congr 1
    have : (ents enc encv ms).toArray.modify p.1 (fun e => { e with key := enc k, val := encv v }) = (ents enc encv (MP.put ms k v c)).toArray := by
      apply Array.ext_getElem?
      intro j
      rw [g4]
      simp only [ents, List.getElem?_toArray, List.getElem?_map, Array.getElem?_modify]
      by_cases hj : p.1 = j
      · subst hj
        have hl := (List.getElem?_eq_some_iff.1 g1).1
        have hx : ms[p.1] = x := by rw [List.getElem?_eq_getElem hl] at g1; exact Option.some.inj g1
        simp [hl, ent, hx]
      · simp [hj, List.getElem?_set_ne hj]
    rw [this]
    simp

theorem map_erase {A B : Type} (f : A → B) : ∀ (l : List A) (i : Nat), (l.eraseIdx i).map f = (l.map f).eraseIdx i
  | [], _ => rfl
  | _ :: _, 0 => rfl
  | x :: l, i + 1 => by simp [List.eraseIdx, map_erase f l i]

theorem delete_is (h : KeyT P mt et enc) (ms : List (K × V × Nat)) (k : K) : DeleteIs P mt (ents enc encv ms) (enc k) (ents enc encv (MP.del ms k)) := by
  intro w b c hh
  obtain ⟨kt, kd, h1, h2⟩ := h.kd
  obtain ⟨kt', h1', h3, h4, h5⟩ := h.kt
  rw [h1] at h1'
  cases h1'
  have hlt := (Array.getElem?_eq_some_iff.1 hh).1
  have hg : (getObj b).run P w = .ok (.map (ents enc encv ms).toArray c) w := by simp [getObj, Sem.run, hh]
  have hs : ∀ o : Obj, (setObj b o).run P w = .ok () { w with heap := w.heap.setIfInBounds b o } := by
    intro o; simp only [setObj, Sem.run, hh]
  have a0 : (#[mt, 0] : Array TypeId)[0]? = some mt := rfl
  have b0 : (#[Value.map (some b), enc k] : Array Value)[0]? = some (.map (some b)) := rfl
  have b1 : (#[Value.map (some b), enc k] : Array Value)[1]? = some (enc k) := rfl
  unfold Builtin.delete_
  simp only [a0, b0, b1, Sem.run_bind, run_und h1, Result.andThen_ok, hg, h4, findKey_spec h k ms h1 h2]
  cases hf : MP.find k ms 0 with
  | none =>
    simp only [Option.map_none, Sem.run_bind, hs, del_find_none hf, Result.andThen_ok, Sem.run_pure]
  | some p =>
    obtain ⟨_, x, g1, g2, g3, _, g5⟩ := put_find_some (v := p.2) (c := c) hf
    simp only [Nat.sub_zero] at g1 g5
    simp only [Option.map_some, Sem.run_bind, hs, Result.andThen_ok, Sem.run_pure]
    have : (ents enc encv ms).toArray.eraseIdxIfInBounds p.1 = (ents enc encv (MP.del ms k)).toArray := by
      rw [g5]
      have hl := (List.getElem?_eq_some_iff.1 g1).1
      apply Array.toList_inj.1
      simp [ents, Array.eraseIdxIfInBounds, hl, map_erase]
    rw [this]
end
end Go.V
