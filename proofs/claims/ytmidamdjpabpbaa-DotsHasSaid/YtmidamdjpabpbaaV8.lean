/- Part of the proof that the statement named in the last file holds: lemmas of the prover's own. No conditions. -/
import Derived.Test.YtmidamdjpabpbaaV7
import Derived.Laws.StructEq
import Derived.ChangeKeysEq
namespace Go.V
open Go

/-! ### '==' on aggregates -/
def eq1V : FC → Value → Value → Option Bool
  | .i, .int k a, .int k' b => if k = k' then some (decide (a = b)) else none
  | .s, .string a, .string b => some (a == b)
  | .b, .bool a, .bool b => some (a == b)
  | _, _, _ => none
def eqV : List FC → List Value → List Value → Option Bool
  | [], [], [] => some true
  | c :: cl, x :: l, y :: m => match eq1V c x y, eqV cl l m with
    | some a, some b => some (a && b)
    | _, _ => none
  | _, _, _ => none
theorem eqV_len : ∀ {cl : List FC} {xs ys : List Value} {b : Bool}, eqV cl xs ys = some b → xs.length = cl.length ∧ ys.length = cl.length
  | [], [], [], _, _ => ⟨rfl, rfl⟩
  | c :: cl, x :: l, y :: m, b, h => by
    simp only [eqV] at h
    split at h
    · rename_i h1 h2
      obtain ⟨e1, e2⟩ := eqV_len h2
      exact ⟨by simp [e1], by simp [e2]⟩
    · cases h
  | [], [], _ :: _, _, h => by simp [eqV] at h
  | [], _ :: _, _, _, h => by simp [eqV] at h
  | _ :: _, [], _, _, h => by simp [eqV] at h
  | _ :: _, _ :: _, [], _, h => by simp [eqV] at h
theorem eqV_append : ∀ {c1 c2 : List FC} {xs ys : List Value} {b : Bool}, eqV (c1 ++ c2) xs ys = some b →
    ∃ b1 b2, eqV c1 (xs.take c1.length) (ys.take c1.length) = some b1 ∧ eqV c2 (xs.drop c1.length) (ys.drop c1.length) = some b2 ∧ b = (b1 && b2)
  | [], c2, xs, ys, b, h => ⟨true, b, by simp [eqV], by simpa using h, by simp⟩
  | c :: c1, c2, x :: l, y :: m, b, h => by
    simp only [List.cons_append, eqV] at h
    split at h
    · rename_i a b' h1 h2
      obtain ⟨b1, b2, e1, e2, e3⟩ := eqV_append h2
      cases h
      refine ⟨a && b1, b2, ?_, by simpa using e2, by rw [e3, Bool.and_assoc]⟩
      simp [eqV, h1, e1]
    · cases h
  | c :: c1, c2, [], _, b, h => by simp [eqV] at h
  | c :: c1, c2, _ :: _, [], b, h => by simp [eqV] at h

section
variable {P : Program} {w : World}

def mkV (P : Program) (t : TypeId) (xs : List Value) : Value := if isAggT P t = some true then .agg xs.toArray else xs.headD undef

theorem cls_isAgg {d : Nat} {t : TypeId} {cl : List FC} (h : clsT P d t = some cl) : ∃ b, isAggT P t = some b ∧ (b = false → ∃ c, cl = [c]) := by
  cases d with
  | zero => simp [clsT] at h
  | succ d =>
    unfold clsT at h
    cases hu : P.underlying t with
    | none => simp [hu] at h
    | some k =>
      cases k <;> simp only [hu] at h <;> simp [isAggT, hu] <;> first | (cases h; done) | skip
      all_goals simp at h
      all_goals exact ⟨_, h.symm⟩

theorem run_part {t : TypeId} {sz off : Nat} {cs : Array Value} {b : Bool} (ha : isAggT P t = some b) (hs : sizeT P t = some sz) (hb : b = false → sz = 1) (hl : b = false → off + sz ≤ cs.size) :
    (part t cs off).run P w = .ok (mkV P t ((cs.toList.drop off).take sz)) w := by
  cases b with
  | true =>
    simp only [part, Sem.run_bind, run_isAgg ha, Result.andThen_ok, if_true, run_size hs, Sem.run_pure, mkV, ha]
    congr 2
    apply Array.ext'
    simp [List.extract]
  | false =>
    obtain rfl := hb rfl
    have hlt : off < cs.size := by have := hl rfl; omega
    have hd : cs.toList.drop off = cs[off] :: cs.toList.drop (off + 1) := by rw [List.drop_eq_getElem_cons (by simpa using hlt)]; simp
    simp only [part, Sem.run_bind, run_isAgg ha, Result.andThen_ok, mkV, ha]
    rw [hd]; simp [hlt]

theorem run_eq_fields {d e : Nat} (ih : ∀ t cl, clsT P d t = some cl → ∀ xs ys b (w : World), eqV cl xs ys = some b → (Op.equalIn (d + e) t (mkV P t xs) (mkV P t ys)).run P w = .ok b w) (xs ys : Array Value) :
    ∀ (fs : List Field) (off : Nat) (cl : List FC) (b : Bool) (w : World), fieldsCls P (clsT P d) off fs = some cl → eqV cl (xs.toList.drop off) (ys.toList.drop off) = some b →
      (Op.eqFields (d + e) xs ys fs).run P w = .ok b w
  | [], off, cl, b, w, hf, hb => by
    simp [fieldsCls] at hf; subst hf
    cases hx : xs.toList.drop off <;> cases hy : ys.toList.drop off <;> simp [hx, hy, eqV] at hb
    subst hb; simp [Op.eqFields]
  | f :: fs, off, cl, b, w, hf, hb => by
    unfold fieldsCls at hf
    split at hf
    · rename_i cf sz h1 h2
      split at hf
      · rename_i h3
        obtain ⟨h4, h5, h6⟩ := h3
        split at hf
        · rename_i cr h7
          cases hf
          obtain ⟨b1, b2, e1, e2, e3⟩ := eqV_append hb
          obtain ⟨l1, l2⟩ := eqV_len e1
          obtain ⟨bb, g1, g2⟩ := cls_isAgg h1
          have hsz : bb = false → sz = 1 := fun h => by obtain ⟨c, rfl⟩ := g2 h; simpa using h6.symm
          have hlx : bb = false → off + sz ≤ xs.size := by
            intro hbb; have := hsz hbb; have := l1; simp at this; omega
          have hly : bb = false → off + sz ≤ ys.size := by
            intro hbb; have := hsz hbb; have := l2; simp at this; omega
          subst h5
          simp only [Op.eqFields, h4, ne_eq, not_false_eq_true, if_true, Sem.run_bind, run_part g1 h2 hsz hlx, run_part g1 h2 hsz hly, Result.andThen_ok]
          rw [h6] at e1
          rw [ih f.type cf h1 _ _ b1 w e1]
          rw [h6, List.drop_drop, List.drop_drop] at e2
          have := run_eq_fields ih xs ys fs (f.offset + sz) cr b2 w h7 e2
          cases b1
          · simp [e3]
          · simp [e3, this]
        · cases hf
      · cases hf
    · cases hf

theorem eqV_replicate {c : List FC} : ∀ (n : Nat) {xs ys : List Value} {b : Bool}, eqV (List.flatten (List.replicate n c)) xs ys = some b →
    ∀ i, i < n → ∃ bi, eqV c ((xs.drop (i * c.length)).take c.length) ((ys.drop (i * c.length)).take c.length) = some bi
  | 0, _, _, _, _, i, hi => by omega
  | n + 1, xs, ys, b, h, i, hi => by
    rw [List.replicate_succ, List.flatten_cons] at h
    obtain ⟨b1, b2, e1, e2, _⟩ := eqV_append h
    cases i with
    | zero => exact ⟨b1, by simpa using e1⟩
    | succ i =>
      obtain ⟨bi, hb⟩ := eqV_replicate n e2 i (by omega)
      refine ⟨bi, ?_⟩
      rw [List.drop_drop, List.drop_drop] at hb
      rw [Nat.succ_mul, Nat.add_comm (i * c.length)]
      exact hb

theorem run_eq_items {d e sz : Nat} {el : TypeId} {c : List FC} (hc : clsT P d el = some c) (hsz : sizeT P el = some sz) (hl : c.length = sz)
    (ih : ∀ xs ys b (w : World), eqV c xs ys = some b → (Op.equalIn (d + e) el (mkV P el xs) (mkV P el ys)).run P w = .ok b w) (xs ys : Array Value) :
    ∀ (n m : Nat) (b : Bool), n * sz ≤ xs.size → n * sz ≤ ys.size → m ≤ n → eqV (List.flatten (List.replicate m c)) ((xs.toList.drop ((n - m) * sz)).take (m * sz)) ((ys.toList.drop ((n - m) * sz)).take (m * sz)) = some b →
      (Op.eqItems (d + e) el sz xs ys ((List.range' (n - m) m))).run P w = .ok b w
  | n, 0, b, _, _, _, h => by simp [eqV] at h; subst h; simp [Op.eqItems]
  | n, m + 1, b, hx, hy, hm, h => by
    rw [List.replicate_succ, List.flatten_cons] at h
    obtain ⟨b1, b2, e1, e2, e3⟩ := eqV_append h
    obtain ⟨bb, g1, g2⟩ := cls_isAgg hc
    have hsz1 : bb = false → sz = 1 := fun h => by obtain ⟨c', rfl⟩ := g2 h; simpa using hl.symm
    have hmul : (n - (m + 1)) * sz + (m + 1) * sz = n * sz := by rw [← Nat.add_mul]; congr 1; omega
    have hmul2 : (m + 1) * sz = m * sz + sz := Nat.succ_mul _ _
    have hlx : (n - (m + 1)) * sz + sz ≤ xs.size := by omega
    have hly : (n - (m + 1)) * sz + sz ≤ ys.size := by omega
    rw [hl, List.take_take, List.take_take, Nat.min_eq_left (by omega)] at e1
    rw [hl, List.drop_take, List.drop_take, List.drop_drop, List.drop_drop] at e2
    have e4 : (n - (m + 1)) * sz + sz = (n - m) * sz := by rw [← Nat.succ_mul]; congr 1; omega
    rw [e4, show (m + 1) * sz - sz = m * sz by omega] at e2
    have hr := run_eq_items hc hsz hl ih xs ys n m b2 hx hy (by omega) e2
    rw [List.range'_succ, show n - (m + 1) + 1 = n - m by omega]
    simp only [Op.eqItems, Sem.run_bind, run_part g1 hsz hsz1 (fun _ => hlx), run_part g1 hsz hsz1 (fun _ => hly), Result.andThen_ok, ih _ _ b1 w e1]
    cases b1
    · simp [e3]
    · simp [e3, hr]

theorem run_eq_cls (e : Nat) : ∀ (d : Nat) (t : TypeId) (cl : List FC), clsT P d t = some cl → ∀ (xs ys : List Value) (b : Bool) (w : World), eqV cl xs ys = some b →
    (Op.equalIn (d + e) t (mkV P t xs) (mkV P t ys)).run P w = .ok b w
  | 0, _, _, h, _, _, _, _, _ => by simp [clsT] at h
  | d + 1, t, cl, h, xs, ys, b, w, hb => by
    rw [show d + 1 + e = (d + e) + 1 by omega]
    unfold clsT at h
    cases hu : P.underlying t with
    | none => simp [hu] at h
    | some k =>
      cases k <;> simp only [hu] at h <;> try (cases h; done)
      case int q =>
        cases h
        obtain ⟨l1, l2⟩ := eqV_len hb
        match xs, ys, l1, l2, hb with
        | [x], [y], _, _, hb =>
          cases x <;> cases y <;> simp [eqV, eq1V] at hb
          rename_i k a _ k' a' _
          by_cases hk : k = k'
          · subst hk; simp at hb; simp [mkV, isAggT, hu, run_equalIn_int w _ t k q a a' hu, ← hb]; rfl
          · simp [hk] at hb
      case string =>
        cases h
        obtain ⟨l1, l2⟩ := eqV_len hb
        match xs, ys, l1, l2, hb with
        | [x], [y], _, _, hb =>
          cases x <;> cases y <;> simp [eqV, eq1V] at hb
          simp [mkV, isAggT, hu, run_equalIn_string w _ t _ _ hu, ← hb, beq_toListBytes]
      case bool =>
        cases h
        obtain ⟨l1, l2⟩ := eqV_len hb
        match xs, ys, l1, l2, hb with
        | [x], [y], _, _, hb =>
          cases x <;> cases y <;> simp [eqV, eq1V] at hb
          simp [mkV, isAggT, hu, run_equalIn_bool' w _ t _ _ hu, ← hb]
      case array n el =>
        split at h
        · rename_i c sz hc hsz
          split at h
          · rename_i hl
            cases h
            have hinfo : ∃ i, P.info? el = some i ∧ i.size = sz := by
              unfold sizeT at hsz
              cases hi : P.info? el with
              | none => simp [hi] at hsz
              | some i => exact ⟨i, rfl, by simpa [hi] using hsz⟩
            obtain ⟨i, hi, his⟩ := hinfo
            obtain ⟨l1, l2⟩ := eqV_len hb
            have hlen : (List.flatten (List.replicate n c)).length = n * sz := by simp [hl]
            have hm : isAggT P t = some true := by simp [isAggT, hu]
            simp only [mkV, hm, if_true]
            rw [run_equalIn_array w (d + e) _ _ hu hi]
            have hce : P.cellsOf el = sz := by simp [Program.cellsOf, hi, his]
            rw [hce, List.range_eq_range']
            have := run_eq_items (w := w) (e := e) hc hsz hl (fun xs ys b w hb => run_eq_cls e d el c hc xs ys b w hb) xs.toArray ys.toArray n n b (by simp; omega) (by simp; omega) (Nat.le_refl _) (by
              simp only [Nat.sub_self, Nat.zero_mul, List.drop_zero]
              rw [List.take_of_length_le (by omega), List.take_of_length_le (by omega)]; exact hb)
            simpa using this
          · cases h
        · cases h
      case struct fs =>
        split at h
        · cases h
        · rename_i hst
          have hm : isAggT P t = some true := by simp [isAggT, hu]
          simp only [mkV, hm, if_true]
          have hf : P.fieldsOf t = fs := by simp [Program.fieldsOf, hu]
          rw [run_equalIn_struct w (d + e) t _ _ (by rw [hf]; exact hu) (by simpa using hst), hf]
          exact run_eq_fields (fun t cl h xs ys b w hb => run_eq_cls e d t cl h xs ys b w hb) _ _ fs.toList 0 cl b w h (by simpa using hb)

theorem eqOne_val (ρ : Rho) {c : FC} {x y : SV} {b : Bool} (h : eqOne c x y = some b) : eq1V c (val ρ x) (val ρ y) = some b := by
  unfold eqOne at h
  split at h <;> first | (cases h; done) | simp_all [val, eq1V]
  rename_i k a k' b'
  cases k <;> cases k' <;> simp_all

theorem eqCells_val (ρ : Rho) : ∀ {cl : List FC} {xs ys : List SV} {b : Bool}, eqCells cl xs ys = some b → eqV cl (valL ρ xs) (valL ρ ys) = some b
  | [], [], [], b, h => by simpa [eqCells, eqV, valL] using h
  | [c], [x], [y], b, h => by
    simp only [eqCells] at h
    simp [valL, eqV, eqOne_val ρ h]
  | c :: c' :: cl, x :: l, y :: m, b, h => by
    simp only [eqCells] at h
    split at h
    · rename_i h1 h2
      cases h
      have := eqCells_val ρ h2
      simp only [valL] at this ⊢
      simp only [eqV, eqOne_val ρ h1, this]
    · cases h
  | [c], x :: x' :: l, y :: m, b, h => by simp [eqCells] at h
  | [c], [x], y :: y' :: m, b, h => by simp [eqCells] at h
  | [], [], _ :: _, _, h => by simp [eqCells] at h
  | [], _ :: _, _, _, h => by simp [eqCells] at h
  | _ :: _, [], _, _, h => by simp [eqCells] at h
  | _ :: _, _ :: _, [], _, h => by simp [eqCells] at h
end
end Go.V
