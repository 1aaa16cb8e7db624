/- Part of the proof that the statement named in the last file holds: lemmas of the prover's own. No conditions. -/
import Derived.Test.YtmidamdjpabpbaaV8
import Derived.Laws.StructEq
namespace Go.V
open Go

section
variable {P : Program} {ρ : Rho} {H : List SO} {g : Fr} {w : World} {K : SV → List SO → Prop} {t : List SV} {a : Act} {o : Oper}

theorem asB_kind {v : SV} {b : Bool} (h : asB v = some b) : (∃ x, v = .raw x) ∨ (∃ x, v = .kb x) := by
  cases v <;> simp [asB] at h
  · exact .inl ⟨_, rfl⟩
  · exact .inr ⟨_, rfl⟩

/-- What a binary operation comes to: a value, in the world at hand. -/
def Bins (P : Program) (ρ : Rho) (w : World) (op : BinOp) (ty : TypeId) (x y : SV) (K : SV → Prop) : Prop :=
  ∃ sv, (∀ n, below n sv = true) ∧ K sv ∧ (binOp op ty (val ρ x) (val ρ y)).run P w = .ok (val ρ sv) w ∧
    ∀ x' y', (eqGuard op ty x' y' (val ρ x) (val ρ y)).run P w = .ok () w

theorem eqGuard_scalar {op : BinOp} {ty : TypeId} {x y : Operand} {u v : Value} (h : (match u, v with | .nilIface, .nilIface => false | .agg _, .agg _ => false | _, _ => true) = true) :
    (eqGuard op ty x y u v).run P w = .ok () w := by
  unfold eqGuard
  cases u <;> cases v <;> simp at h ⊢ <;> split <;> simp

theorem bins_int {op : BinOp} {ty : TypeId} {k : IntKind} {x y : Int} {Kv : SV → Prop} (hv : vcInt op k x y Kv) : Bins P ρ w op ty (.raw (.int k x)) (.raw (.int k y)) Kv := by
  have hg : ∀ x' y', (eqGuard op ty x' y' (.int k x) (.int k y)).run P w = .ok () w := fun _ _ => eqGuard_scalar rfl
  unfold vcInt at hv
  split at hv
  case h_1 => obtain ⟨c, h1, h2⟩ := hv; exact ⟨_, fun _ => rfl, h2, by simp [val, binOp, Op.intArith, h1], hg⟩
  case h_2 => obtain ⟨c, h1, h2⟩ := hv; exact ⟨_, fun _ => rfl, h2, by simp [val, binOp, Op.intArith, h1], hg⟩
  case h_3 => obtain ⟨c, h1, h2⟩ := hv; exact ⟨_, fun _ => rfl, h2, by simp [val, binOp, Op.intArith, h1], hg⟩
  case h_4 => obtain ⟨h0, c, h1, h2⟩ := hv; exact ⟨_, fun _ => rfl, h2, by simp [val, binOp, Op.intDiv, h0, h1], hg⟩
  case h_5 => obtain ⟨h0, c, h1, h2⟩ := hv; exact ⟨_, fun _ => rfl, h2, by simp [val, binOp, Op.intDiv, h0, h1], hg⟩
  case h_6 => obtain ⟨c, h1, h2⟩ := hv; exact ⟨_, fun _ => rfl, h2, by simp only [val, binOp, Op.intBits]; simp [← h1, intBits], hg⟩
  case h_7 => obtain ⟨c, h1, h2⟩ := hv; exact ⟨_, fun _ => rfl, h2, by simp only [val, binOp, Op.intBits]; simp [← h1, intBits], hg⟩
  case h_8 => obtain ⟨c, h1, h2⟩ := hv; exact ⟨_, fun _ => rfl, h2, by simp only [val, binOp, Op.intBits]; simp [← h1, intBits], hg⟩
  case h_9 => obtain ⟨c, h1, h2⟩ := hv; exact ⟨_, fun _ => rfl, h2, by simp only [val, binOp, Op.intBits]; simp [← h1, intBits], hg⟩
  case h_10 => exact ⟨_, fun _ => rfl, hv, by simp [val, binOp, Op.intCmp]; rfl, hg⟩
  case h_11 => exact ⟨_, fun _ => rfl, hv, by simp [val, binOp, Op.intCmp, bne]; rfl, hg⟩
  case h_12 => exact ⟨_, fun _ => rfl, hv, by simp [val, binOp, Op.intCmp], hg⟩
  case h_13 => exact ⟨_, fun _ => rfl, hv, by simp [val, binOp, Op.intCmp], hg⟩
  case h_14 => exact ⟨_, fun _ => rfl, hv, by simp [val, binOp, Op.intCmp], hg⟩
  case h_15 => exact ⟨_, fun _ => rfl, hv, by simp [val, binOp, Op.intCmp], hg⟩
  case h_16 => exact hv.elim

theorem bins_eq {op : BinOp} {ty : TypeId} {x y : SV} {b : Bool} {Kv : SV → Prop} (hb : (Op.equal ty (val ρ x) (val ρ y)).run P w = .ok b w)
    (hshape : ∀ op', op' = .eql ∨ op' = .neq → binOp op' ty (val ρ x) (val ρ y) = (if op' = .eql then do pure (.bool (← Op.equal ty (val ρ x) (val ρ y))) else do pure (.bool (!(← Op.equal ty (val ρ x) (val ρ y))))))
    (hg : ∀ op' x' y', op' = .eql ∨ op' = .neq → (eqGuard op' ty x' y' (val ρ x) (val ρ y)).run P w = .ok () w) (hk : vcEqB op b Kv ∨ vcEq op b Kv) : Bins P ρ w op ty x y Kv := by
  have key : ∀ (op' : BinOp), op = op' → (op' = .eql ∨ op' = .neq) → ∀ sv, val ρ sv = .bool (if op' = .eql then b else !b) → (∀ n, below n sv = true) → Kv sv → Bins P ρ w op ty x y Kv := by
    intro op' e ho sv hs hbl hkk
    subst e
    refine ⟨sv, hbl, hkk, ?_, fun x' y' => hg op x' y' ho⟩
    rw [hshape op ho, hs]
    rcases ho with rfl | rfl <;> simp [hb]
  rcases hk with hk | hk
  · unfold vcEqB at hk
    split at hk
    · exact key .eql rfl (.inl rfl) _ rfl (fun _ => rfl) hk
    · exact key .neq rfl (.inr rfl) _ rfl (fun _ => rfl) hk
    · exact hk.elim
  · unfold vcEq at hk
    split at hk
    · exact key .eql rfl (.inl rfl) _ rfl (fun _ => rfl) hk
    · exact key .neq rfl (.inr rfl) _ rfl (fun _ => rfl) hk
    · exact key .eql rfl (.inl rfl) _ rfl (fun _ => rfl) hk
    · exact key .neq rfl (.inr rfl) _ rfl (fun _ => rfl) hk
    · exact hk.elim

def BinSpec (P : Program) (ty : TypeId) (x y : Operand) : BK → Prop
  | .b => P.underlying ty = some .bool
  | .p => ∃ e n, P.underlying ty = some (.pointer e) ∧ sizeT P e = some (n + 1)
  | .sl => ∃ e, P.underlying ty = some (.slice e)
  | .mp => ∃ k e, P.underlying ty = some (.map k e)
  | .ifn => (∃ ms, P.underlying ty = some (.interface ms)) ∧ (x = .const .nilIface ∨ y = .const .nilIface)
  | .agg cl => isAggT P ty = some true ∧ P.eqGuardType P.depth ty = false ∧ clsT P 9999 ty = some cl
  | .no => True

theorem binKind_spec (op : BinOp) (ty : TypeId) (x y : Operand) : BinSpec P ty x y (binKind P op ty x y) := by
  unfold binKind
  split
  · cases hu : P.underlying ty with
    | none => trivial
    | some d =>
      cases d <;> simp only [] <;> try trivial
      case pointer e =>
        split
        · rename_i n hn; exact ⟨e, n, hu, hn⟩
        · trivial
      case slice e => exact ⟨_, hu⟩
      case map k e => exact ⟨_, _, hu⟩
      case interface ms =>
        split
        · exact ⟨⟨_, hu⟩, .inl rfl⟩
        · exact ⟨⟨_, hu⟩, .inr rfl⟩
        · trivial
      case struct fs =>
        split
        · trivial
        · rename_i hg
          split
          · rename_i cl hc; exact ⟨by simp [isAggT, hu], by simpa using hg, hc⟩
          · trivial
      case array n e =>
        split
        · trivial
        · rename_i hg
          split
          · rename_i cl hc; exact ⟨by simp [isAggT, hu], by simpa using hg, hc⟩
          · trivial
  · trivial

theorem mkV_agg {ty : TypeId} (h : isAggT P ty = some true) (l : List Value) : mkV P ty l = .agg l.toArray := by simp [mkV, h]

theorem sound_bin (hS : St ρ H g w) {op : BinOp} {ty : TypeId} {x y : Operand} {u v : SV} {Kv : SV → Prop} (hv : vcBin op (binKind P op ty x y) u v H Kv) (hx : val ρ u = a.eval x) (hy : val ρ v = a.eval y) :
    ∃ sv, (∀ n, below n sv = true) ∧ Kv sv ∧ (binOp op ty (val ρ u) (val ρ v)).run P w = .ok (val ρ sv) w ∧ (eqGuard op ty x y (val ρ u) (val ρ v)).run P w = .ok () w := by
  have fin : Bins P ρ w op ty u v Kv → ∃ sv, (∀ n, below n sv = true) ∧ Kv sv ∧ (binOp op ty (val ρ u) (val ρ v)).run P w = .ok (val ρ sv) w ∧ (eqGuard op ty x y (val ρ u) (val ρ v)).run P w = .ok () w := by
    rintro ⟨sv, h1, h2, h3, h4⟩; exact ⟨sv, h1, h2, h3, h4 x y⟩
  cases hbk : binKind P op ty x y <;> rw [hbk] at hv <;> simp only [vcBin] at hv
  case no =>
    apply fin
    split at hv
    · rename_i k p k' q
      split at hv
      · obtain ⟨h0, c, h1, h2⟩ := hv
        exact ⟨_, fun _ => rfl, h2, by simp [val, binOp, Op.shift, h1, show ¬ q < 0 by omega], fun _ _ => eqGuard_scalar rfl⟩
      · obtain ⟨h0, c, h1, h2⟩ := hv
        exact ⟨_, fun _ => rfl, h2, by simp [val, binOp, Op.shift, h1, show ¬ q < 0 by omega], fun _ _ => eqGuard_scalar rfl⟩
      · split at hv
        · rename_i hk; subst hk; exact bins_int hv
        · exact hv.elim
    · rename_i p q
      have hg : ∀ x' y', (eqGuard op ty x' y' (.string p) (.string q)).run P w = .ok () w := fun _ _ => eqGuard_scalar rfl
      split at hv
      · refine ⟨_, fun _ => rfl, hv.2, ?_, hg⟩
        simp only [val, binOp, Op.stringOp]
        have : ¬ ((p.size + q.size : Nat) : Int) > IntKind.i64.max := by
          have h1 := hv.1
          have e : IntKind.i64.max = 9223372036854775807 := by decide
          rw [e]; omega
        rw [if_neg this]; rfl
      all_goals first
        | exact hv.elim
        | exact ⟨_, fun _ => rfl, hv, by simp [val, binOp, Op.stringOp], hg⟩
    · exact hv.elim
  case b =>
    have hu : P.underlying ty = some .bool := by have := binKind_spec (P := P) op ty x y; rwa [hbk] at this
    apply fin
    split at hv
    · rename_i p q hp hq
      refine bins_eq (b := p == q) (by rw [asB_val hp, asB_val hq]; exact run_equal_bool w ty p q hu) ?_ ?_ (.inl hv)
      · intro op' ho; rw [asB_val hp, asB_val hq]; rcases ho with rfl | rfl <;> rfl
      · intro op' x' y' _; rw [asB_val hp, asB_val hq]; exact eqGuard_scalar rfl
    · exact hv.elim
  case p =>
    obtain ⟨e, n, hu, hsz⟩ : ∃ e n, P.underlying ty = some (.pointer e) ∧ sizeT P e = some (n + 1) := by have := binKind_spec (P := P) op ty x y; rwa [hbk] at this
    apply fin
    have eq1 : ∀ p q : Option Addr, (p = none ∨ q = none) → (Op.equal ty (.pointer p) (.pointer q)).run P w = .ok (p.isNone && q.isNone) w := by
      intro p q hpq
      have gen : ∀ d, (Op.equalIn (d + 1) ty (.pointer p) (.pointer q)).run P w = .ok (p.isNone && q.isNone) w := by
        intro d; cases p <;> cases q <;> simp at hpq <;> simp [Op.equalIn, run_und hu]
      exact gen 9999
    have sh : ∀ p q : Option Addr, ∀ op', op' = .eql ∨ op' = .neq → binOp op' ty (.pointer p) (.pointer q) = (if op' = .eql then do pure (.bool (← Op.equal ty (.pointer p) (.pointer q))) else do pure (.bool (!(← Op.equal ty (.pointer p) (.pointer q))))) := by
      intro p q op' ho; rcases ho with rfl | rfl <;> rfl
    split at hv
    · exact bins_eq (b := false) (eq1 _ _ (.inr rfl)) (sh _ _) (fun _ _ _ _ => eqGuard_scalar rfl) (.inr hv)
    · exact bins_eq (b := false) (eq1 _ _ (.inl rfl)) (sh _ _) (fun _ _ _ _ => eqGuard_scalar rfl) (.inr hv)
    · exact bins_eq (b := true) (eq1 _ _ (.inl rfl)) (sh _ _) (fun _ _ _ _ => eqGuard_scalar rfl) (.inr hv)
    · rename_i k o k' o'
      cases hk : k == k' with
      | false => simp [hk] at hv
      | true =>
        simp [hk] at hv
        have hk' : k = k' := by simpa using hk
        subst hk'
        refine bins_eq (b := o == o') ?_ (sh _ _) (fun _ _ _ _ => eqGuard_scalar rfl) (.inr hv)
        have gen : ∀ d (b : Nat), (Op.equalIn (d + 1) ty (.pointer (some ⟨b, o, none⟩)) (.pointer (some ⟨b, o', none⟩))).run P w = .ok (o == o') w := by
          intro d b
          by_cases h : o = o'
          · subst h; simp [Op.equalIn, run_und hu, run_size hsz, sameAddr]
          · have e1 : ((⟨b, o, none⟩ : Addr) == ⟨b, o', none⟩) = false := beq_false_of_ne (by simp [h])
            have e2 : (o == o') = false := beq_false_of_ne h
            simp [Op.equalIn, run_und hu, run_size hsz, sameAddr, e1, e2]
        exact gen 9999 _
    · exact hv.elim
  case agg cl =>
    obtain ⟨h1, h2, h3⟩ : isAggT P ty = some true ∧ P.eqGuardType P.depth ty = false ∧ clsT P 9999 ty = some cl := by have := binKind_spec (P := P) op ty x y; rwa [hbk] at this
    apply fin
    split at hv
    · rename_i l m
      split at hv
      · rename_i b hb
        refine bins_eq (b := b) ?_ ?_ ?_ (.inl hv)
        · have := run_eq_cls (P := P) 1 9999 ty cl h3 _ _ b w (eqCells_val ρ hb)
          rw [mkV_agg h1, mkV_agg h1] at this
          exact this
        · intro op' ho; rcases ho with rfl | rfl <;> rfl
        · intro op' x' y' ho
          rcases ho with rfl | rfl <;> simp [val, eqGuard, h2]
      · exact hv.elim
    · exact hv.elim
  case ifn =>
    obtain ⟨⟨ms, hu⟩, hn⟩ : (∃ ms, P.underlying ty = some (.interface ms)) ∧ (x = .const .nilIface ∨ y = .const .nilIface) := by have := binKind_spec (P := P) op ty x y; rwa [hbk] at this
    have gen1 : ∀ d t z, (Op.equalIn (d + 1) ty (.iface t z) .nilIface).run P w = .ok false w := by intro d t z; simp [Op.equalIn, run_und hu]
    have gen2 : ∀ d t z, (Op.equalIn (d + 1) ty .nilIface (.iface t z)).run P w = .ok false w := by intro d t z; simp [Op.equalIn, run_und hu]
    have gen3 : ∀ d, (Op.equalIn (d + 1) ty .nilIface .nilIface).run P w = .ok true w := by intro d; simp [Op.equalIn, run_und hu]
    have hg : ∀ u v : Value, ((∃ t z, u = .iface t z) ∨ (∃ t z, v = .iface t z)) → ∀ op' x' y', (eqGuard op' ty x' y' u v).run P w = .ok () w := by
      rintro u v (⟨t, z, rfl⟩ | ⟨t, z, rfl⟩) op' x' y' <;> refine eqGuard_scalar ?_
      · cases v <;> rfl
      · cases u <;> rfl
    split at hv
    · apply fin
      exact bins_eq (b := false) (gen1 9999 _ _) (by intro op' ho; rcases ho with rfl | rfl <;> rfl) (fun op' x' y' _ => hg _ _ (.inl ⟨_, _, rfl⟩) op' x' y') (.inr hv)
    · apply fin
      exact bins_eq (b := false) (gen2 9999 _ _) (by intro op' ho; rcases ho with rfl | rfl <;> rfl) (fun op' x' y' _ => hg _ _ (.inr ⟨_, _, rfl⟩) op' x' y') (.inr hv)
    · have hg2 : (eqGuard op ty x y .nilIface .nilIface).run P w = .ok () w := by
        unfold eqGuard
        rcases hn with rfl | rfl <;> split <;> simp
      have heq : (Op.equal ty .nilIface .nilIface).run P w = .ok true w := gen3 9999
      unfold vcEq at hv
      split at hv
      · exact ⟨.kb true, fun _ => rfl, hv, by simp [val, binOp, heq], hg2⟩
      · rename_i hh; cases hh
      · rename_i hh; cases hh
      · exact ⟨.kb false, fun _ => rfl, hv, by simp [val, binOp, heq], hg2⟩
      · exact hv.elim
    · exact hv.elim
  case sl =>
    obtain ⟨e, hu⟩ : ∃ e, P.underlying ty = some (.slice e) := by have := binKind_spec (P := P) op ty x y; rwa [hbk] at this
    apply fin
    have eq1 : ∀ (p : Option Addr) n c n' c', (Op.equal ty (.slice p n c) (.slice none n' c')).run P w = .ok p.isNone w := by
      intro p n c n' c'
      have gen : ∀ d, (Op.equalIn (d + 1) ty (.slice p n c) (.slice none n' c')).run P w = .ok p.isNone w := by intro d; cases p <;> simp [Op.equalIn, run_und hu]
      exact gen 9999
    split at hv
    · exact bins_eq (b := true) (eq1 _ _ _ _ _) (by intro op' ho; rcases ho with rfl | rfl <;> rfl) (fun _ _ _ _ => eqGuard_scalar rfl) (.inr hv)
    · rename_i k o n c n' c'
      rw [objK_eq] at hv
      have key : ∀ xs e', (obj H k = .arr xs e' ∨ obj H k = .ro xs e') → (∀ b : Bool, (xs ≠ [] → b = false) → vcEqB op b Kv) → Bins P ρ w op ty (.sl k o n c) (.raw (.slice none n' c')) Kv := by
        intro xs e' hk h
        refine bins_eq (b := (ρ k).isNone) (by simp only [val]; rw [eq1]; simp) (by intro op' ho; rcases ho with rfl | rfl <;> rfl) (fun _ _ _ _ => eqGuard_scalar rfl) (.inl (h _ ?_))
        intro hne
        rcases row_of hS hk with h1 | ⟨b, fr, h1, _⟩
        · exact absurd h1 hne
        · simp [h1]
      split at hv
      · rename_i xs e' hk; exact key xs e' (.inl hk) hv
      · rename_i xs e' hk; exact key xs e' (.inr hk) hv
      · exact hv.elim
    · exact hv.elim
  case mp =>
    obtain ⟨k0, e, hu⟩ : ∃ k e, P.underlying ty = some (.map k e) := by have := binKind_spec (P := P) op ty x y; rwa [hbk] at this
    apply fin
    have eq1 : ∀ (p : Option Nat), (Op.equal ty (.map p) (.map none)).run P w = .ok p.isNone w := by
      intro p
      have gen : ∀ d, (Op.equalIn (d + 1) ty (.map p) (.map none)).run P w = .ok p.isNone w := by intro d; cases p <;> simp [Op.equalIn, run_und hu]
      exact gen 9999
    split at hv
    · exact bins_eq (b := true) (eq1 _) (by intro op' ho; rcases ho with rfl | rfl <;> rfl) (fun _ _ _ _ => eqGuard_scalar rfl) (.inr hv)
    · rename_i k
      rw [objK_eq] at hv
      split at hv
      · rename_i es c hk
        have hk' : H[k]? = some (.map es c) := by rw [← hk]; exact obj_some (by simp [hk])
        obtain ⟨b, hb, _⟩ := hS.ent k _ hk'
        exact bins_eq (b := false) (by simp only [val]; rw [eq1]; simp [hb]) (by intro op' ho; rcases ho with rfl | rfl <;> rfl) (fun _ _ _ _ => eqGuard_scalar rfl) (.inr hv)
      · exact hv.elim
    · exact hv.elim

theorem s_bin (h : At P ρ H g w t a) {op : BinOp} {ty : TypeId} {x y : Operand} {x' y' : Opd} (hx : cOpd x = some x') (hy : cOpd y = some y') (hv : vcOp P (.bin op (binKind P op ty x y) x' y') t H K) :
    GoodRes1 P ρ H K w ((do pure (Next.value (← (do eqGuard op ty x y (a.eval x) (a.eval y); binOp op ty (a.eval x) (a.eval y)))) : Sem Next).run P w) := by
  simp only [vcOp, evK_eq] at hv
  obtain ⟨sv, h1, h2, h3, h4⟩ := sound_bin (a := a) h.s hv (h.eq hx).symm (h.eq hy).symm
  rw [h.eq hx, h.eq hy]
  exact GoodRes1.val (by simp [h4, h3]) (Here.here (h1 _) h2)
end
end Go.V
