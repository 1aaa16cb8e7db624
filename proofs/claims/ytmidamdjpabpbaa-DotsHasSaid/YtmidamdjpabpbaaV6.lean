/- Part of the proof that the statement named in the last file holds: lemmas of the prover's own. No conditions. -/
import Derived.Test.YtmidamdjpabpbaaV5
namespace Go.V
open Go
set_option linter.unusedVariables false

/-- What has come of an operation that yields v in w'. -/
def Res (ρ : Rho) (H : List SO) (g : Fr) (K : SV → List SO → Prop) (v : Value) (w' : World) : Prop :=
  ∃ ρ' sv H', v = val ρ' sv ∧ St ρ' H' g w' ∧ (∀ k, k < H.length → ρ' k = ρ k) ∧ H.length ≤ H'.length ∧ below H'.length sv = true ∧ K sv H'
def GoodRes (P : Program) (ρ : Rho) (H : List SO) (g : Fr) (K : SV → List SO → Prop) : Result Next → Prop
  | .ok (.value v) w' => Res ρ H g K v w'
  | .ok .skip w' => Res ρ H g K undef w'
  | .ok (.enter f args) w' => Calls P f args w' fun e w'' => ∃ v, e = .returned v ∧ Res ρ H g K v w''
  | _ => False

/-- What has come of an operation that leaves the world as it was. -/
def Here (ρ : Rho) (H : List SO) (K : SV → List SO → Prop) (v : Value) : Prop := ∃ sv, v = val ρ sv ∧ below H.length sv = true ∧ K sv H
def GoodRes1 (P : Program) (ρ : Rho) (H : List SO) (K : SV → List SO → Prop) (w : World) (r : Result Next) : Prop := ∃ v, r = .ok (.value v) w ∧ Here ρ H K v
theorem GoodRes1_ok {P : Program} {ρ : Rho} {H : List SO} {K : SV → List SO → Prop} {w : World} {v : Value} : GoodRes1 P ρ H K w (.ok (.value v) w) ↔ Here ρ H K v := by
  unfold GoodRes1
  exact ⟨fun ⟨v', h1, h2⟩ => by cases h1; exact h2, fun h => ⟨v, rfl, h⟩⟩
theorem Here.here {ρ : Rho} {H : List SO} {K : SV → List SO → Prop} {sv : SV} (hb : below H.length sv = true) (hK : K sv H) : Here ρ H K (val ρ sv) := ⟨sv, rfl, hb, hK⟩

section
variable {P : Program} {ρ : Rho} {H : List SO} {g : Fr} {w w' : World} {K : SV → List SO → Prop} {t : List SV} {a : Act}

theorem Res.here (hS : St ρ H g w) {sv : SV} (hb : below H.length sv = true) (hK : K sv H) : Res ρ H g K (val ρ sv) w :=
  ⟨ρ, sv, H, rfl, hS, fun _ _ => rfl, Nat.le_refl _, hb, hK⟩
theorem Here.res (hS : St ρ H g w) {v : Value} (h : Here ρ H K v) : Res ρ H g K v w := by
  obtain ⟨sv, rfl, hb, hK⟩ := h
  exact Res.here hS hb hK
theorem GoodRes1.good (hS : St ρ H g w) {r : Result Next} (h : GoodRes1 P ρ H K w r) : GoodRes P ρ H g K r := by
  obtain ⟨v, rfl, h⟩ := h
  exact h.res hS
theorem Res.alloc (hS : St ρ H g w) {so : SO} {o : Obj} {sv : SV} {v : Value} (hw : HeapIs w w' (w.heap.push o)) (hown : so.owned = true)
    (he : entryOK (upd ρ H.length (some w.heap.size)) w' H.length so)
    (hs : ∀ l e, so = .cells l e → belowL H.length l = true) (hi : ∀ m s seen st, so = .iter (some m) s seen st → m < H.length)
    (hv : v = val (upd ρ H.length (some w.heap.size)) sv) (hb : below (H.length + 1) sv = true) (hK : K sv (H ++ [so])) : Res ρ H g K v w' :=
  ⟨upd ρ H.length (some w.heap.size), sv, H ++ [so], hv, hS.alloc hw hown he hs hi, fun _ h => upd_lt ρ _ h, by simp, by simpa using hb, hK⟩

theorem heap_push_new {w' : World} {o : Obj} (hw : w'.heap = w.heap.push o) : w'.heap[w.heap.size]? = some o := by rw [hw]; simp

/-! ### Loads -/
section loads
variable {ty : TypeId} {k o b : Nat} {e : TypeId} {fr : Nat × Nat}
theorem load_cell1 (hs : shapeT P ty = some none) (hb : ρ k = some b) {c : Array Value} {v : Value} (hh : w.heap[b]? = some (.cells c e fr)) (hv : c[o]? = some v) :
    (Instr.loadAt ty (.pointer (some ⟨(ρ k).getD 0, o, none⟩))).run P w = .ok v w := by
  have := run_loadVar1 (w := w) (a := ⟨b, o, none⟩) (v := v) hs (by rw [cell_of hh, hv])
  simp [hb, Instr.loadAt, Instr.sureAddr, this]
theorem load_cellN {l : List Value} (hs : shapeT P ty = some (some l.length)) (hb : ρ k = some b) {c : Array Value} (hh : w.heap[b]? = some (.cells c e fr)) (hv : ∀ j, j < l.length → l[j]? = c[o + j]?) :
    (Instr.loadAt ty (.pointer (some ⟨(ρ k).getD 0, o, none⟩))).run P w = .ok (.agg l.toArray) w := by
  have := run_loadVarN (w := w) (a := ⟨b, o, none⟩) (l := l) hs (by
    intro j v hj
    rw [add_eq, cell_of hh, ← hv j (List.getElem?_eq_some_iff.1 hj).1, hj])
  simp [hb, Instr.loadAt, Instr.sureAddr, this]
theorem row_of (hS : St ρ H g w) {xs : List Value} (hk : obj H k = .arr xs e ∨ obj H k = .ro xs e) : xs = [] ∨ ∃ b fr, ρ k = some b ∧ w.heap[b]? = some (.cells xs.toArray e fr) := by
  rcases hk with hk | hk
  · have := hS.ent k _ (show H[k]? = some (.arr xs e) by rw [← hk]; exact obj_some (by simp [hk]))
    rcases this with ⟨_, h2⟩ | ⟨b, fr, h1, h2, _⟩
    · exact .inl h2
    · exact .inr ⟨b, _, h1, h2⟩
  · have := hS.ent k _ (show H[k]? = some (.ro xs e) by rw [← hk]; exact obj_some (by simp [hk]))
    rcases this with ⟨_, h2⟩ | ⟨b, fr, h1, h2⟩
    · exact .inl h2
    · exact .inr ⟨b, _, h1, h2⟩
theorem cells_of (hS : St ρ H g w) {l : List SV} (hk : obj H k = .cells l e) : H[k]? = some (.cells l e) ∧ belowL H.length l = true ∧ ∃ b, ρ k = some b ∧ w.heap[b]? = some (.cells (valL ρ l).toArray e (0, 0)) := by
  have hk' : H[k]? = some (.cells l e) := by rw [← hk]; exact obj_some (by simp [hk])
  exact ⟨hk', hS.scp k l e hk', hS.ent k _ hk'⟩

def Loads (P : Program) (ρ : Rho) (H : List SO) (g : Fr) (w : World) (K : SV → List SO → Prop) (ty : TypeId) (k o : Nat) : Prop :=
  ∃ v, (Instr.loadAt ty (.pointer (some ⟨(ρ k).getD 0, o, none⟩))).run P w = .ok v w ∧ Here ρ H K v

theorem loads_cell1 (hS : St ρ H g w) (hs : shapeT P ty = some none) {l : List SV} (hk : obj H k = .cells l e) {v : SV} (h1 : l[o]? = some v) (h2 : K v H) : Loads P ρ H g w K ty k o := by
  obtain ⟨_, hsc, b, hb, hh⟩ := cells_of hS hk
  exact ⟨val ρ v, load_cell1 hs hb hh (by rw [valL_eq]; simp [h1]), Here.here ((belowL_eq _ _).1 hsc v (List.mem_of_getElem? h1)) h2⟩
theorem loads_cellN (hS : St ρ H g w) {m : Nat} (hs : shapeT P ty = some (some m)) {l l' : List SV} (hk : obj H k = .cells l e) (h1 : cut l o m = some l') (h2 : K (.agg l') H) : Loads P ρ H g w K ty k o := by
  obtain ⟨_, hsc, b, hb, hh⟩ := cells_of hS hk
  obtain ⟨c1, c2⟩ := cut_spec h1
  refine ⟨val ρ (.agg l'), load_cellN (by rw [valL_eq, List.length_map, c1]; exact hs) hb hh ?_, Here.here ?_ h2⟩
  · intro j hj
    rw [valL_eq, List.length_map] at hj
    have := c2 j (by omega)
    rw [valL_eq, valL_eq]; simp [this]
  · simp only [below]; rw [belowL_eq] at hsc ⊢; exact fun v hv => hsc v (cut_mem h1 v hv)
theorem loads_row1 (hS : St ρ H g w) (hs : shapeT P ty = some none) {xs : List Value} (hk : obj H k = .arr xs e ∨ obj H k = .ro xs e) {v : Value} (h1 : xs[o]? = some v) (h2 : K (.raw v) H) : Loads P ρ H g w K ty k o := by
  rcases row_of hS hk with rfl | ⟨b, fr, hb, hh⟩
  · simp at h1
  · exact ⟨v, load_cell1 hs hb hh (by simp [h1]), by simpa [val] using Here.here (ρ := ρ) (sv := .raw v) rfl h2⟩
theorem loads_rowN (hS : St ρ H g w) {m : Nat} (hs : shapeT P ty = some (some m)) {xs l' : List Value} (hk : obj H k = .arr xs e ∨ obj H k = .ro xs e) (h1 : cut xs o m = some l') (h2 : K (.agg (l'.map .raw)) H) : Loads P ρ H g w K ty k o := by
  obtain ⟨c1, c2⟩ := cut_spec h1
  have hbel : below H.length (.agg (l'.map .raw)) = true := below_raws _ _
  have hval : val ρ (.agg (l'.map .raw)) = .agg l'.toArray := by simp [val, valL_eq, Function.comp_def]
  rcases row_of hS hk with rfl | ⟨b, fr, hb, hh⟩
  · cases m with
    | zero => exact absurd hs shape_zero
    | succ m => cases o <;> simp [cut] at h1
  · exact ⟨.agg l'.toArray, load_cellN (by rw [c1]; exact hs) hb hh (fun j hj => by rw [c2 j (by omega)]; simp), hval ▸ Here.here hbel h2⟩

theorem sound_load {n : Option Nat} {adr : SV} (hs : shapeT P ty = some n) (hS : St ρ H g w) (hv : vcLoad n adr H fun v => K v H) :
    ∃ v, (Instr.loadAt ty (val ρ adr)).run P w = .ok v w ∧ Here ρ H K v := by
  cases adr <;> simp only [vcLoad] at hv <;> try exact hv.elim
  all_goals
    rename_i k o
    simp only [objK_eq] at hv
    simp only [val]
    cases hk : obj H k <;> simp only [hk] at hv <;> try exact hv.elim
    all_goals cases n <;> simp only at hv
  · split at hv
    · exact loads_cell1 hS hs hk (by assumption) hv
    · exact hv.elim
  · split at hv
    · exact loads_cellN hS hs hk (by assumption) hv
    · exact hv.elim
  · obtain ⟨v, h1, h2⟩ := hv; exact loads_row1 hS hs (.inl hk) h1 h2
  · obtain ⟨v, h1, h2⟩ := hv; exact loads_rowN hS hs (.inl hk) h1 (by simpa [rawsK_eq] using h2)
  · obtain ⟨v, h1, h2⟩ := hv; exact loads_row1 hS hs (.inr hk) h1 h2
  · obtain ⟨v, h1, h2⟩ := hv; exact loads_rowN hS hs (.inr hk) h1 (by simpa [rawsK_eq] using h2)
  · obtain ⟨v, h1, h2⟩ := hv; exact loads_cell1 hS hs hk h1 h2
  · obtain ⟨v, h1, h2⟩ := hv; exact loads_cellN hS hs hk h1 h2
  · obtain ⟨v, h1, h2⟩ := hv; exact loads_row1 hS hs (.inl hk) h1 h2
  · obtain ⟨v, h1, h2⟩ := hv; exact loads_rowN hS hs (.inl hk) h1 (by simpa [rawsK_eq] using h2)
  · obtain ⟨v, h1, h2⟩ := hv; exact loads_row1 hS hs (.inr hk) h1 h2
  · obtain ⟨v, h1, h2⟩ := hv; exact loads_rowN hS hs (.inr hk) h1 (by simpa [rawsK_eq] using h2)
end loads

/-! ### Stores -/
section stores
variable {ty : TypeId} {k o : Nat} {e : TypeId}
def Stores (P : Program) (ρ : Rho) (H : List SO) (g : Fr) (w : World) (K : SV → List SO → Prop) (ty : TypeId) (k o : Nat) (v : Value) : Prop :=
  ∃ w', (Instr.storeAt ty (.pointer (some ⟨(ρ k).getD 0, o, none⟩)) v).run P w = .ok () w' ∧ Res ρ H g K undef w'

theorem stored_spec {n : Option Nat} {v : SV} {ys : List SV} (hs : shapeT P ty = some n) (h : stored n v = some ys) :
    (val ρ v).cells.toList = valL ρ ys ∧ sizeT P ty = some ys.length ∧ (∀ x ∈ valL ρ ys, x.oneCell' = true) ∧ (∀ m, below m v = true → belowL m ys = true) := by
  cases n with
  | none =>
    simp only [stored] at h
    cases h1 : one v <;> simp [h1] at h
    subst h
    refine ⟨?_, (shape_none hs).2, oneL_val ρ (by simp [oneL, h1]), fun m hm => by simp [belowL, hm]⟩
    cases v <;> simp [one] at h1 <;> simp [val, Value.cells, valL]
    rename_i x
    cases x <;> simp_all
  | some m =>
    cases v <;> simp only [stored] at h <;> try (cases h)
    rename_i l
    cases h1 : oneL l && (l.length == m) <;> simp [h1] at h
    subst h
    simp at h1
    exact ⟨by simp [val, Value.cells], by rw [h1.2]; exact (shape_some hs).2, oneL_val ρ h1.1, fun m hm => by simpa [below] using hm⟩

theorem store_run {v : SV} {ys : List SV} {n : Option Nat} {b : Nat} {c : Array Value} {fr : Nat × Nat} (hs : shapeT P ty = some n) (h : stored n v = some ys) (hb : ρ k = some b)
    (hh : w.heap[b]? = some (.cells c e fr)) (hlen : o + ys.length ≤ c.size) (hfr : fr.1 = fr.2 ∨ c.size ≤ fr.1) :
    ∃ w' c', (Instr.storeAt ty (.pointer (some ⟨(ρ k).getD 0, o, none⟩)) (val ρ v)).run P w = .ok () w' ∧ HeapIs w w' (w.heap.setIfInBounds b (.cells c' e fr)) ∧ c'.size = c.size ∧
      ∀ j, c'[j]? = if o ≤ j ∧ j < o + ys.length then (valL ρ ys)[j - o]? else c[j]? := by
  obtain ⟨h1, h2, h3, _⟩ := stored_spec (ρ := ρ) hs h
  have hl : (valL ρ ys).length = ys.length := by rw [valL_eq]; simp
  obtain ⟨w', c', r1, r2, r3, r4⟩ := run_storeCells (P := P) (o := o) (valL ρ ys) 0 c w hh h3 (by omega) hfr
  refine ⟨w', c', ?_, r2, r3, fun j => by simpa [hl] using r4 j⟩
  have hsz : (val ρ v).cells.size = ys.length := by rw [← hl, ← h1]; simp
  simp only [hb, Option.getD_some, Instr.storeAt, Instr.sureAddr, storeVar]
  simp [run_size h2, hsz, h1, r1]

theorem stores_cells (hS : St ρ H g w) {n : Option Nat} (hs : shapeT P ty = some n) {l l' : List SV} (hk : obj H k = .cells l e) {v : SV} {ys : List SV} (h : stored n v = some ys) (hvb : below H.length v = true)
    (hp : paste l o ys = some l') (hK : K un (H.set k (.cells l' e))) : Stores P ρ H g w K ty k o (val ρ v) := by
  obtain ⟨hk', hsc, b, hb, hh⟩ := cells_of hS hk
  obtain ⟨p1, p2, p3⟩ := paste_spec hp
  have hl : (valL ρ l).length = l.length := by rw [valL_eq]; simp
  obtain ⟨w', c', r1, r2, r3, r4⟩ := store_run (P := P) (w := w) (o := o) hs h hb hh (by simp [hl]; exact p1) (.inl rfl)
  have hc' : c' = (valL ρ l').toArray := by
    apply Array.ext_getElem?
    intro j
    rw [r4 j]
    simp only [valL_eq, List.getElem?_toArray, List.getElem?_map, p3 j]
    split <;> simp
  have hlt := (Array.getElem?_eq_some_iff.1 hh).1
  refine ⟨w', r1, ρ, un, H.set k (.cells l' e), by simp [val, undef], ?_, fun _ _ => rfl, by simp, rfl, hK⟩
  refine hS.set hk' rfl rfl hb r2 ⟨b, hb, ?_⟩ ?_ (by simp)
  · rw [r2.1]; simp [hlt, hc']
  · intro l2 e2 he
    cases he
    rw [belowL_eq] at hsc ⊢
    intro x hx
    rcases paste_mem hp x hx with h1 | h1
    · exact hsc x h1
    · exact (belowL_eq _ _).1 ((stored_spec (ρ := ρ) hs h).2.2.2 _ hvb) x h1

theorem stores_row (hS : St ρ H g w) {n : Option Nat} (hs : shapeT P ty = some n) {xs l' : List Value} (hk : obj H k = .arr xs e) {v : SV} {ys : List SV} {zs : List Value} (h : stored n v = some ys) (hz : plainL ys = some zs)
    (hp : paste xs o zs = some l') (hK : K un (H.set k (.arr l' e))) : Stores P ρ H g w K ty k o (val ρ v) := by
  have hk' : H[k]? = some (.arr xs e) := by rw [← hk]; exact obj_some (by simp [hk])
  obtain ⟨p1, p2, p3⟩ := paste_spec hp
  have hz' := plainL_val ρ hz
  have hzl : zs.length = ys.length := by rw [← hz', valL_eq]; simp
  rcases hS.ent k _ hk' with ⟨_, rfl⟩ | ⟨b, fr, hb, hh, hfr⟩
  · -- no room in a nil row
    have h0 : ys.length = 0 := by simp only [List.length_nil] at p1; omega
    exfalso
    have := (stored_spec (ρ := ρ) hs h).2.1
    rw [h0] at this
    cases n with
    | none => rw [(shape_none hs).2] at this; cases this
    | some m => rw [(shape_some hs).2] at this; cases this; exact shape_zero hs
  · obtain ⟨w', c', r1, r2, r3, r4⟩ := store_run (P := P) (w := w) (o := o) hs h hb hh (by simp; omega) (by simpa using hfr)
    have hc' : c' = l'.toArray := by
      apply Array.ext_getElem?
      intro j
      rw [r4 j]
      simp only [List.getElem?_toArray, p3 j, hz', hzl]
    have hlt := (Array.getElem?_eq_some_iff.1 hh).1
    refine ⟨w', r1, ρ, un, H.set k (.arr l' e), by simp [val, undef], ?_, fun _ _ => rfl, by simp, rfl, hK⟩
    refine hS.set hk' rfl rfl hb r2 (.inr ⟨b, fr, hb, ?_, by rw [p2]; exact hfr⟩) (by simp) (by simp)
    rw [r2.1]; simp [hlt, hc']

theorem sound_store {n : Option Nat} {adr v : SV} (hs : shapeT P ty = some n) (hS : St ρ H g w) (hvb : below H.length v = true) (hv : vcStore n adr v H fun H' => K un H') :
    ∃ w', (Instr.storeAt ty (val ρ adr) (val ρ v)).run P w = .ok () w' ∧ Res ρ H g K undef w' := by
  unfold vcStore at hv
  cases hst : stored n v <;> simp only [hst] at hv
  rename_i ys
  cases adr <;> simp only at hv <;> try exact hv.elim
  all_goals
    rename_i k o
    simp only [objK_eq] at hv
    simp only [val]
    cases hk : obj H k <;> simp only [hk] at hv <;> try exact hv.elim
  · split at hv
    · rw [setHK_eq] at hv; exact stores_cells hS hs hk hst hvb (by assumption) hv
    · exact hv.elim
  · split at hv
    · obtain ⟨l', h1, h2⟩ := hv
      rw [setHK_eq] at h2; exact stores_row hS hs hk hst (by assumption) h1 h2
    · exact hv.elim
  · obtain ⟨l', h1, h2⟩ := hv
    rw [setHK_eq] at h2; exact stores_cells hS hs hk hst hvb h1 h2
  · split at hv
    · obtain ⟨l', h1, h2⟩ := hv
      rw [setHK_eq] at h2; exact stores_row hS hs hk hst (by assumption) h1 h2
    · exact hv.elim
end stores
end
end Go.V
