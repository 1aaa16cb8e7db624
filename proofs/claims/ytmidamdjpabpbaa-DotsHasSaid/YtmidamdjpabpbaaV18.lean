/- Part of the proof that the statement named in the last file holds: lemmas of the prover's own. No conditions. -/
import Derived.OrdersHeld
namespace Go.V
open Go

/-! ### Orders: several operations taken early, each on a condition of its own -/
section
variable {P : Program} {ops : Array Oper} {Q : Exit → Act → World → Prop} {md : Region.Mode}

/-- What j waits for. -/
def aftersOf (md : Region.Mode) (ops : Array Oper) (j : Nat) : List Nat :=
  match ops[j]? with
  | none => []
  | some o => o.after.toList.filterMap fun e => bif Region.binds md e then some e.on else none
def addAll (acc : List Nat) : List Nat → List Nat
  | [] => acc
  | e :: l => addAll (bif acc.contains e then acc else e :: acc) l
def reachStep (md : Region.Mode) (ops : Array Oper) (acc : List Nat) : List Nat → List Nat
  | [] => acc
  | k :: l => reachStep md ops (addAll acc (aftersOf md ops k)) l
def reach (md : Region.Mode) (ops : Array Oper) : Nat → List Nat → List Nat
  | 0, S => S
  | n + 1, S => bif (reachStep md ops S S).length == S.length then S else reach md ops n (reachStep md ops S S)
/-- What j waits for, maybe through others. -/
def ancs (md : Region.Mode) (ops : Array Oper) (j : Nat) : List Nat := reach md ops ops.size (aftersOf md ops j)

def Closed (md : Region.Mode) (ops : Array Oper) (L : Array Bool) : Prop :=
  ∀ (j : Nat) o, ops[j]? = some o → L.getD j false = true → ∀ e ∈ o.after, Region.binds md e = true → L.getD e.on false = true

theorem addAll_mem : ∀ (l acc : List Nat) (x : Nat), x ∈ addAll acc l → x ∈ acc ∨ x ∈ l
  | [], _, _, h => .inl h
  | e :: l, acc, x, h => by
    rcases addAll_mem l _ x h with h1 | h1
    · cases hc : acc.contains e with
      | true => rw [hc] at h1; exact .inl h1
      | false =>
        rw [hc] at h1
        rcases List.mem_cons.1 h1 with rfl | h2
        · exact .inr (by simp)
        · exact .inl h2
    · exact .inr (by simp [h1])
theorem aftersOf_listed {L : Array Bool} {j : Nat} (hj : ∀ o, ops[j]? = some o → ∀ e ∈ o.after, Region.binds md e = true → L.getD e.on false = true) : ∀ i ∈ aftersOf md ops j, L.getD i false = true := by
  intro i hi
  unfold aftersOf at hi
  split at hi
  · cases hi
  · rename_i o ho
    obtain ⟨e, he, h1⟩ := List.mem_filterMap.1 hi
    cases hb : Region.binds md e with
    | false => rw [hb] at h1; cases h1
    | true => rw [hb] at h1; cases h1; exact hj o ho e (by simpa using he) hb
theorem reachStep_listed {L : Array Bool} (hc : Closed md ops L) : ∀ (l acc : List Nat), (∀ i ∈ l, L.getD i false = true) → (∀ i ∈ acc, L.getD i false = true) → ∀ i ∈ reachStep md ops acc l, L.getD i false = true
  | [], _, _, h => h
  | k :: l, acc, hl, ha => by
    refine reachStep_listed hc l _ (fun i hi => hl i (by simp [hi])) ?_
    intro i hi
    rcases addAll_mem _ _ i hi with h1 | h1
    · exact ha i h1
    · exact aftersOf_listed (fun o ho => hc k o ho (hl k (by simp))) i h1
theorem reach_listed {L : Array Bool} (hc : Closed md ops L) : ∀ (n : Nat) (S : List Nat), (∀ i ∈ S, L.getD i false = true) → ∀ i ∈ reach md ops n S, L.getD i false = true
  | 0, _, h => h
  | n + 1, S, h => by
    simp only [reach]
    cases (reachStep md ops S S).length == S.length
    · exact reach_listed hc n _ (reachStep_listed hc S S h h)
    · exact h
theorem anc_listed {L : Array Bool} (hc : Closed md ops L) {i j : Nat} (hj : ∀ o, ops[j]? = some o → ∀ e ∈ o.after, Region.binds md e = true → L.getD e.on false = true) (h : (ancs md ops j).contains i = true) : L.getD i false = true :=
  reach_listed hc _ _ (aftersOf_listed hj) i (by simpa [ancs] using h)

theorem listed_lt {L : Array Bool} {i : Nat} (h : L.getD i true = false) : i < L.size ∧ L.getD i false = false := by
  rcases Nat.lt_or_ge i L.size with h' | h'
  · refine ⟨h', ?_⟩
    simp [h'] at h ⊢; exact h
  · simp [Array.getElem?_eq_none h'] at h

theorem Closed.set {L : Array Bool} (hc : Closed md ops L) {i : Nat} (hi : i ∈ Region.ready md ops L) : Closed md ops (L.setIfInBounds i true) := by
  intro j o ho hj e he hb
  obtain ⟨h0, oi, hoi, hall⟩ := mem_ready.1 hi
  by_cases hij : i = j
  · subst hij
    rw [hoi] at ho; cases ho
    exact getD_set_true (hall e he hb)
  · rw [getD_set_ne false hij] at hj
    exact getD_set_true (hc j o ho hj e he hb)

/-- Those taken early, and the conditions under which they still yield what they yielded. -/
abbrev Pend := Nat → (World → Prop) → Prop
def Pend.after (md : Region.Mode) (ops : Array Oper) (p : Pend) (j : Nat) : Pend := fun i S => p i S ∧ (ancs md ops j).contains i = false
def Pend.with (p : Pend) (i : Nat) (S : World → Prop) : Pend := fun k S' => p k S' ∨ (k = i ∧ S' = S)
def Pend.ok (p : Pend) (w : World) : Prop := ∀ i S, p i S → S w

def wpAnyR (P : Program) (md : Region.Mode) (ops : Array Oper) (Q : Exit → Act → World → Prop) : Nat → Pend → Array Bool → Act → World → Prop
  | 0, _, listed, a, w => Region.ready md ops listed = [] ∧ Q .normal a w
  | fuel + 1, p, listed, a, w =>
    (Region.ready md ops listed = [] → Q .normal a w) ∧
    ∀ j ∈ Region.ready md ops listed, wpOp P ops Q j (fun a' w' => (p.after md ops j).ok w' ∧ wpAnyR P md ops Q fuel (p.after md ops j) (listed.setIfInBounds j true) a' w') a w

theorem wpAnyR_weaken : ∀ (fuel : Nat) (p p' : Pend) (L : Array Bool) (a : Act) (w : World), (∀ i S, p' i S → p i S ∨ ∀ w, S w) → wpAnyR P md ops Q fuel p L a w → wpAnyR P md ops Q fuel p' L a w
  | 0, _, _, _, _, _, _, h => h
  | fuel + 1, p, p', L, a, w, hp, h => by
    refine ⟨h.1, fun j hj => wpOp_mono ?_ (h.2 j hj)⟩
    intro a' w' h'
    have hp' : ∀ i S, (p'.after md ops j) i S → (p.after md ops j) i S ∨ ∀ w, S w := fun i S hs => (hp i S hs.1).imp (fun h => ⟨h, hs.2⟩) id
    exact ⟨fun i S hs => (hp' i S hs).elim (h'.1 i S) (fun h => h w'), wpAnyR_weaken fuel _ _ _ _ _ hp' h'.2⟩

theorem wpAny_of_R : ∀ (fuel : Nat) (p : Pend) (L : Array Bool) (a : Act) (w : World), wpAnyR P md ops Q fuel p L a w → wpAny P md ops Q fuel L a w
  | 0, _, _, _, _, h => h
  | fuel + 1, _, _, _, _, h => ⟨h.1, fun i hi => wpOp_mono (fun a' w' h' => wpAny_of_R fuel _ _ a' w' h'.2) (h.2 i hi)⟩

theorem wpAnyR_first {i : Nat} {oi : Oper} {v : Value} {S : World → Prop} (hi : ops[i]? = some oi) (hsel : ∀ (j : Nat) (o : Oper) cs b, ops[j]? = some o → o.op ≠ .select cs b)
    (hQ : ∀ c a w, ¬ Q (.panic c) a w) :
    ∀ (fuel : Nat) (p : Pend) (listed : Array Bool) (a : Act) (w : World), Closed md ops listed →
      (∀ (j : Nat) oj, ops[j]? = some oj → j ≠ i → listed.getD j true = false → (∀ e ∈ oj.after, Region.binds md e = true → e.on ≠ i) → oi.apart ops oj = true) →
      i ∈ Region.ready md ops listed → YieldsIf P ops S oi v a → S w → p.ok w →
      wpAnyR P md ops Q fuel (p.with i S) (listed.setIfInBounds i true) (a.put oi.dst v) w → wpAnyR P md ops Q (fuel + 1) p listed a w := by
  intro fuel
  have here : ∀ (fuel : Nat) (p : Pend) (listed : Array Bool) (a : Act) (w : World), YieldsIf P ops S oi v a → S w → p.ok w →
      wpAnyR P md ops Q fuel (p.with i S) (listed.setIfInBounds i true) (a.put oi.dst v) w →
      wpOp P ops Q i (fun a' w' => (p.after md ops i).ok w' ∧ wpAnyR P md ops Q fuel (p.after md ops i) (listed.setIfInBounds i true) a' w') a w := by
    intro fuel p listed a w hy hS hp H
    refine hy.wpOp hi hS ⟨fun k T hk => hp k T hk.1, wpAnyR_weaken fuel _ _ _ _ _ (fun k T hk => .inl (.inl hk.1)) H⟩
  induction fuel with
  | zero =>
    intro p listed a w hcl _ hr hy hS hp H
    refine ⟨fun h => (by rw [h] at hr; cases hr), fun j hj => ?_⟩
    by_cases hji : j = i
    · subst hji; exact here 0 p listed a w hy hS hp H
    · have := ready_mono hj hji
      rw [H.1] at this
      cases this
  | succ fuel ih =>
    intro p listed a w hcl hfree hr hy hS hp H
    refine ⟨fun h => (by rw [h] at hr; cases hr), fun j hj => ?_⟩
    by_cases hji : j = i
    · subst hji; exact here _ p listed a w hy hS hp H
    · have h1 := H.2 j (ready_mono hj hji)
      obtain ⟨hjun, oj, hoj, hall⟩ := mem_ready.1 hj
      have hiun : listed.getD i false = false := (listed_lt (mem_ready.1 hr).1).2
      have hnot : ∀ e ∈ oj.after, Region.binds md e = true → e.on ≠ i := fun e he hb heq => by
        have h1 := hall e he hb
        rw [heq, hiun] at h1; cases h1
      have hanc : (ancs md ops j).contains i = false := by
        cases hc : (ancs md ops j).contains i with
        | false => rfl
        | true =>
          have := anc_listed hcl (fun o ho => by rw [hoj] at ho; cases ho; exact hall) hc
          rw [hiun] at this; cases this
      have h2 := wpOp_putIf hoj (hfree j oj hoj hji hjun hnot) (fun cs b => hsel i oi cs b hi) (fun cs b => hsel j oj cs b hoj) (fun c a w h => absurd h (hQ c _ w)) hy h1
      have hfree' : ∀ (k : Nat) ok, ops[k]? = some ok → k ≠ i → (listed.setIfInBounds j true).getD k true = false →
          (∀ e ∈ ok.after, Region.binds md e = true → e.on ≠ i) → oi.apart ops ok = true := fun k ok hk hki hun hno => by
        refine hfree k ok hk hki ?_ hno
        by_cases hjk : j = k
        · subst hjk; exact hjun
        · rw [getD_set_ne true hjk] at hun; exact hun
      refine wpOp_mono (fun a' w' h3 => ?_) h2
      obtain ⟨h4, h5, h6⟩ := h3
      have hS' : S w' := h5 i S ⟨.inr ⟨rfl, rfl⟩, hanc⟩
      have hp' : (p.after md ops j).ok w' := fun k T hk => h5 k T ⟨.inl hk.1, hk.2⟩
      refine ⟨hp', ih (p.after md ops j) (listed.setIfInBounds j true) a' w' (hcl.set hj) hfree' (ready_mono hr (Ne.symm hji)) h4 hS' hp' ?_⟩
      rw [Array.setIfInBounds_comm _ _ hji]
      refine wpAnyR_weaken fuel _ _ _ _ _ ?_ h6
      rintro k T (hk | ⟨rfl, rfl⟩)
      · exact .inl ⟨.inl hk.1, hk.2⟩
      · exact .inl ⟨.inr ⟨rfl, rfl⟩, hanc⟩

theorem wpAnyR_done {p : Pend} {listed : Array Bool} {a : Act} {w : World} (hr : Region.ready md ops listed = []) (h : Q .normal a w) : ∀ fuel, wpAnyR P md ops Q fuel p listed a w
  | 0 => ⟨hr, h⟩
  | _ + 1 => ⟨fun _ => h, by rw [hr]; simp⟩

theorem closed_start (n : Nat) : Closed md ops (Array.replicate n false) := by
  intro j o _ hj
  by_cases h : j < n
  · simp [h] at hj
  · simp [h] at hj
end
end Go.V
