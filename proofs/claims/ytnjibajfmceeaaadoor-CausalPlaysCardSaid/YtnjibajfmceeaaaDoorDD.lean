/- Part of the proof that the statement named in the last file holds: lemmas of the prover's own. No conditions. -/
import Derived.Test.YtnjibajfmceeaaaDoorDC
namespace Go.Proofs
open Go Go.V Go.Lib
set_option maxRecDepth 100000
set_option linter.unusedVariables false

section
variable {α : Type} {cl : α → List Value} {k : Nat}
theorem take_rows (hk : ∀ x, (cl x).length = k) : ∀ (d : List α) (p : Nat), (d.flatMap cl).take (p * k) = (d.take p).flatMap cl
  | [], p => by simp
  | x :: d, 0 => by simp
  | x :: d, p + 1 => by
    rw [List.flatMap_cons, List.take_succ_cons, List.flatMap_cons, show (p + 1) * k = (cl x).length + p * k by rw [hk, Nat.add_mul]; omega, List.take_length_add_append, take_rows hk d p]
theorem drop_rows (hk : ∀ x, (cl x).length = k) : ∀ (d : List α) (p : Nat), (d.flatMap cl).drop (p * k) = (d.drop p).flatMap cl
  | [], p => by simp
  | x :: d, 0 => by simp
  | x :: d, p + 1 => by
    rw [List.flatMap_cons, List.drop_succ_cons, show (p + 1) * k = (cl x).length + p * k by rw [hk, Nat.add_mul]; omega, List.drop_length_add_append, drop_rows hk d p]
theorem RowG.init {xs : List Value} {o c : Nat} {d : List α} (h : RowG cl k xs o c d) (hk : ∀ x, (cl x).length = k) {p : Nat} (hp : p ≤ d.length) : (xs.drop o).take (p * k) = (d.take p).flatMap cl := by
  rw [← take_rows hk, ← h.2.2, List.take_take, Nat.min_eq_left (Nat.mul_le_mul_right _ hp)]
theorem RowG.tail {xs : List Value} {o c : Nat} {d : List α} (h : RowG cl k xs o c d) (hk : ∀ x, (cl x).length = k) {p : Nat} (hp : p ≤ d.length) {o' : Nat} (ho : o' = if c = p then o else o + p * k) : (xs.drop o').take ((d.length - p) * k) = (d.drop p).flatMap cl := by
  have h1 : d.length ≤ c := h.1
  by_cases e : c = p
  · have h2 : d.length ≤ p := by omega
    rw [Nat.sub_eq_zero_of_le h2, List.drop_eq_nil_of_le h2]; simp
  · rw [if_neg e] at ho
    rw [ho, ← drop_rows hk, ← h.2.2, List.drop_take, List.drop_drop, Nat.sub_mul]
theorem RowG.app {xs zs ys : List Value} {o c o' c' n m : Nat} {d e : List α} (h : RowG cl k xs o c d) (hn : n = d.length) (hm : m = e.length) (hy : ys = e.flatMap cl) (h1 : n + m ≤ c') (h2 : o' + c' * k ≤ zs.length) (h3 : (zs.drop o').take ((n + m) * k) = (xs.drop o).take (n * k) ++ ys) :
    RowG cl k zs o' c' (d ++ e) := by
  subst hn hm hy
  refine ⟨by simpa using h1, h2, ?_⟩
  rw [List.length_append, List.flatMap_append, h3, h.2.2]
end
theorem RowG.none {α : Type} {cl : α → List Value} {k : Nat} : RowG cl k [] 0 0 [] := ⟨Nat.le_refl _, by simp, by simp⟩
theorem Rel.miss {v : Nat → Int} {ms : SM} {c : Nat} {hd : List SH} (h : Rel ms hd) (hb : BI v ms c) {s : SH} {p : Nat} (h1 : ∀ i (hi : i < hd.length), i < p → ltD hd[i] s) (h2 : ∀ (hi : p < hd.length), ¬ ltD hd[p] s) (h3 : ∀ (hi : p < hd.length), ¬ (hd[p].rep = s.rep ∧ hd[p].n = s.n)) : MP.get ms (s.rep, s.n) = .none := by
  cases hg : MP.get ms (s.rep, s.n) with
  | none => rfl
  | some t =>
    exfalso
    have hd1 := (hb.hk _ _ hg).1
    have e1 : s.rep = t.rep := congrArg Prod.fst hd1
    have e2 : s.n = t.n := congrArg Prod.snd hd1
    obtain ⟨i, hi, hit⟩ := List.mem_iff_getElem.1 (h.from' _ _ hg)
    rcases Nat.lt_trichotomy i p with e | e | e
    · have := h1 i hi e; rw [hit] at this; simp only [ltD] at this; omega
    · subst e; have := h3 hi; rw [hit] at this; omega
    · have hp : p < hd.length := by omega
      have hlt := (List.pairwise_iff_getElem.1 h.sorted) p i hp hi e
      rw [hit] at hlt
      exact h2 hp (by simp only [ltD] at hlt ⊢; omega)
abbrev refH (v : Nat → Int) (xs : List Value) (o1 n1 c1 : Nat) (ys : List Value) (o2 n2 c2 : Nat) : List SO := [.cells (vcells v ++ [.sl 1 o1 n1 c1, .sl 2 o2 n2 c2]) T_rostrumref13_Buffer, .arr xs T_rostrumref13_Shadow, .arr ys T_rostrumref13_Shadow]
def RTakePost (h : Nat → Option Obj) (v : Nat → Int) (ms : SM) (c : Nat) (hd lg : List SH) (xs : List Value) (o1 c1 : Nat) (ys : List Value) (o2 c2 : Nat) (s : SH) (x : SV) (H : List SO) : Prop :=
  (∃ e, TakeNo v ms s e ∧ x = .tup [.raw (.slice none 0 0), iv e] ∧ H = refH v xs o1 hd.length c1 ys o2 lg.length c2 ++ [.heap h]) ∨
  (∃ l v' ms' c' hd' xs' o1' c1' ys' o2' c2' zs o3 c3, (goodS s = true ∧ MP.get ms (s.rep, s.n) = none ∧ has v s.rep s.n = false) ∧ Dr v (MP.put ms (s.rep, s.n) s c) l v' ms' ∧ nextS v' ms' = none ∧ BI v' ms' c' ∧ Rel ms' hd' ∧
    x = .tup [.sl 6 o3 l.length c3, iv 0] ∧ H = [.cells (vcells v' ++ [.sl 4 o1' hd'.length c1', .sl 5 o2' (lg ++ l).length c2']) T_rostrumref13_Buffer, .arr xs T_rostrumref13_Shadow, .arr ys T_rostrumref13_Shadow, .heap h, .arr xs' T_rostrumref13_Shadow, .arr ys' T_rostrumref13_Shadow, .arr zs T_rostrumref13_Shadow] ∧
    RowG shcl 14 xs' o1' c1' hd' ∧ RowG shcl 14 ys' o2' c2' (lg ++ l) ∧ RowG shcl 14 zs o3 c3 l)
theorem takeAr {i n f l q : Nat} (h1 : i < n) (h2 : n ≤ f) (h3 : n + l ≤ q + 1) (h4 : q ≤ 900) :
    ((i : Int) ≤ (f : Int)) ∧ min i n = i ∧ (0 + i) * 128 ≤ 1099511627776 ∧ (0 + i + (n - (i + 1))) * 128 ≤ 1099511627776 ∧ (l + 1) * 128 ≤ 1099511627776 ∧ ((i + 1 : Nat) : Int) ≤ (n : Int) ∧ 0 + i + (n - (i + 1)) = i + (n - (i + 1)) ∧ n - 1 + (l + 1) ≤ q + 1 ∧ i + (n - (i + 1)) = n - 1 ∧ 0 < n := by omega
theorem takeAr2 {a b n q : Nat} (h1 : a ≤ 100000) (h2 : n + b ≤ q + 1) (h3 : q ≤ 900) : (0 + a) * 128 ≤ 1099511627776 ∧ (0 + a + b) * 128 ≤ 1099511627776 := by omega
structure RTX where
  more : Bool
  v : Nat → Int
  ms : SM
  hd : List SH
  xs : List Value
  o1 : Nat
  n1 : Nat
  c1 : Nat
  l : List SH
  zs : List Value
  o3 : Nat
  n3 : Nat
  c3 : Nat
set_option maxHeartbeats 40000000 in
theorem s_ref_Take (h : Nat → Option Obj) (hu : Uni h) (v : Nat → Int) (ms : SM) (c : Nat) (hd lg : List SH) (xs : List Value) (o1 c1 : Nat) (ys : List Value) (o2 c2 : Nat) (hb : BI v ms c) (hR : Rel ms hd) (hx : RowG shcl 14 xs o1 c1 hd) (hy : RowG shcl 14 ys o2 c2 lg) (s : SH) (hs : s.key.size ≤ 1000)
    (hm : hd.length ≤ 900) (ho : lg.length ≤ 100000) :
    Ctr Tryd.prog F_rostrumref13_Buffer_Take [.ptr 0 0, .agg (shcells s)] (refH v xs o1 hd.length c1 ys o2 lg.length c2 ++ [.heap h]) (RTakePost h v ms c hd lg xs o1 c1 ys o2 c2 s) := by
  have no : ∀ e : Int, TakeNo v ms s e → RTakePost h v ms c hd lg xs o1 c1 ys o2 c2 s (.tup [.raw (.slice none 0 0), iv e]) (refH v xs o1 hd.length c1 ys o2 lg.length c2 ++ [.heap h]) := fun e he => .inl ⟨e, he, rfl, rfl⟩
  have hcl : ∀ x, (shcl x).length = 14 := fun _ => rfl
  have hroom : o1 + hd.length * 14 ≤ xs.length := by have := hx.2.1; have := Nat.mul_le_mul_right 14 hx.1; omega
  have hat : ∀ (hh : MP.get ms (s.rep, s.n) = none) p, (∀ i (hi : i < hd.length), i < p → ltD hd[i] s) → (∀ (hi : p < hd.length), ¬ ltD hd[p] s) → Rel (MP.put ms (s.rep, s.n) s c) (hd.take p ++ [s] ++ hd.drop p) := fun hh p h1 h2 => hR.put hh h1 h2
  refine i_rostrumref13_Buffer_Take.spec follows ?_
  refine VCall.mk [3] (s_ref_Good h hu s hs) ⟨rfl, rfl, rfl⟩ ?_
  rintro _ _ ⟨rfl, rfl⟩
  refine And.intro (fun k1 => ?_) (fun k1 => ?_)
  · exact VRet.mk [0, 1, 2, 3] (.tup [.raw (.slice none 0 0), iv 1]) (refH v xs o1 hd.length c1 ys o2 lg.length c2 ++ [.heap h]) ⟨rfl, rfl, rfl⟩ (no 1 (.inl ⟨by simpa using k1, rfl⟩))
  have k1 : goodS s = true := by simpa using k1
  refine VLoop.mk Nat (fun p => [(0, .ptr 0 0), (3, .ptr 4 0), (6, iv p)]) (fun p => refH v xs o1 hd.length c1 ys o2 lg.length c2 ++ [.heap h, .cells (shcells s) T_rostrumref13_Shadow])
    (fun p => p ≤ hd.length ∧ ∀ i (hi : i < hd.length), i < p → ltD hd[i] s) (fun p => hd.length - p) 0 [0, 1, 2, 3, 4] ⟨⟨Nat.zero_le _, fun i _ hi => by omega⟩, rfl, rfl, rfl⟩ ?_
  rintro p ⟨hp, hlt⟩ g
  have hnp : (0 : Int) ≤ (p : Int) := Int.natCast_nonneg p
  refine And.intro (fun q1 => ?_) (fun q1 => ?_)
  · have q1 := of_decide_eq_true q1
    have hpl : p < hd.length := by omega
    have hcut := cut_sub (hx.cut hcl hpl) 0 2 (by omega)
    refine And.intro ⟨hnp, q1, hroom⟩ (Exists.intro _ (And.intro (by rw [Int.toNat_natCast]; exact hcut) ?_))
    refine VCall.mk [] (s_ref_Less hd[p].rep hd[p].n s.rep s.n) ⟨rfl, rfl, rfl⟩ ?_
    rintro _ _ ⟨rfl, rfl⟩
    refine And.intro (fun q2 => ?_) (fun q2 => ?_)
    · have hw : IntKind.i64.wrap ((p : Int) + 1) = ((p + 1 : Nat) : Int) := wrap64 (by omega)
      refine Exists.intro _ (And.intro hw ?_)
      refine Exists.intro (p + 1) (Exists.intro [0, 1, 2, 3, 4] (And.intro ⟨⟨hpl, fun i hi hip => ?_⟩, by omega⟩ ⟨rfl, rfl, rfl⟩))
      by_cases e : i = p
      · subst e; exact ltB_iff.1 q2
      · exact hlt i hi (by omega)
    · have hge : ∀ (hi : p < hd.length), ¬ ltD hd[p] s := fun hi hh => by rw [ltB_iff.2 hh] at q2; cases q2
      refine VCall.mk [] (s_ref_Has v s.rep s.n) ⟨rfl, rfl, rfl⟩ ?_
      rintro _ _ ⟨rfl, rfl⟩
      refine And.intro (fun q3 => ?_) (fun q3 => VRet.mk [0, 1, 2, 3] (.tup [.raw (.slice none 0 0), iv 5]) (refH v xs o1 hd.length c1 ys o2 lg.length c2 ++ [.heap h]) ⟨rfl, rfl, rfl⟩ (no 5 (.inr (.inl ⟨k1, .inr q3, rfl⟩))))
      have q3 : has v s.rep s.n = false := q3
      refine And.intro (fun q4 => ?_) (fun q4 => absurd (of_decide_eq_false q4) (by omega))
      refine And.intro ⟨hnp, q1, hroom⟩ (Exists.intro _ (And.intro (by rw [Int.toNat_natCast]; exact hcut) ?_))
      refine And.intro (fun q5 => VRet.mk [0, 1, 2, 3] (.tup [.raw (.slice none 0 0), iv 5]) (refH v xs o1 hd.length c1 ys o2 lg.length c2 ++ [.heap h]) ⟨rfl, rfl, rfl⟩ (no 5 (.inr (.inl ⟨k1, .inl ?_, rfl⟩)))) (fun q5 => ?_)
      · have q5 : (decide (hd[p].rep = s.rep) && decide (hd[p].n = s.n)) = true := q5
        simp only [Bool.and_eq_true, decide_eq_true_eq] at q5
        rw [← q5.1, ← q5.2, hR.to _ (List.getElem_mem hpl)]; rfl
      have q5 : ¬ (hd[p].rep = s.rep ∧ hd[p].n = s.n) := by
        have q5 : (decide (hd[p].rep = s.rep) && decide (hd[p].n = s.n)) = false := q5
        intro ⟨a1, a2⟩
        rw [decide_eq_true a1, decide_eq_true a2] at q5; cases q5
      have hno := hR.miss hb hlt hge (fun _ => q5)
      refine And.intro (fun q6 => absurd (of_decide_eq_true q6) (by omega)) (fun _ => ?_)
      have hpc : (p : Int) ≤ (c1 : Int) := by have := hx.1; omega
      have hc1 := RowG.init hx hcl hp
      have hl1 : ((xs.drop o1).take (p * 14)).length = p * 14 := by rw [hc1, flatMap_len (f := shcl) (k := 14) hcl]; simp; omega
      have hk1 : cellsOK ((xs.drop o1).take (p * 14)) = true := by rw [hc1]; exact cellsOK_sh _
      have hbp : (0 + p) * 128 ≤ 1099511627776 := by omega
      have hbq : (0 + p + 1) * 128 ≤ 1099511627776 := by omega
      have hbr : (0 + p + 1 + (hd.length - p)) * 128 ≤ 1099511627776 := by omega
      have hn3 : 0 + p + 1 + (hd.length - p) = (hd.take p ++ [s] ++ hd.drop p).length := by simp; omega
      have htp : (hd.take p).length = p := by simp; omega
      have hn2 : 0 + p + 1 = (hd.take p ++ [s]).length := by simp; omega
      refine And.intro ⟨hnp, hpc⟩ ?_
      refine Exists.elim (⟨_, rfl⟩ : ∃ o', o' = if c1 = p then o1 else o1 + p * 14) fun o' ho' => ?_
      have hc2 := RowG.tail hx hcl hp ho'
      have hl2 : ((xs.drop o').take ((hd.length - p) * 14)).length = (hd.length - p) * 14 := by rw [hc2, flatMap_len (f := shcl) (k := 14) hcl]; simp
      have hk2 : cellsOK ((xs.drop o').take ((hd.length - p) * 14)) = true := by rw [hc2]; exact cellsOK_sh _
      refine And.intro ⟨hnp, show (p : Int) ≤ (hd.length : Int) by omega⟩ (Exists.intro o' (And.intro ho' ?_))
      refine And.intro ?_ ?_
      · refine And.intro rfl (And.intro rfl (And.intro rfl (And.intro rfl (And.intro rfl ?_))))
        refine And.intro ?_ ?_
        · refine And.intro ⟨⟨Nat.le_refl _, Nat.le_refl _, rfl⟩, ⟨hl1, hk1⟩, hbp⟩ ?_
          intro z1 p1 d1 hz1
          refine And.intro rfl (And.intro rfl (And.intro rfl ?_))
          refine And.intro rfl (And.intro rfl ?_)
          refine And.intro ⟨⟨hz1.1, hz1.2.1, rfl⟩, ⟨rfl, rfl⟩, hbq⟩ ?_
          intro z2 p2 d2 hz2
          refine And.intro rfl (And.intro rfl ?_)
          refine And.intro ⟨⟨hz2.1, hz2.2.1, rfl⟩, ⟨hl2, hk2⟩, hbr⟩ ?_
          intro z3 p3 d3 hz3
          have r1 : RowG shcl 14 z1 p1 d1 (hd.take p) := RowG.app (d := []) (m := p) RowG.none rfl (by simp; omega) hc1 hz1.1 hz1.2.1 hz1.2.2
          have r2 : RowG shcl 14 z2 p2 d2 (hd.take p ++ [s]) := RowG.snoc r1 (n := 0 + p) (by simp; omega) hz2.1 hz2.2.1 hz2.2.2
          have r3 : RowG shcl 14 z3 p3 d3 (hd.take p ++ [s] ++ hd.drop p) := RowG.app (n := 0 + p + 1) (m := hd.length - p) r2 (by simp; omega) (by simp) hc2 hz3.1 hz3.2.1 hz3.2.2
          refine VLoop.nil T_rostrumref13_Shadow [7] [] ⟨rfl, rfl⟩ ?_
          refine VLoop.mk RTX (fun x => [(0, .ptr 0 0), (7, .sl 6 x.o3 x.n3 x.c3), (8, bv x.more)]) (fun x => [.cells (vcells x.v ++ [.sl 5 x.o1 x.n1 x.c1, .sl 2 o2 lg.length c2]) T_rostrumref13_Buffer, .arr xs T_rostrumref13_Shadow, .arr ys T_rostrumref13_Shadow, .heap h, .cells (shcells s) T_rostrumref13_Shadow, .arr x.xs T_rostrumref13_Shadow, .arr x.zs T_rostrumref13_Shadow])
            (fun x => Dr v (MP.put ms (s.rep, s.n) s c) x.l x.v x.ms ∧ BI x.v x.ms (if (MP.get ms (s.rep, s.n)).isSome then c else c + 1) ∧ Rel x.ms x.hd ∧ RowG shcl 14 x.xs x.o1 x.c1 x.hd ∧ x.n1 = x.hd.length ∧ RowG shcl 14 x.zs x.o3 x.c3 x.l ∧ x.n3 = x.l.length ∧ x.hd.length + x.l.length ≤ hd.length + 1 ∧ (x.more = false → ∀ j (hj : j < x.hd.length), readyB x.hd[j] x.v = false)) (fun x => x.hd.length + x.more.toNat)
            ⟨true, v, MP.put ms (s.rep, s.n) s c, hd.take p ++ [s] ++ hd.drop p, z3, p3, 0 + p + 1 + (hd.length - p), d3, [], [], 0, 0, 0⟩ [0, 1, 2, 3, 4, 9, 10] ⟨⟨Dr.nil, hb.put k1 hno, hat hno p hlt hge, r3, hn3, RowG.none, rfl, by simp only [List.length_nil]; rw [← hn3]; omega, fun h => by cases h⟩, rfl, rfl, rfl⟩ ?_
          rintro ⟨more, v1, ms1, hd1, xs1, e1, n1, f1, l1, zs1, e3, n3, f3⟩ ⟨w1, w2, w3, w4, w5, w6, w7, w8, w9⟩ g4
          simp only at w1 w2 w3 w4 w5 w6 w7 w8 w9
          subst w5 w7
          have hroom1 : e1 + hd1.length * 14 ≤ xs1.length := by have := w4.2.1; have := Nat.mul_le_mul_right 14 w4.1; omega
          refine And.intro (fun m1 => ?_) (fun m1 => ?_)
          · refine VLoop.mk Nat (fun i => [(0, .ptr 0 0), (7, .sl 6 e3 l1.length f3), (8, bv false), (9, iv i)]) (fun _ => [.cells (vcells v1 ++ [.sl 5 e1 hd1.length f1, .sl 2 o2 lg.length c2]) T_rostrumref13_Buffer, .arr xs T_rostrumref13_Shadow, .arr ys T_rostrumref13_Shadow, .heap h, .cells (shcells s) T_rostrumref13_Shadow, .arr xs1 T_rostrumref13_Shadow, .arr zs1 T_rostrumref13_Shadow])
              (fun i => i ≤ hd1.length ∧ ∀ j (hj : j < hd1.length), j < i → readyB hd1[j] v1 = false) (fun i => hd1.length - i) 0 [0, 1, 2, 3, 4, 5, 6] ⟨⟨Nat.zero_le _, fun j _ hj => by omega⟩, rfl, rfl, rfl⟩ ?_
            rintro i ⟨hi, hno2⟩ g5
            have hni : (0 : Int) ≤ (i : Int) := Int.natCast_nonneg i
            have hwb : -9223372036854775808 ≤ (i : Int) + 1 ∧ (i : Int) + 1 ≤ 9223372036854775807 := by omega
            refine And.intro (fun q7 => ?_) (fun q7 => ?_)
            · have q7 := of_decide_eq_true q7
              have hil : i < hd1.length := by omega
              have ar := takeAr hil w4.1 w8 hm
              have d1 := RowG.init w4 hcl hi
              have hti : (hd1.take i).length = i := (List.length_take ..).trans ar.2.1
              have hm1 : ((xs1.drop e1).take (i * 14)).length = i * 14 := by rw [d1, flatMap_len (f := shcl) (k := 14) hcl, hti]
              have hq1 : cellsOK ((xs1.drop e1).take (i * 14)) = true := by rw [d1]; exact cellsOK_sh _
              have hlen : 0 + i + (hd1.length - (i + 1)) = (hd1.take i ++ hd1.drop (i + 1)).length := by rw [List.length_append, hti, List.length_drop, ar.2.2.2.2.2.2.1]
              have hcut1 := w4.cut hcl hil
              refine And.intro ⟨hni, q7, hroom1⟩ (Exists.intro _ (And.intro (by rw [Int.toNat_natCast]; exact hcut1) ?_))
              refine VCall.mk [] (s_ref_Ready hd1[i] v1) ⟨rfl, rfl, rfl⟩ ?_
              rintro _ _ ⟨rfl, rfl⟩
              refine And.intro (fun q8 => ?_) (fun q8 => ?_)
              · have hnx := w3.next w2 hil q8 hno2
                have hOB := w2.next hnx
                obtain ⟨a1, a2, a3, a4, a5⟩ := hOB
                have hrep := (goodS_iff a2).1
                have hR1 := w3.del w2.hk w2.nd hil
                refine And.intro hrep (Exists.intro _ (And.intro (vcells_put v1 hd1[i].n hrep _) ?_))
                refine And.intro ⟨hni, ar.1⟩ ?_
                refine Exists.intro ((i + 1 : Nat) : Int) (And.intro (wrap64 hwb) ?_)
                refine Exists.elim (⟨_, rfl⟩ : ∃ o', o' = if f1 = i + 1 then e1 else e1 + (i + 1) * 14) fun o9 ho9 => ?_
                have d2 := RowG.tail w4 hcl (p := i + 1) hil ho9
                have hm2 : ((xs1.drop o9).take ((hd1.length - (i + 1)) * 14)).length = (hd1.length - (i + 1)) * 14 := by rw [d2, flatMap_len (f := shcl) (k := 14) hcl]; simp
                have hq2 : cellsOK ((xs1.drop o9).take ((hd1.length - (i + 1)) * 14)) = true := by rw [d2]; exact cellsOK_sh _
                refine And.intro ⟨Int.natCast_nonneg _, ar.2.2.2.2.2.1⟩ (Exists.intro o9 (And.intro ho9 ?_))
                refine And.intro rfl (And.intro rfl (And.intro rfl (And.intro rfl ?_)))
                refine And.intro ⟨⟨Nat.le_refl _, Nat.le_refl _, rfl⟩, ⟨hm1, hq1⟩, ar.2.2.1⟩ ?_
                intro y1 u1 t1 hy1
                refine And.intro rfl (And.intro rfl ?_)
                refine And.intro ⟨⟨hy1.1, hy1.2.1, rfl⟩, ⟨hm2, hq2⟩, ar.2.2.2.1⟩ ?_
                intro y2 u2 t2 hy2
                refine And.intro ⟨⟨w6.1, w6.2.1, rfl⟩, ⟨rfl, rfl⟩, ar.2.2.2.2.1⟩ ?_
                intro y3 u3 t3 hy3
                have s1 : RowG shcl 14 y1 u1 t1 (hd1.take i) := RowG.app (d := []) (m := i) RowG.none rfl hti.symm d1 hy1.1 hy1.2.1 hy1.2.2
                have s2 : RowG shcl 14 y2 u2 t2 (hd1.take i ++ hd1.drop (i + 1)) := RowG.app (n := 0 + i) (m := hd1.length - (i + 1)) s1 ((Nat.zero_add i).trans hti.symm) (List.length_drop ..).symm d2 hy2.1 hy2.2.1 hy2.2.2
                have s3 : RowG shcl 14 y3 u3 t3 (l1 ++ [hd1[i]]) := RowG.snoc w6 rfl hy3.1 hy3.2.1 hy3.2.2
                have hl9 : (hd1.take i ++ hd1.drop (i + 1)).length = hd1.length - 1 := hlen.symm.trans (ar.2.2.2.2.2.2.1.trans ar.2.2.2.2.2.2.2.2.1)
                have hl8 : (hd1.take i ++ hd1.drop (i + 1)).length + (l1 ++ [hd1[i]]).length ≤ hd.length + 1 := by rw [hl9, List.length_append]; exact ar.2.2.2.2.2.2.2.1
                have hl7 : (hd1.take i ++ hd1.drop (i + 1)).length + true.toNat < hd1.length + more.toNat := by
                  rw [hl9, show more = true from m1]
                  exact Nat.add_lt_add_right (Nat.sub_lt ar.2.2.2.2.2.2.2.2.2 Nat.one_pos) _
                have hl6 : l1.length + 1 = (l1 ++ [hd1[i]]).length := by rw [List.length_append]; rfl
                exact Exists.intro ⟨true, upv v1 hd1[i].rep.toNat hd1[i].n, MP.del ms1 (hd1[i].rep, hd1[i].n), hd1.take i ++ hd1.drop (i + 1), y2, u2, 0 + i + (hd1.length - (i + 1)), t2, l1 ++ [hd1[i]], y3, u3, l1.length + 1, t3⟩ (Exists.intro [0, 1, 2, 3, 4, 10, 12] (And.intro ⟨⟨Dr.snoc w1 hnx, a5, hR1, s2, hlen, s3, hl6, hl8, fun h => by cases h⟩, hl7⟩ ⟨rfl, rfl, rfl⟩))
              · refine Exists.intro ((i + 1 : Nat) : Int) (And.intro (wrap64 hwb) ?_)
                refine Exists.intro (i + 1) (Exists.intro [0, 1, 2, 3, 4, 5, 6] (And.intro ⟨⟨hil, fun j hj hji => ?_⟩, by omega⟩ ⟨rfl, rfl, rfl⟩))
                by_cases e : j = i
                · subst e; exact q8
                · exact hno2 j hj (by omega)
            · have q7 := of_decide_eq_false q7
              have hie : i = hd1.length := by omega
              subst hie
              exact Exists.intro ⟨false, v1, ms1, hd1, xs1, e1, hd1.length, f1, l1, zs1, e3, l1.length, f3⟩ (Exists.intro [0, 1, 2, 3, 4, 5, 6] (And.intro ⟨⟨w1, w2, w3, w4, rfl, w6, rfl, w8, fun _ j hj => hno2 j hj hj⟩, by simp only; rw [show more = true from m1]; simp⟩ ⟨rfl, rfl, rfl⟩))
          · have hnn := w3.none w2 (w9 m1)
            have ar := takeAr2 ho w8 hm
            have hg1 : ((ys.drop o2).take (lg.length * 14)).length = lg.length * 14 := by rw [hy.2.2, flatMap_len (f := shcl) (k := 14) hcl]
            have hg2 : cellsOK ((ys.drop o2).take (lg.length * 14)) = true := by rw [hy.2.2]; exact cellsOK_sh _
            have hg3 : ((zs1.drop e3).take (l1.length * 14)).length = l1.length * 14 := by rw [w6.2.2, flatMap_len (f := shcl) (k := 14) hcl]
            have hg4 : cellsOK ((zs1.drop e3).take (l1.length * 14)) = true := by rw [w6.2.2]; exact cellsOK_sh _
            refine And.intro ⟨⟨Nat.le_refl _, Nat.le_refl _, rfl⟩, ⟨hg1, hg2⟩, ar.1⟩ ?_
            intro y1 u1 t1 hy1
            refine And.intro ⟨⟨hy1.1, hy1.2.1, rfl⟩, ⟨hg3, hg4⟩, ar.2⟩ ?_
            intro y2 u2 t2 hy2
            have s1 : RowG shcl 14 y1 u1 t1 lg := RowG.app (d := []) (m := lg.length) RowG.none rfl rfl hy.2.2 hy1.1 hy1.2.1 hy1.2.2
            have s2 : RowG shcl 14 y2 u2 t2 (lg ++ l1) := RowG.app (n := 0 + lg.length) (m := l1.length) s1 (Nat.zero_add _) rfl w6.2.2 hy2.1 hy2.2.1 hy2.2.2
            exact VRet.mk [0, 1, 2, 3, 5, 9, 6] (.tup [.sl 6 e3 l1.length f3, iv 0]) [.cells (vcells v1 ++ [.sl 4 e1 hd1.length f1, .sl 5 u2 (0 + lg.length + l1.length) t2]) T_rostrumref13_Buffer, .arr xs T_rostrumref13_Shadow, .arr ys T_rostrumref13_Shadow, .heap h, .arr xs1 T_rostrumref13_Shadow, .arr y2 T_rostrumref13_Shadow, .arr zs1 T_rostrumref13_Shadow] ⟨rfl, rfl, rfl⟩
              (.inr ⟨l1, v1, ms1, _, hd1, xs1, e1, f1, y2, u2, t2, zs1, e3, f3, ⟨k1, hno, q3⟩, w1, hnn, w2, w3, rfl, by rw [List.length_append, Nat.zero_add], w4, s2, w6⟩)
        · refine And.intro rfl (And.intro rfl (And.intro rfl (And.intro rfl ?_)))
          refine And.intro ⟨⟨Nat.le_refl _, Nat.le_refl _, rfl⟩, ⟨hl1, hk1⟩, hbp⟩ ?_
          intro z1 p1 d1 hz1
          refine And.intro rfl (And.intro rfl ?_)
          refine And.intro ⟨⟨hz1.1, hz1.2.1, rfl⟩, ⟨rfl, rfl⟩, hbq⟩ ?_
          intro z2 p2 d2 hz2
          refine And.intro rfl (And.intro rfl ?_)
          refine And.intro ⟨⟨hz2.1, hz2.2.1, rfl⟩, ⟨hl2, hk2⟩, hbr⟩ ?_
          intro z3 p3 d3 hz3
          have r1 : RowG shcl 14 z1 p1 d1 (hd.take p) := RowG.app (d := []) (m := p) RowG.none rfl htp.symm hc1 hz1.1 hz1.2.1 hz1.2.2
          have r2 : RowG shcl 14 z2 p2 d2 (hd.take p ++ [s]) := RowG.snoc r1 (n := 0 + p) ((Nat.zero_add p).trans htp.symm) hz2.1 hz2.2.1 hz2.2.2
          have r3 : RowG shcl 14 z3 p3 d3 (hd.take p ++ [s] ++ hd.drop p) := RowG.app (n := 0 + p + 1) (m := hd.length - p) r2 hn2 (List.length_drop ..).symm hc2 hz3.1 hz3.2.1 hz3.2.2
          refine VLoop.nil T_rostrumref13_Shadow [7] [] ⟨rfl, rfl⟩ ?_
          refine VLoop.mk RTX (fun x => [(0, .ptr 0 0), (7, .sl 6 x.o3 x.n3 x.c3), (8, bv x.more)]) (fun x => [.cells (vcells x.v ++ [.sl 5 x.o1 x.n1 x.c1, .sl 2 o2 lg.length c2]) T_rostrumref13_Buffer, .arr xs T_rostrumref13_Shadow, .arr ys T_rostrumref13_Shadow, .heap h, .cells (shcells s) T_rostrumref13_Shadow, .arr x.xs T_rostrumref13_Shadow, .arr x.zs T_rostrumref13_Shadow])
            (fun x => Dr v (MP.put ms (s.rep, s.n) s c) x.l x.v x.ms ∧ BI x.v x.ms (if (MP.get ms (s.rep, s.n)).isSome then c else c + 1) ∧ Rel x.ms x.hd ∧ RowG shcl 14 x.xs x.o1 x.c1 x.hd ∧ x.n1 = x.hd.length ∧ RowG shcl 14 x.zs x.o3 x.c3 x.l ∧ x.n3 = x.l.length ∧ x.hd.length + x.l.length ≤ hd.length + 1 ∧ (x.more = false → ∀ j (hj : j < x.hd.length), readyB x.hd[j] x.v = false)) (fun x => x.hd.length + x.more.toNat)
            ⟨true, v, MP.put ms (s.rep, s.n) s c, hd.take p ++ [s] ++ hd.drop p, z3, p3, 0 + p + 1 + (hd.length - p), d3, [], [], 0, 0, 0⟩ [0, 1, 2, 3, 4, 9, 10] ⟨⟨Dr.nil, hb.put k1 hno, hat hno p hlt hge, r3, hn3, RowG.none, rfl, by simp only [List.length_nil]; rw [← hn3]; omega, fun h => by cases h⟩, rfl, rfl, rfl⟩ ?_
          rintro ⟨more, v1, ms1, hd1, xs1, e1, n1, f1, l1, zs1, e3, n3, f3⟩ ⟨w1, w2, w3, w4, w5, w6, w7, w8, w9⟩ g4
          simp only at w1 w2 w3 w4 w5 w6 w7 w8 w9
          subst w5 w7
          have hroom1 : e1 + hd1.length * 14 ≤ xs1.length := by have := w4.2.1; have := Nat.mul_le_mul_right 14 w4.1; omega
          refine And.intro (fun m1 => ?_) (fun m1 => ?_)
          · refine VLoop.mk Nat (fun i => [(0, .ptr 0 0), (7, .sl 6 e3 l1.length f3), (8, bv false), (9, iv i)]) (fun _ => [.cells (vcells v1 ++ [.sl 5 e1 hd1.length f1, .sl 2 o2 lg.length c2]) T_rostrumref13_Buffer, .arr xs T_rostrumref13_Shadow, .arr ys T_rostrumref13_Shadow, .heap h, .cells (shcells s) T_rostrumref13_Shadow, .arr xs1 T_rostrumref13_Shadow, .arr zs1 T_rostrumref13_Shadow])
              (fun i => i ≤ hd1.length ∧ ∀ j (hj : j < hd1.length), j < i → readyB hd1[j] v1 = false) (fun i => hd1.length - i) 0 [0, 1, 2, 3, 4, 5, 6] ⟨⟨Nat.zero_le _, fun j _ hj => by omega⟩, rfl, rfl, rfl⟩ ?_
            rintro i ⟨hi, hno2⟩ g5
            have hni : (0 : Int) ≤ (i : Int) := Int.natCast_nonneg i
            have hwb : -9223372036854775808 ≤ (i : Int) + 1 ∧ (i : Int) + 1 ≤ 9223372036854775807 := by omega
            refine And.intro (fun q7 => ?_) (fun q7 => ?_)
            · have q7 := of_decide_eq_true q7
              have hil : i < hd1.length := by omega
              have ar := takeAr hil w4.1 w8 hm
              have d1 := RowG.init w4 hcl hi
              have hti : (hd1.take i).length = i := (List.length_take ..).trans ar.2.1
              have hm1 : ((xs1.drop e1).take (i * 14)).length = i * 14 := by rw [d1, flatMap_len (f := shcl) (k := 14) hcl, hti]
              have hq1 : cellsOK ((xs1.drop e1).take (i * 14)) = true := by rw [d1]; exact cellsOK_sh _
              have hlen : 0 + i + (hd1.length - (i + 1)) = (hd1.take i ++ hd1.drop (i + 1)).length := by rw [List.length_append, hti, List.length_drop, ar.2.2.2.2.2.2.1]
              have hcut1 := w4.cut hcl hil
              refine And.intro ⟨hni, q7, hroom1⟩ (Exists.intro _ (And.intro (by rw [Int.toNat_natCast]; exact hcut1) ?_))
              refine VCall.mk [] (s_ref_Ready hd1[i] v1) ⟨rfl, rfl, rfl⟩ ?_
              rintro _ _ ⟨rfl, rfl⟩
              refine And.intro (fun q8 => ?_) (fun q8 => ?_)
              · have hnx := w3.next w2 hil q8 hno2
                have hOB := w2.next hnx
                obtain ⟨a1, a2, a3, a4, a5⟩ := hOB
                have hrep := (goodS_iff a2).1
                have hR1 := w3.del w2.hk w2.nd hil
                refine And.intro hrep (Exists.intro _ (And.intro (vcells_put v1 hd1[i].n hrep _) ?_))
                refine And.intro ⟨hni, ar.1⟩ ?_
                refine Exists.intro ((i + 1 : Nat) : Int) (And.intro (wrap64 hwb) ?_)
                refine Exists.elim (⟨_, rfl⟩ : ∃ o', o' = if f1 = i + 1 then e1 else e1 + (i + 1) * 14) fun o9 ho9 => ?_
                have d2 := RowG.tail w4 hcl (p := i + 1) hil ho9
                have hm2 : ((xs1.drop o9).take ((hd1.length - (i + 1)) * 14)).length = (hd1.length - (i + 1)) * 14 := by rw [d2, flatMap_len (f := shcl) (k := 14) hcl]; simp
                have hq2 : cellsOK ((xs1.drop o9).take ((hd1.length - (i + 1)) * 14)) = true := by rw [d2]; exact cellsOK_sh _
                refine And.intro ⟨Int.natCast_nonneg _, ar.2.2.2.2.2.1⟩ (Exists.intro o9 (And.intro ho9 ?_))
                refine And.intro rfl (And.intro rfl (And.intro rfl (And.intro rfl ?_)))
                refine And.intro ⟨⟨Nat.le_refl _, Nat.le_refl _, rfl⟩, ⟨hm1, hq1⟩, ar.2.2.1⟩ ?_
                intro y1 u1 t1 hy1
                refine And.intro rfl (And.intro rfl ?_)
                refine And.intro ⟨⟨hy1.1, hy1.2.1, rfl⟩, ⟨hm2, hq2⟩, ar.2.2.2.1⟩ ?_
                intro y2 u2 t2 hy2
                refine And.intro ⟨⟨w6.1, w6.2.1, rfl⟩, ⟨rfl, rfl⟩, ar.2.2.2.2.1⟩ ?_
                intro y3 u3 t3 hy3
                have s1 : RowG shcl 14 y1 u1 t1 (hd1.take i) := RowG.app (d := []) (m := i) RowG.none rfl hti.symm d1 hy1.1 hy1.2.1 hy1.2.2
                have s2 : RowG shcl 14 y2 u2 t2 (hd1.take i ++ hd1.drop (i + 1)) := RowG.app (n := 0 + i) (m := hd1.length - (i + 1)) s1 ((Nat.zero_add i).trans hti.symm) (List.length_drop ..).symm d2 hy2.1 hy2.2.1 hy2.2.2
                have s3 : RowG shcl 14 y3 u3 t3 (l1 ++ [hd1[i]]) := RowG.snoc w6 rfl hy3.1 hy3.2.1 hy3.2.2
                have hl9 : (hd1.take i ++ hd1.drop (i + 1)).length = hd1.length - 1 := hlen.symm.trans (ar.2.2.2.2.2.2.1.trans ar.2.2.2.2.2.2.2.2.1)
                have hl8 : (hd1.take i ++ hd1.drop (i + 1)).length + (l1 ++ [hd1[i]]).length ≤ hd.length + 1 := by rw [hl9, List.length_append]; exact ar.2.2.2.2.2.2.2.1
                have hl7 : (hd1.take i ++ hd1.drop (i + 1)).length + true.toNat < hd1.length + more.toNat := by
                  rw [hl9, show more = true from m1]
                  exact Nat.add_lt_add_right (Nat.sub_lt ar.2.2.2.2.2.2.2.2.2 Nat.one_pos) _
                have hl6 : l1.length + 1 = (l1 ++ [hd1[i]]).length := by rw [List.length_append]; rfl
                exact Exists.intro ⟨true, upv v1 hd1[i].rep.toNat hd1[i].n, MP.del ms1 (hd1[i].rep, hd1[i].n), hd1.take i ++ hd1.drop (i + 1), y2, u2, 0 + i + (hd1.length - (i + 1)), t2, l1 ++ [hd1[i]], y3, u3, l1.length + 1, t3⟩ (Exists.intro [0, 1, 2, 3, 4, 10, 12] (And.intro ⟨⟨Dr.snoc w1 hnx, a5, hR1, s2, hlen, s3, hl6, hl8, fun h => by cases h⟩, hl7⟩ ⟨rfl, rfl, rfl⟩))
              · refine Exists.intro ((i + 1 : Nat) : Int) (And.intro (wrap64 hwb) ?_)
                refine Exists.intro (i + 1) (Exists.intro [0, 1, 2, 3, 4, 5, 6] (And.intro ⟨⟨hil, fun j hj hji => ?_⟩, by omega⟩ ⟨rfl, rfl, rfl⟩))
                by_cases e : j = i
                · subst e; exact q8
                · exact hno2 j hj (by omega)
            · have q7 := of_decide_eq_false q7
              have hie : i = hd1.length := by omega
              subst hie
              exact Exists.intro ⟨false, v1, ms1, hd1, xs1, e1, hd1.length, f1, l1, zs1, e3, l1.length, f3⟩ (Exists.intro [0, 1, 2, 3, 4, 5, 6] (And.intro ⟨⟨w1, w2, w3, w4, rfl, w6, rfl, w8, fun _ j hj => hno2 j hj hj⟩, by simp only; rw [show more = true from m1]; simp⟩ ⟨rfl, rfl, rfl⟩))
          · have hnn := w3.none w2 (w9 m1)
            have ar := takeAr2 ho w8 hm
            have hg1 : ((ys.drop o2).take (lg.length * 14)).length = lg.length * 14 := by rw [hy.2.2, flatMap_len (f := shcl) (k := 14) hcl]
            have hg2 : cellsOK ((ys.drop o2).take (lg.length * 14)) = true := by rw [hy.2.2]; exact cellsOK_sh _
            have hg3 : ((zs1.drop e3).take (l1.length * 14)).length = l1.length * 14 := by rw [w6.2.2, flatMap_len (f := shcl) (k := 14) hcl]
            have hg4 : cellsOK ((zs1.drop e3).take (l1.length * 14)) = true := by rw [w6.2.2]; exact cellsOK_sh _
            refine And.intro ⟨⟨Nat.le_refl _, Nat.le_refl _, rfl⟩, ⟨hg1, hg2⟩, ar.1⟩ ?_
            intro y1 u1 t1 hy1
            refine And.intro ⟨⟨hy1.1, hy1.2.1, rfl⟩, ⟨hg3, hg4⟩, ar.2⟩ ?_
            intro y2 u2 t2 hy2
            have s1 : RowG shcl 14 y1 u1 t1 lg := RowG.app (d := []) (m := lg.length) RowG.none rfl rfl hy.2.2 hy1.1 hy1.2.1 hy1.2.2
            have s2 : RowG shcl 14 y2 u2 t2 (lg ++ l1) := RowG.app (n := 0 + lg.length) (m := l1.length) s1 (Nat.zero_add _) rfl w6.2.2 hy2.1 hy2.2.1 hy2.2.2
            exact VRet.mk [0, 1, 2, 3, 5, 9, 6] (.tup [.sl 6 e3 l1.length f3, iv 0]) [.cells (vcells v1 ++ [.sl 4 e1 hd1.length f1, .sl 5 u2 (0 + lg.length + l1.length) t2]) T_rostrumref13_Buffer, .arr xs T_rostrumref13_Shadow, .arr ys T_rostrumref13_Shadow, .heap h, .arr xs1 T_rostrumref13_Shadow, .arr y2 T_rostrumref13_Shadow, .arr zs1 T_rostrumref13_Shadow] ⟨rfl, rfl, rfl⟩
              (.inr ⟨l1, v1, ms1, _, hd1, xs1, e1, f1, y2, u2, t2, zs1, e3, f3, ⟨k1, hno, q3⟩, w1, hnn, w2, w3, rfl, by rw [List.length_append, Nat.zero_add], w4, s2, w6⟩)
      · refine And.intro rfl (And.intro rfl (And.intro rfl (And.intro rfl ?_)))
        refine And.intro rfl (And.intro rfl (And.intro rfl (And.intro rfl ?_)))
        refine And.intro ⟨⟨Nat.le_refl _, Nat.le_refl _, rfl⟩, ⟨hl1, hk1⟩, hbp⟩ ?_
        intro z1 p1 d1 hz1
        refine And.intro rfl (And.intro rfl ?_)
        refine And.intro ⟨⟨hz1.1, hz1.2.1, rfl⟩, ⟨rfl, rfl⟩, hbq⟩ ?_
        intro z2 p2 d2 hz2
        refine And.intro rfl (And.intro rfl ?_)
        refine And.intro ⟨⟨hz2.1, hz2.2.1, rfl⟩, ⟨hl2, hk2⟩, hbr⟩ ?_
        intro z3 p3 d3 hz3
        have r1 : RowG shcl 14 z1 p1 d1 (hd.take p) := RowG.app (d := []) (m := p) RowG.none rfl htp.symm hc1 hz1.1 hz1.2.1 hz1.2.2
        have r2 : RowG shcl 14 z2 p2 d2 (hd.take p ++ [s]) := RowG.snoc r1 (n := 0 + p) ((Nat.zero_add p).trans htp.symm) hz2.1 hz2.2.1 hz2.2.2
        have r3 : RowG shcl 14 z3 p3 d3 (hd.take p ++ [s] ++ hd.drop p) := RowG.app (n := 0 + p + 1) (m := hd.length - p) r2 hn2 (List.length_drop ..).symm hc2 hz3.1 hz3.2.1 hz3.2.2
        refine VLoop.nil T_rostrumref13_Shadow [7] [] ⟨rfl, rfl⟩ ?_
        refine VLoop.mk RTX (fun x => [(0, .ptr 0 0), (7, .sl 6 x.o3 x.n3 x.c3), (8, bv x.more)]) (fun x => [.cells (vcells x.v ++ [.sl 5 x.o1 x.n1 x.c1, .sl 2 o2 lg.length c2]) T_rostrumref13_Buffer, .arr xs T_rostrumref13_Shadow, .arr ys T_rostrumref13_Shadow, .heap h, .cells (shcells s) T_rostrumref13_Shadow, .arr x.xs T_rostrumref13_Shadow, .arr x.zs T_rostrumref13_Shadow])
          (fun x => Dr v (MP.put ms (s.rep, s.n) s c) x.l x.v x.ms ∧ BI x.v x.ms (if (MP.get ms (s.rep, s.n)).isSome then c else c + 1) ∧ Rel x.ms x.hd ∧ RowG shcl 14 x.xs x.o1 x.c1 x.hd ∧ x.n1 = x.hd.length ∧ RowG shcl 14 x.zs x.o3 x.c3 x.l ∧ x.n3 = x.l.length ∧ x.hd.length + x.l.length ≤ hd.length + 1 ∧ (x.more = false → ∀ j (hj : j < x.hd.length), readyB x.hd[j] x.v = false)) (fun x => x.hd.length + x.more.toNat)
          ⟨true, v, MP.put ms (s.rep, s.n) s c, hd.take p ++ [s] ++ hd.drop p, z3, p3, 0 + p + 1 + (hd.length - p), d3, [], [], 0, 0, 0⟩ [0, 1, 2, 3, 4, 9, 10] ⟨⟨Dr.nil, hb.put k1 hno, hat hno p hlt hge, r3, hn3, RowG.none, rfl, by simp only [List.length_nil]; rw [← hn3]; omega, fun h => by cases h⟩, rfl, rfl, rfl⟩ ?_
        rintro ⟨more, v1, ms1, hd1, xs1, e1, n1, f1, l1, zs1, e3, n3, f3⟩ ⟨w1, w2, w3, w4, w5, w6, w7, w8, w9⟩ g4
        simp only at w1 w2 w3 w4 w5 w6 w7 w8 w9
        subst w5 w7
        have hroom1 : e1 + hd1.length * 14 ≤ xs1.length := by have := w4.2.1; have := Nat.mul_le_mul_right 14 w4.1; omega
        refine And.intro (fun m1 => ?_) (fun m1 => ?_)
        · refine VLoop.mk Nat (fun i => [(0, .ptr 0 0), (7, .sl 6 e3 l1.length f3), (8, bv false), (9, iv i)]) (fun _ => [.cells (vcells v1 ++ [.sl 5 e1 hd1.length f1, .sl 2 o2 lg.length c2]) T_rostrumref13_Buffer, .arr xs T_rostrumref13_Shadow, .arr ys T_rostrumref13_Shadow, .heap h, .cells (shcells s) T_rostrumref13_Shadow, .arr xs1 T_rostrumref13_Shadow, .arr zs1 T_rostrumref13_Shadow])
            (fun i => i ≤ hd1.length ∧ ∀ j (hj : j < hd1.length), j < i → readyB hd1[j] v1 = false) (fun i => hd1.length - i) 0 [0, 1, 2, 3, 4, 5, 6] ⟨⟨Nat.zero_le _, fun j _ hj => by omega⟩, rfl, rfl, rfl⟩ ?_
          rintro i ⟨hi, hno2⟩ g5
          have hni : (0 : Int) ≤ (i : Int) := Int.natCast_nonneg i
          have hwb : -9223372036854775808 ≤ (i : Int) + 1 ∧ (i : Int) + 1 ≤ 9223372036854775807 := by omega
          refine And.intro (fun q7 => ?_) (fun q7 => ?_)
          · have q7 := of_decide_eq_true q7
            have hil : i < hd1.length := by omega
            have ar := takeAr hil w4.1 w8 hm
            have d1 := RowG.init w4 hcl hi
            have hti : (hd1.take i).length = i := (List.length_take ..).trans ar.2.1
            have hm1 : ((xs1.drop e1).take (i * 14)).length = i * 14 := by rw [d1, flatMap_len (f := shcl) (k := 14) hcl, hti]
            have hq1 : cellsOK ((xs1.drop e1).take (i * 14)) = true := by rw [d1]; exact cellsOK_sh _
            have hlen : 0 + i + (hd1.length - (i + 1)) = (hd1.take i ++ hd1.drop (i + 1)).length := by rw [List.length_append, hti, List.length_drop, ar.2.2.2.2.2.2.1]
            have hcut1 := w4.cut hcl hil
            refine And.intro ⟨hni, q7, hroom1⟩ (Exists.intro _ (And.intro (by rw [Int.toNat_natCast]; exact hcut1) ?_))
            refine VCall.mk [] (s_ref_Ready hd1[i] v1) ⟨rfl, rfl, rfl⟩ ?_
            rintro _ _ ⟨rfl, rfl⟩
            refine And.intro (fun q8 => ?_) (fun q8 => ?_)
            · have hnx := w3.next w2 hil q8 hno2
              have hOB := w2.next hnx
              obtain ⟨a1, a2, a3, a4, a5⟩ := hOB
              have hrep := (goodS_iff a2).1
              have hR1 := w3.del w2.hk w2.nd hil
              refine And.intro hrep (Exists.intro _ (And.intro (vcells_put v1 hd1[i].n hrep _) ?_))
              refine And.intro ⟨hni, ar.1⟩ ?_
              refine Exists.intro ((i + 1 : Nat) : Int) (And.intro (wrap64 hwb) ?_)
              refine Exists.elim (⟨_, rfl⟩ : ∃ o', o' = if f1 = i + 1 then e1 else e1 + (i + 1) * 14) fun o9 ho9 => ?_
              have d2 := RowG.tail w4 hcl (p := i + 1) hil ho9
              have hm2 : ((xs1.drop o9).take ((hd1.length - (i + 1)) * 14)).length = (hd1.length - (i + 1)) * 14 := by rw [d2, flatMap_len (f := shcl) (k := 14) hcl]; simp
              have hq2 : cellsOK ((xs1.drop o9).take ((hd1.length - (i + 1)) * 14)) = true := by rw [d2]; exact cellsOK_sh _
              refine And.intro ⟨Int.natCast_nonneg _, ar.2.2.2.2.2.1⟩ (Exists.intro o9 (And.intro ho9 ?_))
              refine And.intro rfl (And.intro rfl (And.intro rfl (And.intro rfl ?_)))
              refine And.intro ⟨⟨Nat.le_refl _, Nat.le_refl _, rfl⟩, ⟨hm1, hq1⟩, ar.2.2.1⟩ ?_
              intro y1 u1 t1 hy1
              refine And.intro rfl (And.intro rfl ?_)
              refine And.intro ⟨⟨hy1.1, hy1.2.1, rfl⟩, ⟨hm2, hq2⟩, ar.2.2.2.1⟩ ?_
              intro y2 u2 t2 hy2
              refine And.intro ⟨⟨w6.1, w6.2.1, rfl⟩, ⟨rfl, rfl⟩, ar.2.2.2.2.1⟩ ?_
              intro y3 u3 t3 hy3
              have s1 : RowG shcl 14 y1 u1 t1 (hd1.take i) := RowG.app (d := []) (m := i) RowG.none rfl hti.symm d1 hy1.1 hy1.2.1 hy1.2.2
              have s2 : RowG shcl 14 y2 u2 t2 (hd1.take i ++ hd1.drop (i + 1)) := RowG.app (n := 0 + i) (m := hd1.length - (i + 1)) s1 ((Nat.zero_add i).trans hti.symm) (List.length_drop ..).symm d2 hy2.1 hy2.2.1 hy2.2.2
              have s3 : RowG shcl 14 y3 u3 t3 (l1 ++ [hd1[i]]) := RowG.snoc w6 rfl hy3.1 hy3.2.1 hy3.2.2
              have hl9 : (hd1.take i ++ hd1.drop (i + 1)).length = hd1.length - 1 := hlen.symm.trans (ar.2.2.2.2.2.2.1.trans ar.2.2.2.2.2.2.2.2.1)
              have hl8 : (hd1.take i ++ hd1.drop (i + 1)).length + (l1 ++ [hd1[i]]).length ≤ hd.length + 1 := by rw [hl9, List.length_append]; exact ar.2.2.2.2.2.2.2.1
              have hl7 : (hd1.take i ++ hd1.drop (i + 1)).length + true.toNat < hd1.length + more.toNat := by
                rw [hl9, show more = true from m1]
                exact Nat.add_lt_add_right (Nat.sub_lt ar.2.2.2.2.2.2.2.2.2 Nat.one_pos) _
              have hl6 : l1.length + 1 = (l1 ++ [hd1[i]]).length := by rw [List.length_append]; rfl
              exact Exists.intro ⟨true, upv v1 hd1[i].rep.toNat hd1[i].n, MP.del ms1 (hd1[i].rep, hd1[i].n), hd1.take i ++ hd1.drop (i + 1), y2, u2, 0 + i + (hd1.length - (i + 1)), t2, l1 ++ [hd1[i]], y3, u3, l1.length + 1, t3⟩ (Exists.intro [0, 1, 2, 3, 4, 10, 12] (And.intro ⟨⟨Dr.snoc w1 hnx, a5, hR1, s2, hlen, s3, hl6, hl8, fun h => by cases h⟩, hl7⟩ ⟨rfl, rfl, rfl⟩))
            · refine Exists.intro ((i + 1 : Nat) : Int) (And.intro (wrap64 hwb) ?_)
              refine Exists.intro (i + 1) (Exists.intro [0, 1, 2, 3, 4, 5, 6] (And.intro ⟨⟨hil, fun j hj hji => ?_⟩, by omega⟩ ⟨rfl, rfl, rfl⟩))
              by_cases e : j = i
              · subst e; exact q8
              · exact hno2 j hj (by omega)
          · have q7 := of_decide_eq_false q7
            have hie : i = hd1.length := by omega
            subst hie
            exact Exists.intro ⟨false, v1, ms1, hd1, xs1, e1, hd1.length, f1, l1, zs1, e3, l1.length, f3⟩ (Exists.intro [0, 1, 2, 3, 4, 5, 6] (And.intro ⟨⟨w1, w2, w3, w4, rfl, w6, rfl, w8, fun _ j hj => hno2 j hj hj⟩, by simp only; rw [show more = true from m1]; simp⟩ ⟨rfl, rfl, rfl⟩))
        · have hnn := w3.none w2 (w9 m1)
          have ar := takeAr2 ho w8 hm
          have hg1 : ((ys.drop o2).take (lg.length * 14)).length = lg.length * 14 := by rw [hy.2.2, flatMap_len (f := shcl) (k := 14) hcl]
          have hg2 : cellsOK ((ys.drop o2).take (lg.length * 14)) = true := by rw [hy.2.2]; exact cellsOK_sh _
          have hg3 : ((zs1.drop e3).take (l1.length * 14)).length = l1.length * 14 := by rw [w6.2.2, flatMap_len (f := shcl) (k := 14) hcl]
          have hg4 : cellsOK ((zs1.drop e3).take (l1.length * 14)) = true := by rw [w6.2.2]; exact cellsOK_sh _
          refine And.intro ⟨⟨Nat.le_refl _, Nat.le_refl _, rfl⟩, ⟨hg1, hg2⟩, ar.1⟩ ?_
          intro y1 u1 t1 hy1
          refine And.intro ⟨⟨hy1.1, hy1.2.1, rfl⟩, ⟨hg3, hg4⟩, ar.2⟩ ?_
          intro y2 u2 t2 hy2
          have s1 : RowG shcl 14 y1 u1 t1 lg := RowG.app (d := []) (m := lg.length) RowG.none rfl rfl hy.2.2 hy1.1 hy1.2.1 hy1.2.2
          have s2 : RowG shcl 14 y2 u2 t2 (lg ++ l1) := RowG.app (n := 0 + lg.length) (m := l1.length) s1 (Nat.zero_add _) rfl w6.2.2 hy2.1 hy2.2.1 hy2.2.2
          exact VRet.mk [0, 1, 2, 3, 5, 9, 6] (.tup [.sl 6 e3 l1.length f3, iv 0]) [.cells (vcells v1 ++ [.sl 4 e1 hd1.length f1, .sl 5 u2 (0 + lg.length + l1.length) t2]) T_rostrumref13_Buffer, .arr xs T_rostrumref13_Shadow, .arr ys T_rostrumref13_Shadow, .heap h, .arr xs1 T_rostrumref13_Shadow, .arr y2 T_rostrumref13_Shadow, .arr zs1 T_rostrumref13_Shadow] ⟨rfl, rfl, rfl⟩
            (.inr ⟨l1, v1, ms1, _, hd1, xs1, e1, f1, y2, u2, t2, zs1, e3, f3, ⟨k1, hno, q3⟩, w1, hnn, w2, w3, rfl, by rw [List.length_append, Nat.zero_add], w4, s2, w6⟩)
  · have q1 := of_decide_eq_false q1
    have hge : ∀ (hi : p < hd.length), ¬ ltD hd[p] s := fun hi => by omega
    refine VCall.mk [] (s_ref_Has v s.rep s.n) ⟨rfl, rfl, rfl⟩ ?_
    rintro _ _ ⟨rfl, rfl⟩
    refine And.intro (fun q3 => ?_) (fun q3 => VRet.mk [0, 1, 2, 3] (.tup [.raw (.slice none 0 0), iv 5]) (refH v xs o1 hd.length c1 ys o2 lg.length c2 ++ [.heap h]) ⟨rfl, rfl, rfl⟩ (no 5 (.inr (.inl ⟨k1, .inr q3, rfl⟩))))
    have q3 : has v s.rep s.n = false := q3
    refine And.intro (fun q4 => absurd (of_decide_eq_true q4) (by omega)) (fun q4 => ?_)
    have hno := hR.miss hb hlt hge (fun hi => by omega)
    refine And.intro (fun q6 => absurd (of_decide_eq_true q6) (by omega)) (fun _ => ?_)
    have hpc : (p : Int) ≤ (c1 : Int) := by have := hx.1; omega
    have hc1 := RowG.init hx hcl hp
    have hl1 : ((xs.drop o1).take (p * 14)).length = p * 14 := by rw [hc1, flatMap_len (f := shcl) (k := 14) hcl]; simp; omega
    have hk1 : cellsOK ((xs.drop o1).take (p * 14)) = true := by rw [hc1]; exact cellsOK_sh _
    have hbp : (0 + p) * 128 ≤ 1099511627776 := by omega
    have hbq : (0 + p + 1) * 128 ≤ 1099511627776 := by omega
    have hbr : (0 + p + 1 + (hd.length - p)) * 128 ≤ 1099511627776 := by omega
    have hn3 : 0 + p + 1 + (hd.length - p) = (hd.take p ++ [s] ++ hd.drop p).length := by simp; omega
    have htp : (hd.take p).length = p := by simp; omega
    have hn2 : 0 + p + 1 = (hd.take p ++ [s]).length := by simp; omega
    refine And.intro ⟨hnp, hpc⟩ ?_
    refine Exists.elim (⟨_, rfl⟩ : ∃ o', o' = if c1 = p then o1 else o1 + p * 14) fun o' ho' => ?_
    have hc2 := RowG.tail hx hcl hp ho'
    have hl2 : ((xs.drop o').take ((hd.length - p) * 14)).length = (hd.length - p) * 14 := by rw [hc2, flatMap_len (f := shcl) (k := 14) hcl]; simp
    have hk2 : cellsOK ((xs.drop o').take ((hd.length - p) * 14)) = true := by rw [hc2]; exact cellsOK_sh _
    refine And.intro ⟨hnp, show (p : Int) ≤ (hd.length : Int) by omega⟩ (Exists.intro o' (And.intro ho' ?_))
    refine And.intro ?_ ?_
    · refine And.intro rfl (And.intro rfl (And.intro rfl (And.intro rfl (And.intro rfl ?_))))
      refine And.intro ?_ ?_
      · refine And.intro ⟨⟨Nat.le_refl _, Nat.le_refl _, rfl⟩, ⟨hl1, hk1⟩, hbp⟩ ?_
        intro z1 p1 d1 hz1
        refine And.intro rfl (And.intro rfl (And.intro rfl ?_))
        refine And.intro rfl (And.intro rfl ?_)
        refine And.intro ⟨⟨hz1.1, hz1.2.1, rfl⟩, ⟨rfl, rfl⟩, hbq⟩ ?_
        intro z2 p2 d2 hz2
        refine And.intro rfl (And.intro rfl ?_)
        refine And.intro ⟨⟨hz2.1, hz2.2.1, rfl⟩, ⟨hl2, hk2⟩, hbr⟩ ?_
        intro z3 p3 d3 hz3
        have r1 : RowG shcl 14 z1 p1 d1 (hd.take p) := RowG.app (d := []) (m := p) RowG.none rfl (by simp; omega) hc1 hz1.1 hz1.2.1 hz1.2.2
        have r2 : RowG shcl 14 z2 p2 d2 (hd.take p ++ [s]) := RowG.snoc r1 (n := 0 + p) (by simp; omega) hz2.1 hz2.2.1 hz2.2.2
        have r3 : RowG shcl 14 z3 p3 d3 (hd.take p ++ [s] ++ hd.drop p) := RowG.app (n := 0 + p + 1) (m := hd.length - p) r2 (by simp; omega) (by simp) hc2 hz3.1 hz3.2.1 hz3.2.2
        refine VLoop.nil T_rostrumref13_Shadow [7] [] ⟨rfl, rfl⟩ ?_
        refine VLoop.mk RTX (fun x => [(0, .ptr 0 0), (7, .sl 6 x.o3 x.n3 x.c3), (8, bv x.more)]) (fun x => [.cells (vcells x.v ++ [.sl 5 x.o1 x.n1 x.c1, .sl 2 o2 lg.length c2]) T_rostrumref13_Buffer, .arr xs T_rostrumref13_Shadow, .arr ys T_rostrumref13_Shadow, .heap h, .cells (shcells s) T_rostrumref13_Shadow, .arr x.xs T_rostrumref13_Shadow, .arr x.zs T_rostrumref13_Shadow])
          (fun x => Dr v (MP.put ms (s.rep, s.n) s c) x.l x.v x.ms ∧ BI x.v x.ms (if (MP.get ms (s.rep, s.n)).isSome then c else c + 1) ∧ Rel x.ms x.hd ∧ RowG shcl 14 x.xs x.o1 x.c1 x.hd ∧ x.n1 = x.hd.length ∧ RowG shcl 14 x.zs x.o3 x.c3 x.l ∧ x.n3 = x.l.length ∧ x.hd.length + x.l.length ≤ hd.length + 1 ∧ (x.more = false → ∀ j (hj : j < x.hd.length), readyB x.hd[j] x.v = false)) (fun x => x.hd.length + x.more.toNat)
          ⟨true, v, MP.put ms (s.rep, s.n) s c, hd.take p ++ [s] ++ hd.drop p, z3, p3, 0 + p + 1 + (hd.length - p), d3, [], [], 0, 0, 0⟩ [0, 1, 2, 3, 4, 9, 10] ⟨⟨Dr.nil, hb.put k1 hno, hat hno p hlt hge, r3, hn3, RowG.none, rfl, by simp only [List.length_nil]; rw [← hn3]; omega, fun h => by cases h⟩, rfl, rfl, rfl⟩ ?_
        rintro ⟨more, v1, ms1, hd1, xs1, e1, n1, f1, l1, zs1, e3, n3, f3⟩ ⟨w1, w2, w3, w4, w5, w6, w7, w8, w9⟩ g4
        simp only at w1 w2 w3 w4 w5 w6 w7 w8 w9
        subst w5 w7
        have hroom1 : e1 + hd1.length * 14 ≤ xs1.length := by have := w4.2.1; have := Nat.mul_le_mul_right 14 w4.1; omega
        refine And.intro (fun m1 => ?_) (fun m1 => ?_)
        · refine VLoop.mk Nat (fun i => [(0, .ptr 0 0), (7, .sl 6 e3 l1.length f3), (8, bv false), (9, iv i)]) (fun _ => [.cells (vcells v1 ++ [.sl 5 e1 hd1.length f1, .sl 2 o2 lg.length c2]) T_rostrumref13_Buffer, .arr xs T_rostrumref13_Shadow, .arr ys T_rostrumref13_Shadow, .heap h, .cells (shcells s) T_rostrumref13_Shadow, .arr xs1 T_rostrumref13_Shadow, .arr zs1 T_rostrumref13_Shadow])
            (fun i => i ≤ hd1.length ∧ ∀ j (hj : j < hd1.length), j < i → readyB hd1[j] v1 = false) (fun i => hd1.length - i) 0 [0, 1, 2, 3, 4, 5, 6] ⟨⟨Nat.zero_le _, fun j _ hj => by omega⟩, rfl, rfl, rfl⟩ ?_
          rintro i ⟨hi, hno2⟩ g5
          have hni : (0 : Int) ≤ (i : Int) := Int.natCast_nonneg i
          have hwb : -9223372036854775808 ≤ (i : Int) + 1 ∧ (i : Int) + 1 ≤ 9223372036854775807 := by omega
          refine And.intro (fun q7 => ?_) (fun q7 => ?_)
          · have q7 := of_decide_eq_true q7
            have hil : i < hd1.length := by omega
            have ar := takeAr hil w4.1 w8 hm
            have d1 := RowG.init w4 hcl hi
            have hti : (hd1.take i).length = i := (List.length_take ..).trans ar.2.1
            have hm1 : ((xs1.drop e1).take (i * 14)).length = i * 14 := by rw [d1, flatMap_len (f := shcl) (k := 14) hcl, hti]
            have hq1 : cellsOK ((xs1.drop e1).take (i * 14)) = true := by rw [d1]; exact cellsOK_sh _
            have hlen : 0 + i + (hd1.length - (i + 1)) = (hd1.take i ++ hd1.drop (i + 1)).length := by rw [List.length_append, hti, List.length_drop, ar.2.2.2.2.2.2.1]
            have hcut1 := w4.cut hcl hil
            refine And.intro ⟨hni, q7, hroom1⟩ (Exists.intro _ (And.intro (by rw [Int.toNat_natCast]; exact hcut1) ?_))
            refine VCall.mk [] (s_ref_Ready hd1[i] v1) ⟨rfl, rfl, rfl⟩ ?_
            rintro _ _ ⟨rfl, rfl⟩
            refine And.intro (fun q8 => ?_) (fun q8 => ?_)
            · have hnx := w3.next w2 hil q8 hno2
              have hOB := w2.next hnx
              obtain ⟨a1, a2, a3, a4, a5⟩ := hOB
              have hrep := (goodS_iff a2).1
              have hR1 := w3.del w2.hk w2.nd hil
              refine And.intro hrep (Exists.intro _ (And.intro (vcells_put v1 hd1[i].n hrep _) ?_))
              refine And.intro ⟨hni, ar.1⟩ ?_
              refine Exists.intro ((i + 1 : Nat) : Int) (And.intro (wrap64 hwb) ?_)
              refine Exists.elim (⟨_, rfl⟩ : ∃ o', o' = if f1 = i + 1 then e1 else e1 + (i + 1) * 14) fun o9 ho9 => ?_
              have d2 := RowG.tail w4 hcl (p := i + 1) hil ho9
              have hm2 : ((xs1.drop o9).take ((hd1.length - (i + 1)) * 14)).length = (hd1.length - (i + 1)) * 14 := by rw [d2, flatMap_len (f := shcl) (k := 14) hcl]; simp
              have hq2 : cellsOK ((xs1.drop o9).take ((hd1.length - (i + 1)) * 14)) = true := by rw [d2]; exact cellsOK_sh _
              refine And.intro ⟨Int.natCast_nonneg _, ar.2.2.2.2.2.1⟩ (Exists.intro o9 (And.intro ho9 ?_))
              refine And.intro rfl (And.intro rfl (And.intro rfl (And.intro rfl ?_)))
              refine And.intro ⟨⟨Nat.le_refl _, Nat.le_refl _, rfl⟩, ⟨hm1, hq1⟩, ar.2.2.1⟩ ?_
              intro y1 u1 t1 hy1
              refine And.intro rfl (And.intro rfl ?_)
              refine And.intro ⟨⟨hy1.1, hy1.2.1, rfl⟩, ⟨hm2, hq2⟩, ar.2.2.2.1⟩ ?_
              intro y2 u2 t2 hy2
              refine And.intro ⟨⟨w6.1, w6.2.1, rfl⟩, ⟨rfl, rfl⟩, ar.2.2.2.2.1⟩ ?_
              intro y3 u3 t3 hy3
              have s1 : RowG shcl 14 y1 u1 t1 (hd1.take i) := RowG.app (d := []) (m := i) RowG.none rfl hti.symm d1 hy1.1 hy1.2.1 hy1.2.2
              have s2 : RowG shcl 14 y2 u2 t2 (hd1.take i ++ hd1.drop (i + 1)) := RowG.app (n := 0 + i) (m := hd1.length - (i + 1)) s1 ((Nat.zero_add i).trans hti.symm) (List.length_drop ..).symm d2 hy2.1 hy2.2.1 hy2.2.2
              have s3 : RowG shcl 14 y3 u3 t3 (l1 ++ [hd1[i]]) := RowG.snoc w6 rfl hy3.1 hy3.2.1 hy3.2.2
              have hl9 : (hd1.take i ++ hd1.drop (i + 1)).length = hd1.length - 1 := hlen.symm.trans (ar.2.2.2.2.2.2.1.trans ar.2.2.2.2.2.2.2.2.1)
              have hl8 : (hd1.take i ++ hd1.drop (i + 1)).length + (l1 ++ [hd1[i]]).length ≤ hd.length + 1 := by rw [hl9, List.length_append]; exact ar.2.2.2.2.2.2.2.1
              have hl7 : (hd1.take i ++ hd1.drop (i + 1)).length + true.toNat < hd1.length + more.toNat := by
                rw [hl9, show more = true from m1]
                exact Nat.add_lt_add_right (Nat.sub_lt ar.2.2.2.2.2.2.2.2.2 Nat.one_pos) _
              have hl6 : l1.length + 1 = (l1 ++ [hd1[i]]).length := by rw [List.length_append]; rfl
              exact Exists.intro ⟨true, upv v1 hd1[i].rep.toNat hd1[i].n, MP.del ms1 (hd1[i].rep, hd1[i].n), hd1.take i ++ hd1.drop (i + 1), y2, u2, 0 + i + (hd1.length - (i + 1)), t2, l1 ++ [hd1[i]], y3, u3, l1.length + 1, t3⟩ (Exists.intro [0, 1, 2, 3, 4, 10, 12] (And.intro ⟨⟨Dr.snoc w1 hnx, a5, hR1, s2, hlen, s3, hl6, hl8, fun h => by cases h⟩, hl7⟩ ⟨rfl, rfl, rfl⟩))
            · refine Exists.intro ((i + 1 : Nat) : Int) (And.intro (wrap64 hwb) ?_)
              refine Exists.intro (i + 1) (Exists.intro [0, 1, 2, 3, 4, 5, 6] (And.intro ⟨⟨hil, fun j hj hji => ?_⟩, by omega⟩ ⟨rfl, rfl, rfl⟩))
              by_cases e : j = i
              · subst e; exact q8
              · exact hno2 j hj (by omega)
          · have q7 := of_decide_eq_false q7
            have hie : i = hd1.length := by omega
            subst hie
            exact Exists.intro ⟨false, v1, ms1, hd1, xs1, e1, hd1.length, f1, l1, zs1, e3, l1.length, f3⟩ (Exists.intro [0, 1, 2, 3, 4, 5, 6] (And.intro ⟨⟨w1, w2, w3, w4, rfl, w6, rfl, w8, fun _ j hj => hno2 j hj hj⟩, by simp only; rw [show more = true from m1]; simp⟩ ⟨rfl, rfl, rfl⟩))
        · have hnn := w3.none w2 (w9 m1)
          have ar := takeAr2 ho w8 hm
          have hg1 : ((ys.drop o2).take (lg.length * 14)).length = lg.length * 14 := by rw [hy.2.2, flatMap_len (f := shcl) (k := 14) hcl]
          have hg2 : cellsOK ((ys.drop o2).take (lg.length * 14)) = true := by rw [hy.2.2]; exact cellsOK_sh _
          have hg3 : ((zs1.drop e3).take (l1.length * 14)).length = l1.length * 14 := by rw [w6.2.2, flatMap_len (f := shcl) (k := 14) hcl]
          have hg4 : cellsOK ((zs1.drop e3).take (l1.length * 14)) = true := by rw [w6.2.2]; exact cellsOK_sh _
          refine And.intro ⟨⟨Nat.le_refl _, Nat.le_refl _, rfl⟩, ⟨hg1, hg2⟩, ar.1⟩ ?_
          intro y1 u1 t1 hy1
          refine And.intro ⟨⟨hy1.1, hy1.2.1, rfl⟩, ⟨hg3, hg4⟩, ar.2⟩ ?_
          intro y2 u2 t2 hy2
          have s1 : RowG shcl 14 y1 u1 t1 lg := RowG.app (d := []) (m := lg.length) RowG.none rfl rfl hy.2.2 hy1.1 hy1.2.1 hy1.2.2
          have s2 : RowG shcl 14 y2 u2 t2 (lg ++ l1) := RowG.app (n := 0 + lg.length) (m := l1.length) s1 (Nat.zero_add _) rfl w6.2.2 hy2.1 hy2.2.1 hy2.2.2
          exact VRet.mk [0, 1, 2, 3, 5, 9, 6] (.tup [.sl 6 e3 l1.length f3, iv 0]) [.cells (vcells v1 ++ [.sl 4 e1 hd1.length f1, .sl 5 u2 (0 + lg.length + l1.length) t2]) T_rostrumref13_Buffer, .arr xs T_rostrumref13_Shadow, .arr ys T_rostrumref13_Shadow, .heap h, .arr xs1 T_rostrumref13_Shadow, .arr y2 T_rostrumref13_Shadow, .arr zs1 T_rostrumref13_Shadow] ⟨rfl, rfl, rfl⟩
            (.inr ⟨l1, v1, ms1, _, hd1, xs1, e1, f1, y2, u2, t2, zs1, e3, f3, ⟨k1, hno, q3⟩, w1, hnn, w2, w3, rfl, by rw [List.length_append, Nat.zero_add], w4, s2, w6⟩)
      · refine And.intro rfl (And.intro rfl (And.intro rfl (And.intro rfl ?_)))
        refine And.intro ⟨⟨Nat.le_refl _, Nat.le_refl _, rfl⟩, ⟨hl1, hk1⟩, hbp⟩ ?_
        intro z1 p1 d1 hz1
        refine And.intro rfl (And.intro rfl ?_)
        refine And.intro ⟨⟨hz1.1, hz1.2.1, rfl⟩, ⟨rfl, rfl⟩, hbq⟩ ?_
        intro z2 p2 d2 hz2
        refine And.intro rfl (And.intro rfl ?_)
        refine And.intro ⟨⟨hz2.1, hz2.2.1, rfl⟩, ⟨hl2, hk2⟩, hbr⟩ ?_
        intro z3 p3 d3 hz3
        have r1 : RowG shcl 14 z1 p1 d1 (hd.take p) := RowG.app (d := []) (m := p) RowG.none rfl htp.symm hc1 hz1.1 hz1.2.1 hz1.2.2
        have r2 : RowG shcl 14 z2 p2 d2 (hd.take p ++ [s]) := RowG.snoc r1 (n := 0 + p) ((Nat.zero_add p).trans htp.symm) hz2.1 hz2.2.1 hz2.2.2
        have r3 : RowG shcl 14 z3 p3 d3 (hd.take p ++ [s] ++ hd.drop p) := RowG.app (n := 0 + p + 1) (m := hd.length - p) r2 hn2 (List.length_drop ..).symm hc2 hz3.1 hz3.2.1 hz3.2.2
        refine VLoop.nil T_rostrumref13_Shadow [7] [] ⟨rfl, rfl⟩ ?_
        refine VLoop.mk RTX (fun x => [(0, .ptr 0 0), (7, .sl 6 x.o3 x.n3 x.c3), (8, bv x.more)]) (fun x => [.cells (vcells x.v ++ [.sl 5 x.o1 x.n1 x.c1, .sl 2 o2 lg.length c2]) T_rostrumref13_Buffer, .arr xs T_rostrumref13_Shadow, .arr ys T_rostrumref13_Shadow, .heap h, .cells (shcells s) T_rostrumref13_Shadow, .arr x.xs T_rostrumref13_Shadow, .arr x.zs T_rostrumref13_Shadow])
          (fun x => Dr v (MP.put ms (s.rep, s.n) s c) x.l x.v x.ms ∧ BI x.v x.ms (if (MP.get ms (s.rep, s.n)).isSome then c else c + 1) ∧ Rel x.ms x.hd ∧ RowG shcl 14 x.xs x.o1 x.c1 x.hd ∧ x.n1 = x.hd.length ∧ RowG shcl 14 x.zs x.o3 x.c3 x.l ∧ x.n3 = x.l.length ∧ x.hd.length + x.l.length ≤ hd.length + 1 ∧ (x.more = false → ∀ j (hj : j < x.hd.length), readyB x.hd[j] x.v = false)) (fun x => x.hd.length + x.more.toNat)
          ⟨true, v, MP.put ms (s.rep, s.n) s c, hd.take p ++ [s] ++ hd.drop p, z3, p3, 0 + p + 1 + (hd.length - p), d3, [], [], 0, 0, 0⟩ [0, 1, 2, 3, 4, 9, 10] ⟨⟨Dr.nil, hb.put k1 hno, hat hno p hlt hge, r3, hn3, RowG.none, rfl, by simp only [List.length_nil]; rw [← hn3]; omega, fun h => by cases h⟩, rfl, rfl, rfl⟩ ?_
        rintro ⟨more, v1, ms1, hd1, xs1, e1, n1, f1, l1, zs1, e3, n3, f3⟩ ⟨w1, w2, w3, w4, w5, w6, w7, w8, w9⟩ g4
        simp only at w1 w2 w3 w4 w5 w6 w7 w8 w9
        subst w5 w7
        have hroom1 : e1 + hd1.length * 14 ≤ xs1.length := by have := w4.2.1; have := Nat.mul_le_mul_right 14 w4.1; omega
        refine And.intro (fun m1 => ?_) (fun m1 => ?_)
        · refine VLoop.mk Nat (fun i => [(0, .ptr 0 0), (7, .sl 6 e3 l1.length f3), (8, bv false), (9, iv i)]) (fun _ => [.cells (vcells v1 ++ [.sl 5 e1 hd1.length f1, .sl 2 o2 lg.length c2]) T_rostrumref13_Buffer, .arr xs T_rostrumref13_Shadow, .arr ys T_rostrumref13_Shadow, .heap h, .cells (shcells s) T_rostrumref13_Shadow, .arr xs1 T_rostrumref13_Shadow, .arr zs1 T_rostrumref13_Shadow])
            (fun i => i ≤ hd1.length ∧ ∀ j (hj : j < hd1.length), j < i → readyB hd1[j] v1 = false) (fun i => hd1.length - i) 0 [0, 1, 2, 3, 4, 5, 6] ⟨⟨Nat.zero_le _, fun j _ hj => by omega⟩, rfl, rfl, rfl⟩ ?_
          rintro i ⟨hi, hno2⟩ g5
          have hni : (0 : Int) ≤ (i : Int) := Int.natCast_nonneg i
          have hwb : -9223372036854775808 ≤ (i : Int) + 1 ∧ (i : Int) + 1 ≤ 9223372036854775807 := by omega
          refine And.intro (fun q7 => ?_) (fun q7 => ?_)
          · have q7 := of_decide_eq_true q7
            have hil : i < hd1.length := by omega
            have ar := takeAr hil w4.1 w8 hm
            have d1 := RowG.init w4 hcl hi
            have hti : (hd1.take i).length = i := (List.length_take ..).trans ar.2.1
            have hm1 : ((xs1.drop e1).take (i * 14)).length = i * 14 := by rw [d1, flatMap_len (f := shcl) (k := 14) hcl, hti]
            have hq1 : cellsOK ((xs1.drop e1).take (i * 14)) = true := by rw [d1]; exact cellsOK_sh _
            have hlen : 0 + i + (hd1.length - (i + 1)) = (hd1.take i ++ hd1.drop (i + 1)).length := by rw [List.length_append, hti, List.length_drop, ar.2.2.2.2.2.2.1]
            have hcut1 := w4.cut hcl hil
            refine And.intro ⟨hni, q7, hroom1⟩ (Exists.intro _ (And.intro (by rw [Int.toNat_natCast]; exact hcut1) ?_))
            refine VCall.mk [] (s_ref_Ready hd1[i] v1) ⟨rfl, rfl, rfl⟩ ?_
            rintro _ _ ⟨rfl, rfl⟩
            refine And.intro (fun q8 => ?_) (fun q8 => ?_)
            · have hnx := w3.next w2 hil q8 hno2
              have hOB := w2.next hnx
              obtain ⟨a1, a2, a3, a4, a5⟩ := hOB
              have hrep := (goodS_iff a2).1
              have hR1 := w3.del w2.hk w2.nd hil
              refine And.intro hrep (Exists.intro _ (And.intro (vcells_put v1 hd1[i].n hrep _) ?_))
              refine And.intro ⟨hni, ar.1⟩ ?_
              refine Exists.intro ((i + 1 : Nat) : Int) (And.intro (wrap64 hwb) ?_)
              refine Exists.elim (⟨_, rfl⟩ : ∃ o', o' = if f1 = i + 1 then e1 else e1 + (i + 1) * 14) fun o9 ho9 => ?_
              have d2 := RowG.tail w4 hcl (p := i + 1) hil ho9
              have hm2 : ((xs1.drop o9).take ((hd1.length - (i + 1)) * 14)).length = (hd1.length - (i + 1)) * 14 := by rw [d2, flatMap_len (f := shcl) (k := 14) hcl]; simp
              have hq2 : cellsOK ((xs1.drop o9).take ((hd1.length - (i + 1)) * 14)) = true := by rw [d2]; exact cellsOK_sh _
              refine And.intro ⟨Int.natCast_nonneg _, ar.2.2.2.2.2.1⟩ (Exists.intro o9 (And.intro ho9 ?_))
              refine And.intro rfl (And.intro rfl (And.intro rfl (And.intro rfl ?_)))
              refine And.intro ⟨⟨Nat.le_refl _, Nat.le_refl _, rfl⟩, ⟨hm1, hq1⟩, ar.2.2.1⟩ ?_
              intro y1 u1 t1 hy1
              refine And.intro rfl (And.intro rfl ?_)
              refine And.intro ⟨⟨hy1.1, hy1.2.1, rfl⟩, ⟨hm2, hq2⟩, ar.2.2.2.1⟩ ?_
              intro y2 u2 t2 hy2
              refine And.intro ⟨⟨w6.1, w6.2.1, rfl⟩, ⟨rfl, rfl⟩, ar.2.2.2.2.1⟩ ?_
              intro y3 u3 t3 hy3
              have s1 : RowG shcl 14 y1 u1 t1 (hd1.take i) := RowG.app (d := []) (m := i) RowG.none rfl hti.symm d1 hy1.1 hy1.2.1 hy1.2.2
              have s2 : RowG shcl 14 y2 u2 t2 (hd1.take i ++ hd1.drop (i + 1)) := RowG.app (n := 0 + i) (m := hd1.length - (i + 1)) s1 ((Nat.zero_add i).trans hti.symm) (List.length_drop ..).symm d2 hy2.1 hy2.2.1 hy2.2.2
              have s3 : RowG shcl 14 y3 u3 t3 (l1 ++ [hd1[i]]) := RowG.snoc w6 rfl hy3.1 hy3.2.1 hy3.2.2
              have hl9 : (hd1.take i ++ hd1.drop (i + 1)).length = hd1.length - 1 := hlen.symm.trans (ar.2.2.2.2.2.2.1.trans ar.2.2.2.2.2.2.2.2.1)
              have hl8 : (hd1.take i ++ hd1.drop (i + 1)).length + (l1 ++ [hd1[i]]).length ≤ hd.length + 1 := by rw [hl9, List.length_append]; exact ar.2.2.2.2.2.2.2.1
              have hl7 : (hd1.take i ++ hd1.drop (i + 1)).length + true.toNat < hd1.length + more.toNat := by
                rw [hl9, show more = true from m1]
                exact Nat.add_lt_add_right (Nat.sub_lt ar.2.2.2.2.2.2.2.2.2 Nat.one_pos) _
              have hl6 : l1.length + 1 = (l1 ++ [hd1[i]]).length := by rw [List.length_append]; rfl
              exact Exists.intro ⟨true, upv v1 hd1[i].rep.toNat hd1[i].n, MP.del ms1 (hd1[i].rep, hd1[i].n), hd1.take i ++ hd1.drop (i + 1), y2, u2, 0 + i + (hd1.length - (i + 1)), t2, l1 ++ [hd1[i]], y3, u3, l1.length + 1, t3⟩ (Exists.intro [0, 1, 2, 3, 4, 10, 12] (And.intro ⟨⟨Dr.snoc w1 hnx, a5, hR1, s2, hlen, s3, hl6, hl8, fun h => by cases h⟩, hl7⟩ ⟨rfl, rfl, rfl⟩))
            · refine Exists.intro ((i + 1 : Nat) : Int) (And.intro (wrap64 hwb) ?_)
              refine Exists.intro (i + 1) (Exists.intro [0, 1, 2, 3, 4, 5, 6] (And.intro ⟨⟨hil, fun j hj hji => ?_⟩, by omega⟩ ⟨rfl, rfl, rfl⟩))
              by_cases e : j = i
              · subst e; exact q8
              · exact hno2 j hj (by omega)
          · have q7 := of_decide_eq_false q7
            have hie : i = hd1.length := by omega
            subst hie
            exact Exists.intro ⟨false, v1, ms1, hd1, xs1, e1, hd1.length, f1, l1, zs1, e3, l1.length, f3⟩ (Exists.intro [0, 1, 2, 3, 4, 5, 6] (And.intro ⟨⟨w1, w2, w3, w4, rfl, w6, rfl, w8, fun _ j hj => hno2 j hj hj⟩, by simp only; rw [show more = true from m1]; simp⟩ ⟨rfl, rfl, rfl⟩))
        · have hnn := w3.none w2 (w9 m1)
          have ar := takeAr2 ho w8 hm
          have hg1 : ((ys.drop o2).take (lg.length * 14)).length = lg.length * 14 := by rw [hy.2.2, flatMap_len (f := shcl) (k := 14) hcl]
          have hg2 : cellsOK ((ys.drop o2).take (lg.length * 14)) = true := by rw [hy.2.2]; exact cellsOK_sh _
          have hg3 : ((zs1.drop e3).take (l1.length * 14)).length = l1.length * 14 := by rw [w6.2.2, flatMap_len (f := shcl) (k := 14) hcl]
          have hg4 : cellsOK ((zs1.drop e3).take (l1.length * 14)) = true := by rw [w6.2.2]; exact cellsOK_sh _
          refine And.intro ⟨⟨Nat.le_refl _, Nat.le_refl _, rfl⟩, ⟨hg1, hg2⟩, ar.1⟩ ?_
          intro y1 u1 t1 hy1
          refine And.intro ⟨⟨hy1.1, hy1.2.1, rfl⟩, ⟨hg3, hg4⟩, ar.2⟩ ?_
          intro y2 u2 t2 hy2
          have s1 : RowG shcl 14 y1 u1 t1 lg := RowG.app (d := []) (m := lg.length) RowG.none rfl rfl hy.2.2 hy1.1 hy1.2.1 hy1.2.2
          have s2 : RowG shcl 14 y2 u2 t2 (lg ++ l1) := RowG.app (n := 0 + lg.length) (m := l1.length) s1 (Nat.zero_add _) rfl w6.2.2 hy2.1 hy2.2.1 hy2.2.2
          exact VRet.mk [0, 1, 2, 3, 5, 9, 6] (.tup [.sl 6 e3 l1.length f3, iv 0]) [.cells (vcells v1 ++ [.sl 4 e1 hd1.length f1, .sl 5 u2 (0 + lg.length + l1.length) t2]) T_rostrumref13_Buffer, .arr xs T_rostrumref13_Shadow, .arr ys T_rostrumref13_Shadow, .heap h, .arr xs1 T_rostrumref13_Shadow, .arr y2 T_rostrumref13_Shadow, .arr zs1 T_rostrumref13_Shadow] ⟨rfl, rfl, rfl⟩
            (.inr ⟨l1, v1, ms1, _, hd1, xs1, e1, f1, y2, u2, t2, zs1, e3, f3, ⟨k1, hno, q3⟩, w1, hnn, w2, w3, rfl, by rw [List.length_append, Nat.zero_add], w4, s2, w6⟩)
    · refine And.intro rfl (And.intro rfl (And.intro rfl (And.intro rfl ?_)))
      refine And.intro rfl (And.intro rfl (And.intro rfl (And.intro rfl ?_)))
      refine And.intro ⟨⟨Nat.le_refl _, Nat.le_refl _, rfl⟩, ⟨hl1, hk1⟩, hbp⟩ ?_
      intro z1 p1 d1 hz1
      refine And.intro rfl (And.intro rfl ?_)
      refine And.intro ⟨⟨hz1.1, hz1.2.1, rfl⟩, ⟨rfl, rfl⟩, hbq⟩ ?_
      intro z2 p2 d2 hz2
      refine And.intro rfl (And.intro rfl ?_)
      refine And.intro ⟨⟨hz2.1, hz2.2.1, rfl⟩, ⟨hl2, hk2⟩, hbr⟩ ?_
      intro z3 p3 d3 hz3
      have r1 : RowG shcl 14 z1 p1 d1 (hd.take p) := RowG.app (d := []) (m := p) RowG.none rfl htp.symm hc1 hz1.1 hz1.2.1 hz1.2.2
      have r2 : RowG shcl 14 z2 p2 d2 (hd.take p ++ [s]) := RowG.snoc r1 (n := 0 + p) ((Nat.zero_add p).trans htp.symm) hz2.1 hz2.2.1 hz2.2.2
      have r3 : RowG shcl 14 z3 p3 d3 (hd.take p ++ [s] ++ hd.drop p) := RowG.app (n := 0 + p + 1) (m := hd.length - p) r2 hn2 (List.length_drop ..).symm hc2 hz3.1 hz3.2.1 hz3.2.2
      refine VLoop.nil T_rostrumref13_Shadow [7] [] ⟨rfl, rfl⟩ ?_
      refine VLoop.mk RTX (fun x => [(0, .ptr 0 0), (7, .sl 6 x.o3 x.n3 x.c3), (8, bv x.more)]) (fun x => [.cells (vcells x.v ++ [.sl 5 x.o1 x.n1 x.c1, .sl 2 o2 lg.length c2]) T_rostrumref13_Buffer, .arr xs T_rostrumref13_Shadow, .arr ys T_rostrumref13_Shadow, .heap h, .cells (shcells s) T_rostrumref13_Shadow, .arr x.xs T_rostrumref13_Shadow, .arr x.zs T_rostrumref13_Shadow])
        (fun x => Dr v (MP.put ms (s.rep, s.n) s c) x.l x.v x.ms ∧ BI x.v x.ms (if (MP.get ms (s.rep, s.n)).isSome then c else c + 1) ∧ Rel x.ms x.hd ∧ RowG shcl 14 x.xs x.o1 x.c1 x.hd ∧ x.n1 = x.hd.length ∧ RowG shcl 14 x.zs x.o3 x.c3 x.l ∧ x.n3 = x.l.length ∧ x.hd.length + x.l.length ≤ hd.length + 1 ∧ (x.more = false → ∀ j (hj : j < x.hd.length), readyB x.hd[j] x.v = false)) (fun x => x.hd.length + x.more.toNat)
        ⟨true, v, MP.put ms (s.rep, s.n) s c, hd.take p ++ [s] ++ hd.drop p, z3, p3, 0 + p + 1 + (hd.length - p), d3, [], [], 0, 0, 0⟩ [0, 1, 2, 3, 4, 9, 10] ⟨⟨Dr.nil, hb.put k1 hno, hat hno p hlt hge, r3, hn3, RowG.none, rfl, by simp only [List.length_nil]; rw [← hn3]; omega, fun h => by cases h⟩, rfl, rfl, rfl⟩ ?_
      rintro ⟨more, v1, ms1, hd1, xs1, e1, n1, f1, l1, zs1, e3, n3, f3⟩ ⟨w1, w2, w3, w4, w5, w6, w7, w8, w9⟩ g4
      simp only at w1 w2 w3 w4 w5 w6 w7 w8 w9
      subst w5 w7
      have hroom1 : e1 + hd1.length * 14 ≤ xs1.length := by have := w4.2.1; have := Nat.mul_le_mul_right 14 w4.1; omega
      refine And.intro (fun m1 => ?_) (fun m1 => ?_)
      · refine VLoop.mk Nat (fun i => [(0, .ptr 0 0), (7, .sl 6 e3 l1.length f3), (8, bv false), (9, iv i)]) (fun _ => [.cells (vcells v1 ++ [.sl 5 e1 hd1.length f1, .sl 2 o2 lg.length c2]) T_rostrumref13_Buffer, .arr xs T_rostrumref13_Shadow, .arr ys T_rostrumref13_Shadow, .heap h, .cells (shcells s) T_rostrumref13_Shadow, .arr xs1 T_rostrumref13_Shadow, .arr zs1 T_rostrumref13_Shadow])
          (fun i => i ≤ hd1.length ∧ ∀ j (hj : j < hd1.length), j < i → readyB hd1[j] v1 = false) (fun i => hd1.length - i) 0 [0, 1, 2, 3, 4, 5, 6] ⟨⟨Nat.zero_le _, fun j _ hj => by omega⟩, rfl, rfl, rfl⟩ ?_
        rintro i ⟨hi, hno2⟩ g5
        have hni : (0 : Int) ≤ (i : Int) := Int.natCast_nonneg i
        have hwb : -9223372036854775808 ≤ (i : Int) + 1 ∧ (i : Int) + 1 ≤ 9223372036854775807 := by omega
        refine And.intro (fun q7 => ?_) (fun q7 => ?_)
        · have q7 := of_decide_eq_true q7
          have hil : i < hd1.length := by omega
          have ar := takeAr hil w4.1 w8 hm
          have d1 := RowG.init w4 hcl hi
          have hti : (hd1.take i).length = i := (List.length_take ..).trans ar.2.1
          have hm1 : ((xs1.drop e1).take (i * 14)).length = i * 14 := by rw [d1, flatMap_len (f := shcl) (k := 14) hcl, hti]
          have hq1 : cellsOK ((xs1.drop e1).take (i * 14)) = true := by rw [d1]; exact cellsOK_sh _
          have hlen : 0 + i + (hd1.length - (i + 1)) = (hd1.take i ++ hd1.drop (i + 1)).length := by rw [List.length_append, hti, List.length_drop, ar.2.2.2.2.2.2.1]
          have hcut1 := w4.cut hcl hil
          refine And.intro ⟨hni, q7, hroom1⟩ (Exists.intro _ (And.intro (by rw [Int.toNat_natCast]; exact hcut1) ?_))
          refine VCall.mk [] (s_ref_Ready hd1[i] v1) ⟨rfl, rfl, rfl⟩ ?_
          rintro _ _ ⟨rfl, rfl⟩
          refine And.intro (fun q8 => ?_) (fun q8 => ?_)
          · have hnx := w3.next w2 hil q8 hno2
            have hOB := w2.next hnx
            obtain ⟨a1, a2, a3, a4, a5⟩ := hOB
            have hrep := (goodS_iff a2).1
            have hR1 := w3.del w2.hk w2.nd hil
            refine And.intro hrep (Exists.intro _ (And.intro (vcells_put v1 hd1[i].n hrep _) ?_))
            refine And.intro ⟨hni, ar.1⟩ ?_
            refine Exists.intro ((i + 1 : Nat) : Int) (And.intro (wrap64 hwb) ?_)
            refine Exists.elim (⟨_, rfl⟩ : ∃ o', o' = if f1 = i + 1 then e1 else e1 + (i + 1) * 14) fun o9 ho9 => ?_
            have d2 := RowG.tail w4 hcl (p := i + 1) hil ho9
            have hm2 : ((xs1.drop o9).take ((hd1.length - (i + 1)) * 14)).length = (hd1.length - (i + 1)) * 14 := by rw [d2, flatMap_len (f := shcl) (k := 14) hcl]; simp
            have hq2 : cellsOK ((xs1.drop o9).take ((hd1.length - (i + 1)) * 14)) = true := by rw [d2]; exact cellsOK_sh _
            refine And.intro ⟨Int.natCast_nonneg _, ar.2.2.2.2.2.1⟩ (Exists.intro o9 (And.intro ho9 ?_))
            refine And.intro rfl (And.intro rfl (And.intro rfl (And.intro rfl ?_)))
            refine And.intro ⟨⟨Nat.le_refl _, Nat.le_refl _, rfl⟩, ⟨hm1, hq1⟩, ar.2.2.1⟩ ?_
            intro y1 u1 t1 hy1
            refine And.intro rfl (And.intro rfl ?_)
            refine And.intro ⟨⟨hy1.1, hy1.2.1, rfl⟩, ⟨hm2, hq2⟩, ar.2.2.2.1⟩ ?_
            intro y2 u2 t2 hy2
            refine And.intro ⟨⟨w6.1, w6.2.1, rfl⟩, ⟨rfl, rfl⟩, ar.2.2.2.2.1⟩ ?_
            intro y3 u3 t3 hy3
            have s1 : RowG shcl 14 y1 u1 t1 (hd1.take i) := RowG.app (d := []) (m := i) RowG.none rfl hti.symm d1 hy1.1 hy1.2.1 hy1.2.2
            have s2 : RowG shcl 14 y2 u2 t2 (hd1.take i ++ hd1.drop (i + 1)) := RowG.app (n := 0 + i) (m := hd1.length - (i + 1)) s1 ((Nat.zero_add i).trans hti.symm) (List.length_drop ..).symm d2 hy2.1 hy2.2.1 hy2.2.2
            have s3 : RowG shcl 14 y3 u3 t3 (l1 ++ [hd1[i]]) := RowG.snoc w6 rfl hy3.1 hy3.2.1 hy3.2.2
            have hl9 : (hd1.take i ++ hd1.drop (i + 1)).length = hd1.length - 1 := hlen.symm.trans (ar.2.2.2.2.2.2.1.trans ar.2.2.2.2.2.2.2.2.1)
            have hl8 : (hd1.take i ++ hd1.drop (i + 1)).length + (l1 ++ [hd1[i]]).length ≤ hd.length + 1 := by rw [hl9, List.length_append]; exact ar.2.2.2.2.2.2.2.1
            have hl7 : (hd1.take i ++ hd1.drop (i + 1)).length + true.toNat < hd1.length + more.toNat := by
              rw [hl9, show more = true from m1]
              exact Nat.add_lt_add_right (Nat.sub_lt ar.2.2.2.2.2.2.2.2.2 Nat.one_pos) _
            have hl6 : l1.length + 1 = (l1 ++ [hd1[i]]).length := by rw [List.length_append]; rfl
            exact Exists.intro ⟨true, upv v1 hd1[i].rep.toNat hd1[i].n, MP.del ms1 (hd1[i].rep, hd1[i].n), hd1.take i ++ hd1.drop (i + 1), y2, u2, 0 + i + (hd1.length - (i + 1)), t2, l1 ++ [hd1[i]], y3, u3, l1.length + 1, t3⟩ (Exists.intro [0, 1, 2, 3, 4, 10, 12] (And.intro ⟨⟨Dr.snoc w1 hnx, a5, hR1, s2, hlen, s3, hl6, hl8, fun h => by cases h⟩, hl7⟩ ⟨rfl, rfl, rfl⟩))
          · refine Exists.intro ((i + 1 : Nat) : Int) (And.intro (wrap64 hwb) ?_)
            refine Exists.intro (i + 1) (Exists.intro [0, 1, 2, 3, 4, 5, 6] (And.intro ⟨⟨hil, fun j hj hji => ?_⟩, by omega⟩ ⟨rfl, rfl, rfl⟩))
            by_cases e : j = i
            · subst e; exact q8
            · exact hno2 j hj (by omega)
        · have q7 := of_decide_eq_false q7
          have hie : i = hd1.length := by omega
          subst hie
          exact Exists.intro ⟨false, v1, ms1, hd1, xs1, e1, hd1.length, f1, l1, zs1, e3, l1.length, f3⟩ (Exists.intro [0, 1, 2, 3, 4, 5, 6] (And.intro ⟨⟨w1, w2, w3, w4, rfl, w6, rfl, w8, fun _ j hj => hno2 j hj hj⟩, by simp only; rw [show more = true from m1]; simp⟩ ⟨rfl, rfl, rfl⟩))
      · have hnn := w3.none w2 (w9 m1)
        have ar := takeAr2 ho w8 hm
        have hg1 : ((ys.drop o2).take (lg.length * 14)).length = lg.length * 14 := by rw [hy.2.2, flatMap_len (f := shcl) (k := 14) hcl]
        have hg2 : cellsOK ((ys.drop o2).take (lg.length * 14)) = true := by rw [hy.2.2]; exact cellsOK_sh _
        have hg3 : ((zs1.drop e3).take (l1.length * 14)).length = l1.length * 14 := by rw [w6.2.2, flatMap_len (f := shcl) (k := 14) hcl]
        have hg4 : cellsOK ((zs1.drop e3).take (l1.length * 14)) = true := by rw [w6.2.2]; exact cellsOK_sh _
        refine And.intro ⟨⟨Nat.le_refl _, Nat.le_refl _, rfl⟩, ⟨hg1, hg2⟩, ar.1⟩ ?_
        intro y1 u1 t1 hy1
        refine And.intro ⟨⟨hy1.1, hy1.2.1, rfl⟩, ⟨hg3, hg4⟩, ar.2⟩ ?_
        intro y2 u2 t2 hy2
        have s1 : RowG shcl 14 y1 u1 t1 lg := RowG.app (d := []) (m := lg.length) RowG.none rfl rfl hy.2.2 hy1.1 hy1.2.1 hy1.2.2
        have s2 : RowG shcl 14 y2 u2 t2 (lg ++ l1) := RowG.app (n := 0 + lg.length) (m := l1.length) s1 (Nat.zero_add _) rfl w6.2.2 hy2.1 hy2.2.1 hy2.2.2
        exact VRet.mk [0, 1, 2, 3, 5, 9, 6] (.tup [.sl 6 e3 l1.length f3, iv 0]) [.cells (vcells v1 ++ [.sl 4 e1 hd1.length f1, .sl 5 u2 (0 + lg.length + l1.length) t2]) T_rostrumref13_Buffer, .arr xs T_rostrumref13_Shadow, .arr ys T_rostrumref13_Shadow, .heap h, .arr xs1 T_rostrumref13_Shadow, .arr y2 T_rostrumref13_Shadow, .arr zs1 T_rostrumref13_Shadow] ⟨rfl, rfl, rfl⟩
          (.inr ⟨l1, v1, ms1, _, hd1, xs1, e1, f1, y2, u2, t2, zs1, e3, f3, ⟨k1, hno, q3⟩, w1, hnn, w2, w3, rfl, by rw [List.length_append, Nat.zero_add], w4, s2, w6⟩)
end Go.Proofs

namespace Go.Proofs
open Go Go.V Go.Lib
set_option maxRecDepth 100000
set_option linter.unusedVariables false

theorem s_Drop_1 (w : Nat → Int) (s : SH) : Ctr Tryd.prog F_causal_Buffer_Drop_1 [.agg (shcells s), .ptr 0 0] [.cells (vcells w) T_vec_Vec] (fun x H => x = bv (has w s.rep s.n) ∧ H = [.cells (vcells w) T_vec_Vec]) := by
  refine i_causal_Buffer_Drop_1.spec follows ?_
  refine VCall.mk [] (s_vec_Has w s.rep s.n) ⟨rfl, rfl, rfl⟩ ?_
  rintro _ _ ⟨rfl, rfl⟩
  exact VRet.mk [0] (bv _) [.cells (vcells w) T_vec_Vec] ⟨rfl, rfl, rfl⟩ ⟨rfl, rfl⟩
theorem s_IndexFuncD (w : Nat → Int) (d : List SH) (xs : List Value) (o c : Nat) (hr : RowG shcl 14 xs o c d) (hl : d.length ≤ 1000000) :
    Ctr Tryd.prog F_slices_IndexFunc_sl_shadow_Shadow_shadow_Shadow [.sl 0 o d.length c, .fn F_causal_Buffer_Drop_1 [.ptr 1 0]] [.arr xs T_shadow_Shadow, .cells (vcells w) T_vec_Vec]
    (fun x H => (∃ i : Nat, ∃ hi : i < d.length, x = iv i ∧ has w d[i].rep d[i].n = true ∧ (∀ j (hj : j < d.length), j < i → has w d[j].rep d[j].n = false) ∧ H = [.arr xs T_shadow_Shadow, .cells (vcells w) T_vec_Vec]) ∨ (x = iv (-1) ∧ (∀ j (hj : j < d.length), has w d[j].rep d[j].n = false) ∧ H = [.arr xs T_shadow_Shadow, .cells (vcells w) T_vec_Vec])) := by
  have hcl : ∀ x, (shcl x).length = 14 := fun _ => rfl
  refine i_slices_IndexFunc_sl_shadow_Shadow_shadow_Shadow.spec follows ?_
  refine VLoop.mk Nat (fun i => [(0, .sl 0 o d.length c), (1, .fn F_causal_Buffer_Drop_1 [.ptr 1 0]), (6, .sl 0 o d.length c), (7, iv d.length), (8, iv i)]) (fun i => [.arr xs T_shadow_Shadow, .cells (vcells w) T_vec_Vec])
    (fun i => i ≤ d.length ∧ ∀ j (hj : j < d.length), j < i → has w d[j].rep d[j].n = false) (fun i => d.length - i) 0 [0, 1] ⟨⟨Nat.zero_le _, fun j _ hj => by omega⟩, rfl, rfl, rfl⟩ ?_
  rintro i ⟨hi, hb⟩ g
  refine And.intro (fun h => ?_) (fun h => ?_)
  · have h := of_decide_eq_true h
    have hil : i < d.length := by omega
    have hw : IntKind.i64.wrap ((i : Int) + 1) = ((i + 1 : Nat) : Int) := wrap64 (by omega)
    have hc := hr.cut hcl hil
    have hroom : o + d.length * 14 ≤ xs.length := by have := hr.2.1; have := Nat.mul_le_mul_right 14 hr.1; omega
    refine And.intro ⟨Int.natCast_nonneg i, h, hroom⟩ (Exists.intro _ (And.intro (by rw [Int.toNat_natCast]; exact hc) ?_))
    refine And.intro (by kernel_rfl) ?_
    refine VCall.mk [1] (s_Drop_1 w d[i]) ⟨rfl, rfl, rfl⟩ ?_
    rintro _ _ ⟨rfl, rfl⟩
    refine And.intro (fun h2 => ?_) (fun h2 => ?_)
    · exact VRet.mk [0, 1] (iv i) [.arr xs T_shadow_Shadow, .cells (vcells w) T_vec_Vec] ⟨rfl, rfl, rfl⟩ (.inl ⟨i, hil, rfl, h2, hb, rfl⟩)
    · refine Exists.intro _ (And.intro hw ?_)
      refine Exists.intro (i + 1) (Exists.intro [0, 1] (And.intro ⟨⟨hil, fun j hj hji => ?_⟩, by omega⟩ ⟨rfl, rfl, rfl⟩))
      by_cases e : j = i
      · subst e; exact h2
      · exact hb j hj (by omega)
  · have h := of_decide_eq_false h
    exact VRet.mk [0, 1] (iv (-1)) [.arr xs T_shadow_Shadow, .cells (vcells w) T_vec_Vec] ⟨rfl, rfl, rfl⟩ (.inr ⟨rfl, fun j hj => hb j hj (by omega), rfl⟩)

structure DXD where
  e : List SH
  xs : List Value
  i : Nat
  j : Nat
theorem s_DeleteFuncD (w : Nat → Int) (d : List SH) (xs : List Value) (o c : Nat) (hr : RowG shcl 14 xs o c d) (hl : d.length ≤ 1000000) :
    Ctr Tryd.prog F_slices_DeleteFunc_sl_shadow_Shadow_shadow_Shadow [.sl 0 o d.length c, .fn F_causal_Buffer_Drop_1 [.ptr 1 0]] [.arr xs T_shadow_Shadow, .cells (vcells w) T_vec_Vec]
    (fun x H => ∃ d' xs', d' = d.filter (fun y => !(has w y.rep y.n)) ∧ x = .sl 0 o d'.length c ∧ H = [.arr xs' T_shadow_Shadow, .cells (vcells w) T_vec_Vec] ∧ RowG shcl 14 xs' o c d') := by
  have hcl : ∀ x, (shcl x).length = 14 := fun _ => rfl
  refine i_slices_DeleteFunc_sl_shadow_Shadow_shadow_Shadow.spec follows ?_
  refine VCall.mk [0, 1] (s_IndexFuncD w d xs o c hr hl) ⟨rfl, rfl, rfl⟩ ?_
  rintro _ _ (⟨i0, hi0, rfl, hp0, hb0, rfl⟩ | ⟨rfl, hb, rfl⟩)
  rotate_left 1
  · refine And.intro (fun _ => ?_) (fun h => absurd (of_decide_eq_false h) (by simp))
    have hd : d.filter (fun y => !(has w y.rep y.n)) = d := by
      rw [List.filter_eq_self]
      intro x hx
      obtain ⟨j, hj, rfl⟩ := List.mem_iff_getElem.1 hx
      simp [hb j hj]
    refine VRet.mk [0, 1] (.sl 0 o d.length c) [.arr xs T_shadow_Shadow, .cells (vcells w) T_vec_Vec] ⟨rfl, rfl, rfl⟩ ⟨d, xs, hd.symm, rfl, rfl, hr⟩
  have hn1 : ¬ ((i0 : Int) = -1) := by omega
  refine And.intro (fun h => absurd (of_decide_eq_true h) hn1) (fun _ => ?_)
  have hw0 : IntKind.i64.wrap ((i0 : Int) + 1) = ((i0 + 1 : Nat) : Int) := wrap64 (by omega)
  refine Exists.intro _ (And.intro hw0 ?_)
  refine VLoop.mk DXD (fun x => [(0, .sl 0 o d.length c), (1, .fn F_causal_Buffer_Drop_1 [.ptr 1 0]), (5, iv x.i), (6, iv x.j)]) (fun x => [.arr x.xs T_shadow_Shadow, .cells (vcells w) T_vec_Vec])
    (fun x => Sieve d (fun y => !(has w y.rep y.n)) x.e x.i x.j ∧ RowG shcl 14 x.xs o c x.e ∧ x.i < x.j) (fun x => d.length - x.j) ⟨d, xs, i0, i0 + 1⟩ [0, 1]
    ⟨⟨Sieve.start hi0 (by simp [hp0]) (fun j hj hji => by simp [hb0 j hj hji]), hr, Nat.lt_succ_self _⟩, rfl, rfl, rfl⟩ ?_
  rintro ⟨e, ys, i, j⟩ ⟨hS, hR, hij⟩ g
  simp only at hS hR hij
  have hroom : o + d.length * 14 ≤ ys.length := by have := hR.2.1; have := Nat.mul_le_mul_right 14 hR.1; rw [hS.len] at this; omega
  refine And.intro (fun h => ?_) (fun h => ?_)
  · have h := of_decide_eq_true h
    have hjl : j < d.length := by simp only at h; omega
    have hjl' : j < e.length := by rw [hS.len]; exact hjl
    have hge := hS.get hjl
    have hc := hR.cut hcl hjl'
    rw [hge] at hc
    have hwj : IntKind.i64.wrap ((j : Int) + 1) = ((j + 1 : Nat) : Int) := wrap64 (by omega)
    have hwi : IntKind.i64.wrap ((i : Int) + 1) = ((i + 1 : Nat) : Int) := wrap64 (by omega)
    refine And.intro ⟨Int.natCast_nonneg j, h, hroom⟩ (Exists.intro _ (And.intro (by rw [Int.toNat_natCast]; exact hc) ?_))
    refine And.intro (by kernel_rfl) ?_
    refine VCall.mk [1] (s_Drop_1 w d[j]) ⟨rfl, rfl, rfl⟩ ?_
    rintro _ _ ⟨rfl, rfl⟩
    refine And.intro (fun h2 => ?_) (fun h2 => ?_)
    · have h2 : has w d[j].rep d[j].n = false := by simpa using h2
      have hil : i < e.length := by omega
      obtain ⟨zs, hz1, hz2, hz3⟩ := hR.set hcl (by omega) hil d[j]
      refine And.intro ⟨Int.natCast_nonneg i, by have := hS.len; show (i : Int) < (d.length : Nat); omega, hroom⟩ (Exists.intro _ (And.intro (by rw [Int.toNat_natCast]; exact hz1) ?_))
      refine Exists.intro _ (And.intro hwi ?_)
      refine Exists.intro _ (And.intro hwj ?_)
      exact Exists.intro ⟨e.set i d[j], zs, i + 1, j + 1⟩ (Exists.intro [0, 1] (And.intro ⟨⟨hS.keep hjl (by simp [h2]), hz2, by simp only; omega⟩, by simp only; omega⟩ ⟨rfl, rfl, rfl⟩))
    · have h2 : has w d[j].rep d[j].n = true := by simpa using h2
      refine Exists.intro _ (And.intro hwj ?_)
      exact Exists.intro ⟨e, ys, i, j + 1⟩ (Exists.intro [0, 1] (And.intro ⟨⟨hS.drop hjl (by simp [h2]), hR, by simp only; omega⟩, by simp only; omega⟩ ⟨rfl, rfl, rfl⟩))
  · have h := of_decide_eq_false h
    have hj : j = d.length := by have := hS.le; simp only at h; omega
    subst hj
    have hi := hS.le.1
    have hlen := hS.len
    have hlx := hR.2.1
    have hcc := hR.1
    have hmul := Nat.mul_le_mul_right 14 hR.1
    refine And.intro ⟨Int.natCast_nonneg i, by show (i : Int) ≤ (d.length : Nat); omega⟩ (Exists.intro _ (And.intro rfl ?_))
    rw [Int.toNat_natCast]
    refine And.intro ⟨rfl, rfl, ?_⟩ ?_
    · have hlx' : o + c * 14 ≤ ys.length := hlx
      rw [hlen] at hmul hcc
      have hsub : (d.length - i) * 14 ≤ c * 14 - i * 14 := by rw [← Nat.sub_mul]; exact Nat.mul_le_mul_right _ (by omega)
      have him : i * 14 ≤ c * 14 := Nat.mul_le_mul_right _ (by omega)
      show (if c = i then o else o + i * 14) + (d.length - i) * 14 ≤ ys.length
      by_cases hci : c = i
      · rw [if_pos hci]
        subst hci
        omega
      · rw [if_neg hci]; omega
    intro ws hws
    refine And.intro ⟨Int.natCast_nonneg i, by show (i : Int) ≤ (c : Nat); omega⟩ ?_
    rw [Int.toNat_natCast]
    have hdone := hS.done
    have hnum : i = (d.filter fun y => !(has w y.rep y.n)).length := by rw [← hdone, List.length_take]; omega
    have hR2 := hR.cutDown hcl i
    rw [hdone] at hR2
    have hR3 : RowG shcl 14 ws o c (d.filter fun y => !(has w y.rep y.n)) := by
      refine hR2.same hws.1 fun t ht => hws.2 t (.inl ?_)
      rw [← hnum] at ht
      show t < (if c = i then o else o + i * 14)
      by_cases hci : c = i
      · exfalso
        have h1 : i < d.length := hij
        have h2 : e.length ≤ c := hcc
        rw [hlen] at h2
        omega
      · rw [if_neg hci]; exact ht
    refine VRet.mk [0, 1] (.sl 0 o i c) [.arr ws T_shadow_Shadow, .cells (vcells w) T_vec_Vec] ⟨rfl, rfl, rfl⟩ ⟨_, ws, rfl, ?_, rfl, hR3⟩
    rw [← hnum]
end Go.Proofs

namespace Go.Proofs
open Go Go.V Go.Lib
set_option maxRecDepth 100000
set_option linter.unusedVariables false

theorem s_Drop (v w : Nat → Int) (ms : SM) (c : Nat) (ys : List Value) (o cp : Nat) (out : List SH) (hr : RowG shcl 14 ys o cp out) (hl : out.length ≤ 100000) :
    Ctr Tryd.prog F_causal_Buffer_Drop [.ptr 0 0, .agg (vcells w)] (bufH v ms c ys o out.length cp) (fun x H => ∃ ys', x = .tup [] ∧ H = bufH v ms c ys' o (lacks w out).length cp ∧ RowG shcl 14 ys' o cp (lacks w out)) := by
  refine i_causal_Buffer_Drop.spec follows ?_
  refine VCall.mk [2, 3] (s_DeleteFuncD w out ys o cp hr (by omega)) ⟨rfl, rfl, rfl⟩ ?_
  rintro _ _ ⟨d', ys', hd, rfl, rfl, hr'⟩
  have hd : d' = lacks w out := hd
  subst hd
  exact VRet.mk [0, 1, 2] (.tup []) (bufH v ms c ys' o (lacks w out).length cp) ⟨rfl, rfl, rfl⟩ ⟨ys', rfl, rfl, hr'⟩
structure RBX where
  i : Nat
  n : Nat
  zs : List Value
  o : Nat
  cp : Nat
theorem s_ref_Behind (v w : Nat → Int) (xs : List Value) (o1 n1 c1 : Nat) (ys : List Value) (o cp : Nat) (out : List SH) (hr : RowG shcl 14 ys o cp out) (ho : out.length ≤ 100000) :
    Ctr Tryd.prog F_rostrumref13_Buffer_Behind [.ptr 0 0, .agg (vcells w)] (refH v xs o1 n1 c1 ys o out.length cp) (fun x H => ∃ zs o2 cp2, x = .sl 3 o2 (lacks w out).length cp2 ∧ RowG shcl 14 zs o2 cp2 (lacks w out) ∧ H = refH v xs o1 n1 c1 ys o out.length cp ++ [.arr zs T_rostrumref13_Shadow]) := by
  have hcl : ∀ x, (shcl x).length = 14 := fun _ => rfl
  have hroom : o + out.length * 14 ≤ ys.length := by have := hr.2.1; have := Nat.mul_le_mul_right 14 hr.1; omega
  refine i_rostrumref13_Buffer_Behind.spec follows ?_
  refine VLoop.nil T_rostrumref13_Shadow [5] [] ⟨rfl, rfl⟩ ?_
  refine VLoop.mk RBX (fun x => [(0, .ptr 0 0), (3, .ptr 3 0), (5, .sl 4 x.o x.n x.cp), (6, iv x.i)]) (fun x => refH v xs o1 n1 c1 ys o out.length cp ++ [.cells (vcells w) T_rostrumref7_Vec, .arr x.zs T_rostrumref13_Shadow])
    (fun x => x.i ≤ out.length ∧ RowG shcl 14 x.zs x.o x.cp (lacks w (out.take x.i)) ∧ x.n = (lacks w (out.take x.i)).length) (fun x => out.length - x.i) ⟨0, 0, [], 0, 0⟩ [0, 1, 2, 3, 4]
    ⟨⟨Nat.zero_le _, ⟨by simp [lacks], by simp, by simp [lacks]⟩, by simp [lacks]⟩, rfl, rfl, rfl⟩ ?_
  rintro ⟨i, n, zs, o2, cp2⟩ ⟨hi, hz, hn⟩ g
  simp only at hi hz hn
  refine And.intro (fun h1 => ?_) (fun h1 => ?_)
  rotate_left 1
  · have h1 := of_decide_eq_false h1
    have hil : i = out.length := by simp only at h1; omega
    subst hil
    rw [List.take_length] at hz hn
    subst hn
    exact VRet.mk [0, 1, 2, 4] (.sl 3 o2 (lacks w out).length cp2) (refH v xs o1 n1 c1 ys o out.length cp ++ [.arr zs T_rostrumref13_Shadow]) ⟨rfl, rfl, rfl⟩ ⟨zs, o2, cp2, rfl, hz, rfl⟩
  have h1 := of_decide_eq_true h1
  have hil : i < out.length := by simp only at h1; omega
  have hcut := hr.cut hcl hil
  have hcut2 := cut_sub hcut 0 2 (by omega)
  have hn9 : n ≤ 100000 := by
    rw [hn]
    have := List.length_filter_le (fun s => !has w s.rep s.n) (out.take i)
    have h2 : (out.take i).length ≤ out.length := by simp; omega
    show (lacks w (out.take i)).length ≤ 100000
    unfold lacks; omega
  have ht : out.take (i + 1) = out.take i ++ [out[i]] := (List.take_append_getElem hil).symm
  have hw : IntKind.i64.wrap ((i : Int) + 1) = ((i + 1 : Nat) : Int) := wrap64 (by omega)
  refine And.intro ⟨Int.natCast_nonneg i, h1, hroom⟩ (Exists.intro _ (And.intro (by rw [Int.toNat_natCast]; exact hcut2) ?_))
  refine VCall.mk [] (s_ref_Has w out[i].rep out[i].n) ⟨rfl, rfl, rfl⟩ ?_
  rintro _ _ ⟨rfl, rfl⟩
  refine And.intro (fun h2 => ?_) (fun h2 => ?_)
  · have h2 : has w out[i].rep out[i].n = false := by simpa using h2
    have hlk : lacks w (out.take (i + 1)) = lacks w (out.take i) ++ [out[i]] := by rw [ht, lacks, List.filter_append]; simp [lacks, h2]
    refine And.intro ⟨Int.natCast_nonneg i, h1, hroom⟩ (Exists.intro _ (And.intro (by rw [Int.toNat_natCast]; exact hcut) ?_))
    refine And.intro ⟨⟨by rw [hn]; exact hz.1, hz.2.1, rfl⟩, ⟨rfl, rfl⟩, show (n + 1) * 128 ≤ 1099511627776 by omega⟩ ?_
    intro zs' o' cp' hz'
    refine Exists.intro _ (And.intro hw ?_)
    refine Exists.intro ⟨i + 1, n + 1, zs', o', cp'⟩ (Exists.intro [0, 1, 2, 3, 6] (And.intro ⟨⟨hil, ?_, ?_⟩, by simp only; omega⟩ ⟨rfl, rfl, rfl⟩))
    · simp only; rw [hlk]; exact RowG.snoc hz hn hz'.1 hz'.2.1 hz'.2.2
    · simp only; rw [hlk, List.length_append, ← hn]; rfl
  · have h2 : has w out[i].rep out[i].n = true := by simpa using h2
    have hlk : lacks w (out.take (i + 1)) = lacks w (out.take i) := by rw [ht, lacks, List.filter_append]; simp [lacks, h2]
    refine Exists.intro _ (And.intro hw ?_)
    refine Exists.intro ⟨i + 1, n, zs, o2, cp2⟩ (Exists.intro [0, 1, 2, 3, 4] (And.intro ⟨⟨hil, by rw [hlk]; exact hz, by rw [hlk]; exact hn⟩, by simp only; omega⟩ ⟨rfl, rfl, rfl⟩))
theorem s_ref_Drop (v w : Nat → Int) (xs : List Value) (o1 n1 c1 : Nat) (ys : List Value) (o cp : Nat) (out : List SH) (hr : RowG shcl 14 ys o cp out) (hl : out.length ≤ 100000) :
    Ctr Tryd.prog F_rostrumref13_Buffer_Drop [.ptr 0 0, .agg (vcells w)] (refH v xs o1 n1 c1 ys o out.length cp)
    (fun x H => ∃ zs o2 cp2, x = .tup [] ∧ H = [.cells (vcells v ++ [.sl 1 o1 n1 c1, .sl 3 o2 (lacks w out).length cp2]) T_rostrumref13_Buffer, .arr xs T_rostrumref13_Shadow, .arr ys T_rostrumref13_Shadow, .arr zs T_rostrumref13_Shadow] ∧ RowG shcl 14 zs o2 cp2 (lacks w out)) := by
  refine i_rostrumref13_Buffer_Drop.spec follows ?_
  refine VCall.mk [0, 1, 2] (s_ref_Behind v w xs o1 n1 c1 ys o cp out hr hl) ⟨rfl, rfl, rfl⟩ ?_
  rintro _ _ ⟨zs, o2, cp2, rfl, hz, rfl⟩
  exact VRet.mk [0, 1, 2, 4] (.tup []) [.cells (vcells v ++ [.sl 1 o1 n1 c1, .sl 3 o2 (lacks w out).length cp2]) T_rostrumref13_Buffer, .arr xs T_rostrumref13_Shadow, .arr ys T_rostrumref13_Shadow, .arr zs T_rostrumref13_Shadow] ⟨rfl, rfl, rfl⟩ ⟨zs, o2, cp2, rfl, rfl, hz⟩
theorem s_sh (s : SH) : Ctr Tryd.prog F_rostrumlaw16_sh [.agg (shcells s)] [] (fun x H => x = .agg (shcells s) ∧ H = []) := by
  refine i_rostrumlaw16_sh.spec follows ?_
  exact VRet.mk [] (.agg (shcells s)) [] ⟨rfl, rfl, rfl⟩ ⟨rfl, rfl⟩
theorem s_shs (xs : List Value) (o c : Nat) (d : List SH) (hr : RowG shcl 14 xs o c d) (hl : d.length ≤ 100000) :
    Ctr Tryd.prog F_rostrumlaw16_shs [.sl 0 o d.length c] [.arr xs T_shadow_Shadow] (fun x H => ∃ zs o2 c2, x = .sl 1 o2 d.length c2 ∧ H = [.arr xs T_shadow_Shadow, .arr zs T_rostrumref13_Shadow] ∧ RowG shcl 14 zs o2 c2 d) := by
  have hcl : ∀ x, (shcl x).length = 14 := fun _ => rfl
  have hroom : o + d.length * 14 ≤ xs.length := by have := hr.2.1; have := Nat.mul_le_mul_right 14 hr.1; omega
  refine i_rostrumlaw16_shs.spec follows ?_
  refine VLoop.nil T_rostrumref13_Shadow [3] [] ⟨rfl, rfl⟩ ?_
  refine VLoop.mk RBX (fun x => [(0, .sl 0 o d.length c), (3, .sl 1 x.o x.n x.cp), (4, iv x.i)]) (fun x => [.arr xs T_shadow_Shadow, .arr x.zs T_rostrumref13_Shadow])
    (fun x => x.i ≤ d.length ∧ RowG shcl 14 x.zs x.o x.cp (d.take x.i) ∧ x.n = x.i) (fun x => d.length - x.i) ⟨0, 0, [], 0, 0⟩ [0, 1] ⟨⟨Nat.zero_le _, RowG.none, rfl⟩, rfl, rfl, rfl⟩ ?_
  rintro ⟨i, n, zs, o2, c2⟩ ⟨hi, hz, hn⟩ g
  simp only at hi hz hn
  subst hn
  refine And.intro (fun h1 => ?_) (fun h1 => ?_)
  · have h1 := of_decide_eq_true h1
    have hil : n < d.length := by simp only at h1; omega
    have hcut := hr.cut hcl hil
    have ht : d.take (n + 1) = d.take n ++ [d[n]] := (List.take_append_getElem hil).symm
    have htl : n = (d.take n).length := by simp; omega
    have hb : (n + 1) * 128 ≤ 1099511627776 := by omega
    have hw : IntKind.i64.wrap ((n : Int) + 1) = ((n + 1 : Nat) : Int) := wrap64 (by omega)
    refine And.intro ⟨Int.natCast_nonneg n, h1, hroom⟩ (Exists.intro _ (And.intro (by rw [Int.toNat_natCast]; exact hcut) ?_))
    refine VCall.mk [] (s_sh d[n]) ⟨rfl, rfl, rfl⟩ ?_
    rintro _ _ ⟨rfl, rfl⟩
    refine And.intro ⟨⟨by have := hz.1; rw [← htl] at this; exact this, hz.2.1, rfl⟩, ⟨rfl, rfl⟩, hb⟩ ?_
    intro zs' o' cp' hz'
    refine Exists.intro _ (And.intro hw ?_)
    refine Exists.intro ⟨n + 1, n + 1, zs', o', cp'⟩ (Exists.intro [0, 3] (And.intro ⟨⟨hil, ?_, rfl⟩, by simp only; omega⟩ ⟨rfl, rfl, rfl⟩))
    simp only; rw [ht]; exact RowG.snoc hz htl hz'.1 hz'.2.1 hz'.2.2
  · have h1 := of_decide_eq_false h1
    have hil : n = d.length := by simp only at h1; omega
    subst hil
    rw [List.take_length] at hz
    exact VRet.mk [0, 1] (.sl 1 o2 d.length c2) [.arr xs T_shadow_Shadow, .arr zs T_rostrumref13_Shadow] ⟨rfl, rfl, rfl⟩ ⟨zs, o2, c2, rfl, rfl, hz⟩
theorem eqSH_refl (s : SH) : eqSH s s = true := by
  have h1 : (s.key == s.key) = true := by cases s.key with | mk x => exact beq_self_eq_true x
  have h2 : (s.text == s.text) = true := by cases s.text with | mk x => exact beq_self_eq_true x
  unfold eqSH
  rw [h1, h2]; simp
theorem s_Same (xs ys : List Value) (o c o' c' : Nat) (d : List SH) (hx : RowG shcl 14 xs o c d) (hy : RowG shcl 14 ys o' c' d) (hl : d.length ≤ 100000) :
    Ctr Tryd.prog F_rostrumref13_Same [.sl 0 o d.length c, .sl 1 o' d.length c'] [.arr xs T_rostrumref13_Shadow, .arr ys T_rostrumref13_Shadow] (fun x H => x = bv true ∧ H = [.arr xs T_rostrumref13_Shadow, .arr ys T_rostrumref13_Shadow]) := by
  have hcl : ∀ x, (shcl x).length = 14 := fun _ => rfl
  have hr1 : o + d.length * 14 ≤ xs.length := by have := hx.2.1; have := Nat.mul_le_mul_right 14 hx.1; omega
  have hr2 : o' + d.length * 14 ≤ ys.length := by have := hy.2.1; have := Nat.mul_le_mul_right 14 hy.1; omega
  refine i_rostrumref13_Same.spec follows ?_
  refine And.intro (fun h => absurd h (by simp)) (fun _ => ?_)
  refine VLoop.mk Nat (fun i => [(0, .sl 0 o d.length c), (1, .sl 1 o' d.length c'), (5, iv i)]) (fun i => [.arr xs T_rostrumref13_Shadow, .arr ys T_rostrumref13_Shadow]) (fun i => i ≤ d.length) (fun i => d.length - i) 0 [0, 1] ⟨Nat.zero_le _, rfl, rfl, rfl⟩ ?_
  rintro i hi g
  refine And.intro (fun h1 => ?_) (fun h1 => ?_)
  · have h1 := of_decide_eq_true h1
    have hil : i < d.length := by omega
    have k1 := hx.cut hcl hil
    have k2 := hy.cut hcl hil
    have hq := eqSH_refl d[i]
    have hw : IntKind.i64.wrap ((i : Int) + 1) = ((i + 1 : Nat) : Int) := wrap64 (by omega)
    refine And.intro ⟨Int.natCast_nonneg i, h1, hr1⟩ (Exists.intro _ (And.intro (by rw [Int.toNat_natCast]; exact k1) ?_))
    refine And.intro ⟨Int.natCast_nonneg i, h1, hr2⟩ (Exists.intro _ (And.intro (by rw [Int.toNat_natCast]; exact k2) ?_))
    refine And.intro (fun h2 => ?_) (fun _ => ?_)
    · have h2 : (!eqSH d[i] d[i]) = true := h2
      rw [hq] at h2; cases h2
    · refine Exists.intro _ (And.intro hw ?_)
      exact Exists.intro (i + 1) (Exists.intro [0, 1] (And.intro ⟨hil, by omega⟩ ⟨rfl, rfl, rfl⟩))
  · exact VRet.mk [0, 1] (bv true) [.arr xs T_rostrumref13_Shadow, .arr ys T_rostrumref13_Shadow] ⟨rfl, rfl, rfl⟩ ⟨rfl, rfl⟩
end Go.Proofs

namespace Go.Proofs
open Go Go.V Go.Lib
set_option maxRecDepth 100000
set_option linter.unusedVariables false

theorem TakeNo.same {v : Nat → Int} {ms : SM} {s : SH} {e e' : Int} (h1 : TakeNo v ms s e) (h2 : TakeNo v ms s e') (hl : ms.length < 1000) : e = e' := by
  rcases h1 with ⟨a1, a2⟩ | ⟨a1, a3, a2⟩ | ⟨_, _, _, a1, _⟩
  · rcases h2 with ⟨b1, b2⟩ | ⟨b1, b3, b2⟩ | ⟨_, _, _, b1, _⟩
    · rw [a2, b2]
    · rw [a1] at b1; cases b1
    · omega
  · rcases h2 with ⟨b1, b2⟩ | ⟨b1, b3, b2⟩ | ⟨_, _, _, b1, _⟩
    · rw [a1] at b1; cases b1
    · rw [a2, b2]
    · omega
  · omega
theorem TakeNo.not {v : Nat → Int} {ms : SM} {s : SH} {e : Int} (h1 : TakeNo v ms s e) (hl : ms.length < 1000) (hok : goodS s = true ∧ MP.get ms (s.rep, s.n) = none ∧ has v s.rep s.n = false) : False := by
  rcases h1 with ⟨a1, _⟩ | ⟨_, a1 | a1, _⟩ | ⟨_, _, _, a1, _⟩
  · rw [hok.1] at a1; cases a1
  · rw [hok.2.1] at a1; cases a1
  · rw [hok.2.2] at a1; cases a1
  · omega
theorem Dr.sub {P : SH → Prop} {v0 v : Nat → Int} {ms0 ms : SM} {c : Nat} {l : List SH} (hd : Dr v0 ms0 l v ms) (hb : BI v0 ms0 c) (hP : ∀ d s, MP.get ms0 d = some s → P s) : BI v ms c ∧ ∀ d s, MP.get ms d = some s → P s := by
  induction hd with
  | nil => exact ⟨hb, hP⟩
  | @snoc l v ms s hd1 hn ih =>
    obtain ⟨i1, i2⟩ := ih
    obtain ⟨q1, q2, q3, q4, q5⟩ := i1.next hn
    refine ⟨q5, fun d t h => ?_⟩
    rw [get_del _ _ _ i1.nd] at h
    split at h
    · cases h
    · exact i2 d t h
/-- Both buffers at one place of the walk. -/
structure CPI (L : List SH) (v : Nat → Int) (ms : SM) (c : Nat) (ys : List Value) (o cp : Nat) (out hd : List SH) (xs : List Value) (o1 c1 : Nat) (zs : List Value) (o2 c2 : Nat) (k : Nat) : Prop where
  bi : BI v ms c
  rel : Rel ms hd
  all : ∀ d s, MP.get ms d = some s → s ∈ L
  row : RowG shcl 14 ys o cp out
  rhd : RowG shcl 14 xs o1 c1 hd
  rlg : RowG shcl 14 zs o2 c2 out
  len : hd.length = ms.length
  cnt : ms.length + out.length ≤ k
structure CPX where
  i : Nat
  v : Nat → Int
  ms : SM
  c : Nat
  ys : List Value
  o : Nat
  cp : Nat
  out : List SH
  hd : List SH
  xs : List Value
  o1 : Nat
  c1 : Nat
  zs : List Value
  o2 : Nat
  c2 : Nat
theorem CPI.nil (L : List SH) : CPI L vz [] 0 [] 0 0 [] [] [] 0 0 [] 0 0 0 := ⟨BI.nil, Rel.nil, fun d s h => by simp [get_nil] at h, RowG.none, RowG.none, RowG.none, rfl, Nat.le_refl _⟩
theorem plAr {a b c d i n : Nat} (h1 : a + b ≤ c + 1) (h2 : c + d ≤ i) (h3 : i < n) (h4 : n ≤ 40) : b ≤ 100000 ∧ d + b ≤ 100000 ∧ a ≤ 1000000 ∧ a + (d + b) ≤ i + 1 ∧ a ≤ 100000 := by omega
set_option maxHeartbeats 40000000 in
theorem s_CausalPlays (h : Nat → Option Obj) (hu : Uni h) (v1 : Value) (L : List SH) (A St : Nat → Int) (at' : Int) (hv1 : RowsIs shcl 14 h v1 L) (hpl : ∀ s, s ∈ L → Plain7 s) :
    Ctr Tryd.prog F_rostrumlaw16_CausalPlays [.raw v1, .agg (vcells A), iv at', .agg (vcells St)] [.heap h] (fun x H => x = bv true ∧ H = [.heap h]) := by
  obtain ⟨la, lc, rfl⟩ := hv1.shape
  obtain ⟨bL, oL, xL, eL, fL, HL⟩ := hv1.pos
  refine i_rostrumlaw16_CausalPlays.spec follows ?_
  refine VCall.mk [0] (s_awake h hu) ⟨rfl, rfl, rfl⟩ ?_
  rintro _ _ ⟨rfl, rfl⟩
  refine And.intro (fun h => absurd h (by simp)) (fun _ => ?_)
  refine And.intro (fun k1 => VRet.mk [0] (bv true) [.heap h] ⟨rfl, rfl, rfl⟩ ⟨rfl, rfl⟩) (fun k1 => ?_)
  have k1 := of_decide_eq_false k1
  have hL40 : L.length ≤ 40 := by omega
  refine VCall.mk [] s_New ⟨rfl, rfl, rfl⟩ ?_
  rintro _ _ ⟨rfl, rfl⟩
  refine VLoop.nil T_rostrumref13_Shadow [] [(6, 7)] ⟨rfl, rfl⟩ ?_
  refine VLoop.nil T_rostrumref13_Shadow [] [(6, 8)] ⟨rfl, rfl⟩ ?_
  refine VLoop.mk CPX (fun x => [(0, .raw (.slice la L.length lc)), (2, iv at'), (5, .ptr 1 0), (7, .ptr 2 0), (9, .ptr 3 0), (10, .ptr 6 0), (11, iv x.i)])
    (fun x => [.heap h, .cells (vcells A) T_vec_Vec, .cells (vcells St) T_vec_Vec, .cells (vcells x.v ++ [.mp 4, .sl 5 x.o x.out.length x.cp]) T_causal_Buffer, smap x.ms x.c, .arr x.ys T_shadow_Shadow, .cells (vcells x.v ++ [.sl 7 x.o1 x.hd.length x.c1, .sl 8 x.o2 x.out.length x.c2]) T_rostrumref13_Buffer, .arr x.xs T_rostrumref13_Shadow, .arr x.zs T_rostrumref13_Shadow])
    (fun x => x.i ≤ L.length ∧ CPI L x.v x.ms x.c x.ys x.o x.cp x.out x.hd x.xs x.o1 x.c1 x.zs x.o2 x.c2 x.i) (fun x => L.length - x.i)
    ⟨0, vz, [], 0, [], 0, 0, [], [], [], 0, 0, [], 0, 0⟩ [0, 1, 2, 3, 4, 5, 6, 7, 8] ⟨⟨Nat.zero_le _, CPI.nil L⟩, rfl, rfl, rfl⟩ ?_
  rintro ⟨i, v, ms, c, ys, o, cp, out, hd, xs, o1, c1, zs, o2, c2⟩ ⟨hi, hC⟩ g
  simp only at hi hC
  refine And.intro (fun h3 => ?_) (fun _ => VRet.mk [0] (bv true) [.heap h] ⟨rfl, rfl, rfl⟩ ⟨rfl, rfl⟩)
  have h3 := of_decide_eq_true h3
  have hil : i < L.length := by simp only at h3; omega
  have hla := (HL (by omega)).1
  have hh := (HL (by omega)).2.1
  have ci := (HL (by omega)).2.2 i hil
  subst hla
  have hni : (0 : Int) ≤ (i : Int) ∧ (i : Int) < (L.length : Nat) := ⟨Int.natCast_nonneg i, by omega⟩
  have hcnt := hC.cnt
  have hlen := hC.len
  have hm1 : ms.length < 1000 := by omega
  have hm2 : ms.length ≤ 100000 := by omega
  have hm3 : out.length ≤ 100000 := by omega
  have hm4 : hd.length ≤ 900 := by omega
  have hwb : -9223372036854775808 ≤ (i : Int) + 1 ∧ (i : Int) + 1 ≤ 9223372036854775807 := by omega
  refine Exists.elim (⟨_, rfl⟩ : ∃ s, s = L[i]) fun s hsk => ?_
  have hsL : s ∈ L := by rw [hsk]; exact List.getElem_mem hil
  rw [← hsk] at ci
  refine And.intro hni ?_
  refine Exists.intro 0 (Exists.intro xL (Exists.intro eL (Exists.intro fL (And.intro hh (Exists.intro _ (And.intro (by rw [Int.toNat_natCast]; exact ci) ?_))))))
  refine VCall.mk [] (s_long s) ⟨rfl, rfl, rfl⟩ ?_
  rintro _ _ ⟨rfl, rfl⟩
  refine And.intro (fun hq => VRet.mk [0] (bv true) [.heap h] ⟨rfl, rfl, rfl⟩ ⟨rfl, rfl⟩) (fun hq => ?_)
  have hsz : s.key.size ≤ 1000 := by
    have hq : longB s = false := hq
    simp only [longB, Bool.or_eq_false_iff, decide_eq_false_iff_not] at hq
    omega
  have hsz2 : s.key.size ≤ 4611686018427387904 := Nat.le_trans hsz (by decide)
  refine And.intro hni ?_
  refine Exists.intro 0 (Exists.intro xL (Exists.intro eL (Exists.intro fL (And.intro hh (Exists.intro _ (And.intro (by rw [Int.toNat_natCast]; exact ci) ?_))))))
  refine VCall.mk [3, 4, 5, 0] (s_Take h hu v ms c ys o cp out hC.bi hC.row s hsz2 hm2 hm3) ⟨rfl, rfl, rfl⟩ ?_
  rintro _ _ (⟨er, ys2, o9, cp2, hno2, rfl, rfl, hr2⟩ | ⟨l2, v2, ms2, c9, ys2, o9, cp2, zs9, p9, q9, hok, hdr, hnn, hb2, hl2, rfl, rfl, hr2, hz9⟩)
  · refine And.intro hni ?_
    refine Exists.intro 0 (Exists.intro xL (Exists.intro eL (Exists.intro fL (And.intro hh (Exists.intro _ (And.intro (by rw [Int.toNat_natCast]; exact ci) ?_))))))
    refine VCall.mk [] (s_sh s) ⟨rfl, rfl, rfl⟩ ?_
    rintro _ _ ⟨rfl, rfl⟩
    refine VCall.mk [6, 7, 8, 0] (s_ref_Take h hu v ms c hd out xs o1 c1 zs o2 c2 hC.bi hC.rel hC.rhd hC.rlg s hsz hm4 hm3) ⟨rfl, rfl, rfl⟩ ?_
    rintro _ _ (⟨er', hno3, rfl, rfl⟩ | ⟨l', v', ms', c', hd', xs', o1', c1', ys', o2', c2', zs', o3, c3, hok, _⟩)
    rotate_left 1
    · exact absurd hok (fun hk => hno2.not hm1 hk)
    have hee := hno2.same hno3 hm1
    subst hee
    refine And.intro (fun _ => ?_) (fun hx => absurd hx (by simp))
    refine VCall.nil T_shadow_Shadow [0] [] ⟨rfl, rfl⟩ ?_
    refine VCall.mk [9] (s_shs [] 0 0 [] RowG.none (Nat.zero_le _)) ⟨rfl, rfl, rfl⟩ ?_
    rintro _ _ ⟨w1, u1, t1, rfl, rfl, hw1⟩
    refine VCall.nil T_rostrumref13_Shadow [1] [] ⟨rfl, rfl⟩ ?_
    refine VCall.mk [10, 11] (s_Same w1 [] u1 t1 0 0 [] hw1 RowG.none (Nat.zero_le _)) ⟨rfl, rfl, rfl⟩ ?_
    rintro _ _ ⟨rfl, rfl⟩
    refine And.intro (fun _ => ?_) (fun hx => absurd hx (by simp))
    refine VCall.mk [3, 4, 5] (s_Have v ms c ys2 o9 out.length cp2) ⟨rfl, rfl, rfl⟩ ?_
    rintro _ _ ⟨rfl, rfl⟩
    refine And.intro rfl (And.intro rfl ?_)
    refine And.intro (fun _ => ?_) (fun hx => absurd hx (by simp))
    refine VCall.mk [3, 4, 5] (s_Held v ms c ys2 o9 out.length cp2 hC.bi.ok (by omega)) ⟨rfl, rfl, rfl⟩ ?_
    rintro _ _ ⟨d, u2, t2, w2, rfl, rfl, hp2, hs2, hw2⟩
    have hde := (hC.rel.held hC.bi (fun s hs => hpl s (hC.all _ _ (hC.rel.to s hs))) hp2 hs2).symm
    subst hde
    refine And.intro rfl (And.intro rfl ?_)
    refine VCall.mk [12] (s_shs w2 u2 t2 hd hw2 (Nat.le_trans hm4 (by decide))) ⟨rfl, rfl, rfl⟩ ?_
    rintro _ _ ⟨w3, u3, t3, rfl, rfl, hw3⟩
    refine And.intro rfl (And.intro rfl ?_)
    refine VCall.mk [13, 7] (s_Same w3 xs u3 t3 o1 c1 hd hw3 hC.rhd (Nat.le_trans hm4 (by decide))) ⟨rfl, rfl, rfl⟩ ?_
    rintro _ _ ⟨rfl, rfl⟩
    refine And.intro (fun hx => absurd hx (by simp)) (fun _ => ?_)
    refine And.intro (fun _ => ?_) (fun _ => ?_)
    · have hlS : (lacks St out).length ≤ out.length := List.length_filter_le _ _
      refine VCall.mk [3, 4, 5] (s_Drop v St ms c ys2 o9 cp2 out hr2 hm3) ⟨rfl, rfl, rfl⟩ ?_
      rintro _ _ ⟨ys3, rfl, rfl, hr3⟩
      refine VCall.mk [6, 7, 8] (s_ref_Drop v St xs o1 hd.length c1 zs o2 c2 out hC.rlg hm3) ⟨rfl, rfl, rfl⟩ ?_
      rintro _ _ ⟨zs3, o4, c4, rfl, rfl, hz3⟩
      have hCN : CPI L v ms c ys3 o9 cp2 (lacks St out) hd xs o1 c1 zs3 o4 c4 (i + 1) := ⟨hC.bi, hC.rel, hC.all, hr3, hC.rhd, hz3, hC.len, Nat.le_trans (Nat.add_le_add_left hlS _) (Nat.le_succ_of_le hC.cnt)⟩
      have hlk : (lacks A (lacks St out)).length ≤ 100000 := Nat.le_trans (List.length_filter_le _ _) (Nat.le_trans hlS hm3)
      refine VCall.mk [3, 4, 5] (s_Behind v A ms c ys3 o9 cp2 (lacks St out) hCN.row (Nat.le_trans hlS hm3)) ⟨rfl, rfl, rfl⟩ ?_
      rintro _ _ ⟨y5, u5, t5, rfl, hz5, rfl⟩
      refine And.intro rfl ?_
      refine VCall.mk [15] (s_shs y5 u5 t5 (lacks A (lacks St out)) hz5 hlk) ⟨rfl, rfl, rfl⟩ ?_
      rintro _ _ ⟨y6, u6, t6, rfl, rfl, hz6⟩
      refine And.intro rfl ?_
      refine VCall.mk [6, 7, 14] (s_ref_Behind v A xs o1 (List.length hd) c1 zs3 o4 c4 (lacks St out) hCN.rlg (Nat.le_trans hlS hm3)) ⟨rfl, rfl, rfl⟩ ?_
      rintro _ _ ⟨y7, u7, t7, rfl, hz7, rfl⟩
      refine VCall.mk [16, 17] (s_Same y6 y7 u6 t6 u7 t7 (lacks A (lacks St out)) hz6 hz7 hlk) ⟨rfl, rfl, rfl⟩ ?_
      rintro _ _ ⟨rfl, rfl⟩
      refine And.intro (fun hx => absurd hx (by simp)) (fun _ => ?_)
      refine Exists.intro ((i + 1 : Nat) : Int) (And.intro (wrap64 hwb) ?_)
      exact Exists.intro ⟨i + 1, v, ms, c, ys3, o9, cp2, (lacks St out), hd, xs, o1, c1, zs3, o4, c4⟩ (Exists.intro [0, 1, 2, 3, 4, 5, 6, 7, 14] (And.intro ⟨⟨hil, hCN⟩, Nat.sub_lt_sub_left hil (Nat.lt_succ_self i)⟩ ⟨rfl, rfl, rfl⟩))
    · have hCN : CPI L v ms c ys2 o9 cp2 out hd xs o1 c1 zs o2 c2 (i + 1) := ⟨hC.bi, hC.rel, hC.all, hr2, hC.rhd, hC.rlg, hC.len, Nat.le_succ_of_le hC.cnt⟩
      have hlk : (lacks A out).length ≤ 100000 := Nat.le_trans (List.length_filter_le _ _) hm3
      refine VCall.mk [3, 4, 5] (s_Behind v A ms c ys2 o9 cp2 out hCN.row hm3) ⟨rfl, rfl, rfl⟩ ?_
      rintro _ _ ⟨y5, u5, t5, rfl, hz5, rfl⟩
      refine And.intro rfl ?_
      refine VCall.mk [14] (s_shs y5 u5 t5 (lacks A out) hz5 hlk) ⟨rfl, rfl, rfl⟩ ?_
      rintro _ _ ⟨y6, u6, t6, rfl, rfl, hz6⟩
      refine And.intro rfl ?_
      refine VCall.mk [6, 7, 8] (s_ref_Behind v A xs o1 (List.length hd) c1 zs o2 c2 out hCN.rlg hm3) ⟨rfl, rfl, rfl⟩ ?_
      rintro _ _ ⟨y7, u7, t7, rfl, hz7, rfl⟩
      refine VCall.mk [15, 16] (s_Same y6 y7 u6 t6 u7 t7 (lacks A out) hz6 hz7 hlk) ⟨rfl, rfl, rfl⟩ ?_
      rintro _ _ ⟨rfl, rfl⟩
      refine And.intro (fun hx => absurd hx (by simp)) (fun _ => ?_)
      refine Exists.intro ((i + 1 : Nat) : Int) (And.intro (wrap64 hwb) ?_)
      exact Exists.intro ⟨i + 1, v, ms, c, ys2, o9, cp2, out, hd, xs, o1, c1, zs, o2, c2⟩ (Exists.intro [0, 1, 2, 3, 4, 5, 6, 7, 8] (And.intro ⟨⟨hil, hCN⟩, Nat.sub_lt_sub_left hil (Nat.lt_succ_self i)⟩ ⟨rfl, rfl, rfl⟩))
  · have ar := plAr hl2 hC.cnt hil hL40
    have hsub := hdr.sub (P := fun t => t ∈ L) (hC.bi.put hok.1 hok.2.1) (fun d t ht => by
      rw [get_put] at ht
      split at ht
      · cases ht; exact hsL
      · exact hC.all d t ht)
    have hol : (out ++ l2).length ≤ 100000 := by rw [List.length_append]; exact ar.2.1
    refine And.intro hni ?_
    refine Exists.intro 0 (Exists.intro xL (Exists.intro eL (Exists.intro fL (And.intro hh (Exists.intro _ (And.intro (by rw [Int.toNat_natCast]; exact ci) ?_))))))
    refine VCall.mk [] (s_sh s) ⟨rfl, rfl, rfl⟩ ?_
    rintro _ _ ⟨rfl, rfl⟩
    refine VCall.mk [6, 7, 8, 0] (s_ref_Take h hu v ms c hd out xs o1 c1 zs o2 c2 hC.bi hC.rel hC.rhd hC.rlg s hsz hm4 hm3) ⟨rfl, rfl, rfl⟩ ?_
    rintro _ _ (⟨er', hno3, rfl, rfl⟩ | ⟨l', v', ms', c', hd', xs', o1', c1', ys', o2', c2', zs', o3, c3, hok', hdr', hnn', hb', hR', rfl, rfl, hx', hy', hz'⟩)
    · exact absurd hok (fun hk => hno3.not hm1 hk)
    have hdet := hdr.det hnn hdr' hnn'
    obtain ⟨e1, e2, e3⟩ := hdet
    subst e1 e2 e3
    refine And.intro (fun _ => ?_) (fun hx => absurd hx (by simp))
    refine VCall.mk [10] (s_shs zs9 p9 q9 l' hz9 ar.1) ⟨rfl, rfl, rfl⟩ ?_
    rintro _ _ ⟨w1, u1, t1, rfl, rfl, hw1⟩
    refine VCall.mk [14, 13] (s_Same w1 zs' u1 t1 o3 c3 l' hw1 hz' ar.1) ⟨rfl, rfl, rfl⟩ ?_
    rintro _ _ ⟨rfl, rfl⟩
    refine And.intro (fun _ => ?_) (fun hx => absurd hx (by simp))
    refine VCall.mk [3, 4, 9] (s_Have v' ms' c9 ys2 o9 (out ++ l').length cp2) ⟨rfl, rfl, rfl⟩ ?_
    rintro _ _ ⟨rfl, rfl⟩
    refine And.intro rfl (And.intro rfl ?_)
    refine And.intro (fun _ => ?_) (fun hx => absurd hx (by simp))
    refine VCall.mk [3, 4, 9] (s_Held v' ms' c9 ys2 o9 (out ++ l').length cp2 hb2.ok ar.2.2.1) ⟨rfl, rfl, rfl⟩ ?_
    rintro _ _ ⟨d, u2, t2, w2, rfl, rfl, hp2, hs2, hw2⟩
    have hde := (hR'.held hb2 (fun s hs => hpl s (hsub.2 _ _ (hR'.to s hs))) hp2 hs2).symm
    subst hde
    have hln : hd'.length = ms'.length := hp2.length_eq.trans (List.length_map ..)
    have hh4 : hd'.length ≤ 100000 := by rw [hln]; exact ar.2.2.2.2
    refine And.intro rfl (And.intro rfl ?_)
    refine VCall.mk [15] (s_shs w2 u2 t2 hd' hw2 hh4) ⟨rfl, rfl, rfl⟩ ?_
    rintro _ _ ⟨w3, u3, t3, rfl, rfl, hw3⟩
    refine And.intro rfl (And.intro rfl ?_)
    refine VCall.mk [16, 11] (s_Same w3 xs' u3 t3 o1' c1' hd' hw3 hx' hh4) ⟨rfl, rfl, rfl⟩ ?_
    rintro _ _ ⟨rfl, rfl⟩
    refine And.intro (fun hx => absurd hx (by simp)) (fun _ => ?_)
    refine And.intro (fun _ => ?_) (fun _ => ?_)
    · have hlS : (lacks St (out ++ l')).length ≤ (out ++ l').length := List.length_filter_le _ _
      have hct : ms'.length + (lacks St (out ++ l')).length ≤ i + 1 := Nat.le_trans (Nat.add_le_add_left hlS _) (by rw [List.length_append]; exact ar.2.2.2.1)
      refine VCall.mk [3, 4, 9] (s_Drop v' St ms' c9 ys2 o9 cp2 (out ++ l') hr2 hol) ⟨rfl, rfl, rfl⟩ ?_
      rintro _ _ ⟨ys3, rfl, rfl, hr3⟩
      refine VCall.mk [6, 11, 12] (s_ref_Drop v' St xs' o1' hd'.length c1' ys' o2' c2' (out ++ l') hy' hol) ⟨rfl, rfl, rfl⟩ ?_
      rintro _ _ ⟨zs3, o4, c4, rfl, rfl, hz3⟩
      have hCN : CPI L v' ms' c9 ys3 o9 cp2 (lacks St (out ++ l')) hd' xs' o1' c1' zs3 o4 c4 (i + 1) := ⟨hb2, hR', hsub.2, hr3, hx', hz3, hln, hct⟩
      have hlk : (lacks A (lacks St (out ++ l'))).length ≤ 100000 := Nat.le_trans (List.length_filter_le _ _) (Nat.le_trans hlS hol)
      refine VCall.mk [3, 4, 9] (s_Behind v' A ms' c9 ys3 o9 cp2 (lacks St (out ++ l')) hCN.row (Nat.le_trans hlS hol)) ⟨rfl, rfl, rfl⟩ ?_
      rintro _ _ ⟨y5, u5, t5, rfl, hz5, rfl⟩
      refine And.intro rfl ?_
      refine VCall.mk [18] (s_shs y5 u5 t5 (lacks A (lacks St (out ++ l'))) hz5 hlk) ⟨rfl, rfl, rfl⟩ ?_
      rintro _ _ ⟨y6, u6, t6, rfl, rfl, hz6⟩
      refine And.intro rfl ?_
      refine VCall.mk [6, 11, 17] (s_ref_Behind v' A xs' o1' (List.length hd') c1' zs3 o4 c4 (lacks St (out ++ l')) hCN.rlg (Nat.le_trans hlS hol)) ⟨rfl, rfl, rfl⟩ ?_
      rintro _ _ ⟨y7, u7, t7, rfl, hz7, rfl⟩
      refine VCall.mk [19, 20] (s_Same y6 y7 u6 t6 u7 t7 (lacks A (lacks St (out ++ l'))) hz6 hz7 hlk) ⟨rfl, rfl, rfl⟩ ?_
      rintro _ _ ⟨rfl, rfl⟩
      refine And.intro (fun hx => absurd hx (by simp)) (fun _ => ?_)
      refine Exists.intro ((i + 1 : Nat) : Int) (And.intro (wrap64 hwb) ?_)
      exact Exists.intro ⟨i + 1, v', ms', c9, ys3, o9, cp2, (lacks St (out ++ l')), hd', xs', o1', c1', zs3, o4, c4⟩ (Exists.intro [0, 1, 2, 3, 4, 9, 6, 11, 17] (And.intro ⟨⟨hil, hCN⟩, Nat.sub_lt_sub_left hil (Nat.lt_succ_self i)⟩ ⟨rfl, rfl, rfl⟩))
    · have hct : ms'.length + (out ++ l').length ≤ i + 1 := by rw [List.length_append]; exact ar.2.2.2.1
      have hCN : CPI L v' ms' c9 ys2 o9 cp2 (out ++ l') hd' xs' o1' c1' ys' o2' c2' (i + 1) := ⟨hb2, hR', hsub.2, hr2, hx', hy', hln, hct⟩
      have hlk : (lacks A (out ++ l')).length ≤ 100000 := Nat.le_trans (List.length_filter_le _ _) hol
      refine VCall.mk [3, 4, 9] (s_Behind v' A ms' c9 ys2 o9 cp2 (out ++ l') hCN.row hol) ⟨rfl, rfl, rfl⟩ ?_
      rintro _ _ ⟨y5, u5, t5, rfl, hz5, rfl⟩
      refine And.intro rfl ?_
      refine VCall.mk [17] (s_shs y5 u5 t5 (lacks A (out ++ l')) hz5 hlk) ⟨rfl, rfl, rfl⟩ ?_
      rintro _ _ ⟨y6, u6, t6, rfl, rfl, hz6⟩
      refine And.intro rfl ?_
      refine VCall.mk [6, 11, 12] (s_ref_Behind v' A xs' o1' (List.length hd') c1' ys' o2' c2' (out ++ l') hCN.rlg hol) ⟨rfl, rfl, rfl⟩ ?_
      rintro _ _ ⟨y7, u7, t7, rfl, hz7, rfl⟩
      refine VCall.mk [18, 19] (s_Same y6 y7 u6 t6 u7 t7 (lacks A (out ++ l')) hz6 hz7 hlk) ⟨rfl, rfl, rfl⟩ ?_
      rintro _ _ ⟨rfl, rfl⟩
      refine And.intro (fun hx => absurd hx (by simp)) (fun _ => ?_)
      refine Exists.intro ((i + 1 : Nat) : Int) (And.intro (wrap64 hwb) ?_)
      exact Exists.intro ⟨i + 1, v', ms', c9, ys2, o9, cp2, (out ++ l'), hd', xs', o1', c1', ys', o2', c2'⟩ (Exists.intro [0, 1, 2, 3, 4, 9, 6, 11, 12] (And.intro ⟨⟨hil, hCN⟩, Nat.sub_lt_sub_left hil (Nat.lt_succ_self i)⟩ ⟨rfl, rfl, rfl⟩))
end Go.Proofs

