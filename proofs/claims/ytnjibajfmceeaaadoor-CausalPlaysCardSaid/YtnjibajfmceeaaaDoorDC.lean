/- Part of the proof that the statement named in the last file holds: lemmas of the prover's own. No conditions. -/
import Derived.Test.YtnjibajfmceeaaaDoorDB
namespace Go.Proofs
open Go Go.V Go.Lib
set_option maxRecDepth 100000
set_option linter.unusedVariables false

def boolcl (b : Bool) : List Value := [.bool b]
/-- Of shadows of one dot only one is told. -/
def okAt (L : List SH) (p q : Nat) : Prop := ∀ (hp : p < L.length) (hq : q < L.length), L[p].rep = L[q].rep → L[p].n = L[q].n → eqSH L[p] L[q] = true
structure CBX where
  i : Nat
  vA : Nat → Int
  msA : SM
  cA : Nat
  ysA : List Value
  oA : Nat
  nA : Nat
  cpA : Nat
  outA : List SH
  SA : List SH
  vB : Nat → Int
  msB : SM
  cB : Nat
  ysB : List Value
  oB : Nat
  nB : Nat
  cpB : Nat
  outB : List SH
  SB : List SH
structure DBX where
  i : Nat
  vB : Nat → Int
  msB : SM
  cB : Nat
  ysB : List Value
  oB : Nat
  nB : Nat
  cpB : Nat
  outB : List SH
  SB : List SH
theorem cut_one {xs : List Value} {o n : Nat} {l : List Value} (h : V.cut xs o n = some l) (j : Nat) (hj : j < n) : xs[o + j]? = l[j]? := ((cut_spec h).2 j hj).symm
set_option maxHeartbeats 4000000 in
theorem s_CausalBehind (h : Nat → Option Obj) (hu : Uni h) (v1 v2 : Value) (L : List SH) (Q : List Bool) (hv1 : RowsIs shcl 14 h v1 L) (hv2 : RowsIs boolcl 1 h v2 Q) (hpl : ∀ s, s ∈ L → Plain7 s) :
    Ctr Tryd.prog F_rostrumlaw16_CausalBehind [.raw v1, .raw v2] [.heap h] (fun x H => x = bv true ∧ H = [.heap h]) := by
  obtain ⟨la, lc, rfl⟩ := hv1.shape
  obtain ⟨qa, qc, rfl⟩ := hv2.shape
  have tt : ∀ x : SV, x = bv true → (fun (x : SV) (H : List SO) => x = bv true ∧ H = [SO.heap h]) x [.heap h] := fun x hx => ⟨hx, rfl⟩
  refine i_rostrumlaw16_CausalBehind.spec follows ?_
  refine VCall.mk [0] (s_awake h hu) ⟨rfl, rfl, rfl⟩ ?_
  rintro _ _ ⟨rfl, rfl⟩
  refine And.intro (fun h => absurd h (by simp)) (fun _ => ?_)
  refine And.intro (fun k1 => ?_) (fun k1 => VRet.mk [0] (bv true) [.heap h] ⟨rfl, rfl, rfl⟩ ⟨rfl, rfl⟩)
  have k1 := of_decide_eq_false k1
  refine And.intro (fun k2 => VRet.mk [0] (bv true) [.heap h] ⟨rfl, rfl, rfl⟩ ⟨rfl, rfl⟩) (fun k2 => ?_)
  have k2 := of_decide_eq_false k2
  have hL30 : L.length ≤ 30 := by omega
  have hQL : L.length ≤ Q.length := by omega
  refine VLoop.mk Nat (fun i => [(0, .raw (.slice la L.length lc)), (1, .raw (.slice qa Q.length qc)), (5, iv i)]) (fun i => [.heap h]) (fun i => i ≤ L.length ∧ (∀ p, p < i → ∀ q, q < p → okAt L p q) ∧ ∀ p (hp : p < L.length), p < i → longB L[p] = false) (fun i => L.length - i) 0 [0]
    ⟨⟨Nat.zero_le _, fun p hp => by omega, fun p _ hp => by omega⟩, rfl, rfl, rfl⟩ ?_
  rintro i ⟨hi, hone, hlong⟩ g
  refine And.intro (fun h1 => ?_) (fun h1 => ?_)
  · have h1 := of_decide_eq_true h1
    have hil : i < L.length := by omega
    have hwi : IntKind.i64.wrap ((i : Int) + 1) = ((i + 1 : Nat) : Int) := wrap64 (by omega)
    obtain ⟨bb, o, xs, e, fr, rfl, hh, hcut⟩ := hv1.at hil
    have hni : (0 : Int) ≤ (i : Int) ∧ (i : Int) < (L.length : Nat) := ⟨Int.natCast_nonneg i, by omega⟩
    refine VLoop.mk Nat (fun k => [(0, .raw (.slice (some ⟨bb, o, none⟩) L.length lc)), (1, .raw (.slice qa Q.length qc)), (5, iv i), (6, iv k)]) (fun k => [.heap h]) (fun k => k ≤ i ∧ ∀ q, q < k → okAt L i q) (fun k => i - k) 0 [0]
      ⟨⟨Nat.zero_le _, fun q hq => by omega⟩, rfl, rfl, rfl⟩ ?_
    rintro k ⟨hk, hkq⟩ g2
    refine And.intro (fun h2 => ?_) (fun h2 => ?_)
    · have h2 := of_decide_eq_true h2
      have hki : k < i := by omega
      have hwk : IntKind.i64.wrap ((k : Int) + 1) = ((k + 1 : Nat) : Int) := wrap64 (by omega)
      have hnk : (0 : Int) ≤ (k : Int) ∧ (k : Int) < (L.length : Nat) := ⟨Int.natCast_nonneg k, by omega⟩
      have ci := hcut i hil
      have ck := hcut k (by omega)
      have ci2 := cut_sub ci 0 2 (by omega)
      have ck2 := cut_sub ck 0 2 (by omega)
      refine And.intro hni ?_
      refine Exists.intro 0 (Exists.intro xs (Exists.intro e (Exists.intro fr (And.intro hh (Exists.intro _ (And.intro (by rw [Int.toNat_natCast]; exact ci2) ?_))))))
      refine And.intro hnk ?_
      refine Exists.intro 0 (Exists.intro xs (Exists.intro e (Exists.intro fr (And.intro hh (Exists.intro _ (And.intro (by rw [Int.toNat_natCast]; exact ck2) ?_))))))
      refine And.intro (fun hd => ?_) (fun hd => ?_)
      · refine And.intro hni ?_
        refine Exists.intro 0 (Exists.intro xs (Exists.intro e (Exists.intro fr (And.intro hh (Exists.intro _ (And.intro (by rw [Int.toNat_natCast]; exact ci) ?_))))))
        refine And.intro hnk ?_
        refine Exists.intro 0 (Exists.intro xs (Exists.intro e (Exists.intro fr (And.intro hh (Exists.intro _ (And.intro (by rw [Int.toNat_natCast]; exact ck) ?_))))))
        refine And.intro (fun hq => VRet.mk [0] (bv true) [.heap h] ⟨rfl, rfl, rfl⟩ ⟨rfl, rfl⟩) (fun hq => ?_)
        have hq : eqSH L[i] L[k] = true := by
          have hq : (!eqSH L[i] L[k]) = false := hq
          simpa using hq
        refine Exists.intro _ (And.intro hwk ?_)
        refine Exists.intro (k + 1) (Exists.intro [0] (And.intro ⟨⟨by omega, fun q hqk => ?_⟩, by omega⟩ ⟨rfl, rfl, rfl⟩))
        by_cases e : q = k
        · subst e; exact fun _ _ _ _ => hq
        · exact hkq q (by omega)
      · have hd : (decide (L[i].rep = L[k].rep) && decide (L[i].n = L[k].n)) = false := hd
        refine Exists.intro _ (And.intro hwk ?_)
        refine Exists.intro (k + 1) (Exists.intro [0] (And.intro ⟨⟨by omega, fun q hqk => ?_⟩, by omega⟩ ⟨rfl, rfl, rfl⟩))
        by_cases e : q = k
        · subst e; intro _ _ a1 a2; rw [decide_eq_true a1, decide_eq_true a2] at hd; cases hd
        · exact hkq q (by omega)
    · have h2 := of_decide_eq_false h2
      have hki : k = i := by omega
      subst hki
      refine And.intro hni ?_
      refine Exists.intro 0 (Exists.intro xs (Exists.intro e (Exists.intro fr (And.intro hh (Exists.intro _ (And.intro (by rw [Int.toNat_natCast]; exact hcut k hil) ?_))))))
      refine VCall.mk [] (s_long L[k]) ⟨rfl, rfl, rfl⟩ ?_
      rintro _ _ ⟨rfl, rfl⟩
      refine And.intro (fun hq => VRet.mk [0] (bv true) [.heap h] ⟨rfl, rfl, rfl⟩ ⟨rfl, rfl⟩) (fun hq => ?_)
      refine Exists.intro _ (And.intro hwi ?_)
      refine Exists.intro (k + 1) (Exists.intro [0] (And.intro ⟨⟨hil, fun p hp q hqp => ?_, fun p hp hpk => ?_⟩, by omega⟩ ⟨rfl, rfl, rfl⟩))
      · by_cases e : p = k
        · subst e; exact hkq q hqp
        · exact hone p (by omega) q hqp
      · by_cases e : p = k
        · subst e; exact hq
        · exact hlong p hp (by omega)
  have h1 := of_decide_eq_false h1
  have hiL : i = L.length := by omega
  subst hiL
  have hL1 : OneEach L := by
    intro s hs t ht e1 e2
    obtain ⟨p, hp, rfl⟩ := List.mem_iff_getElem.1 hs
    obtain ⟨q, hq, rfl⟩ := List.mem_iff_getElem.1 ht
    rcases Nat.lt_trichotomy p q with hpq | hpq | hpq
    · exact (eqSH_eq (hpl _ ht) (hpl _ hs) (hone q hq p hpq hq hp e1.symm e2.symm)).symm
    · subst hpq; rfl
    · exact eqSH_eq (hpl _ hs) (hpl _ ht) (hone p hp q hpq hp hq e1 e2)
  have hsize : ∀ p (hp : p < L.length), L[p].key.size ≤ 4611686018427387904 := by
    intro p hp
    have := hlong p hp hp
    simp only [longB, Bool.or_eq_false_iff, decide_eq_false_iff_not] at this
    omega
  refine VCall.mk [] s_New ⟨rfl, rfl, rfl⟩ ?_
  rintro _ _ ⟨rfl, rfl⟩
  refine VCall.mk [] s_New ⟨rfl, rfl, rfl⟩ ?_
  rintro _ _ ⟨rfl, rfl⟩
  refine VLoop.mk CBX (fun x => [(0, .raw (.slice la L.length lc)), (1, .raw (.slice qa Q.length qc)), (7, .ptr 1 0), (8, .ptr 4 0), (9, iv x.i)])
    (fun x => [.heap h, .cells (vcells x.vA ++ [.mp 2, .sl 3 x.oA x.nA x.cpA]) T_causal_Buffer, smap x.msA x.cA, .arr x.ysA T_shadow_Shadow, .cells (vcells x.vB ++ [.mp 5, .sl 6 x.oB x.nB x.cpB]) T_causal_Buffer, smap x.msB x.cB, .arr x.ysB T_shadow_Shadow])
    (fun x => x.i ≤ L.length ∧ BSt L x.vA x.msA x.cA x.ysA x.oA x.nA x.cpA x.outA x.SA x.i ∧ BSt L x.vB x.msB x.cB x.ysB x.oB x.nB x.cpB x.outB x.SB x.i) (fun x => L.length - x.i)
    ⟨0, vz, [], 0, [], 0, 0, 0, [], [], vz, [], 0, [], 0, 0, 0, [], []⟩ [0, 1, 2, 3, 4, 5, 6] ⟨⟨Nat.zero_le _, BSt.nil L, BSt.nil L⟩, rfl, rfl, rfl⟩ ?_
  rintro ⟨i, vA, msA, cA, ysA, oA, nA, cpA, outA, SA, vB, msB, cB, ysB, oB, nB, cpB, outB, SB⟩ ⟨hi, hA, hB⟩ g
  simp only at hi hA hB
  have hnA := hA.nn
  have hnB := hB.nn
  subst hnA hnB
  refine And.intro (fun h3 => ?_) (fun h3 => ?_)
  · have h3 := of_decide_eq_true h3
    have hil : i < L.length := by simp only at h3; omega
    have hwi : IntKind.i64.wrap ((i : Int) + 1) = ((i + 1 : Nat) : Int) := wrap64 (by omega)
    obtain ⟨bb, o, xs, e, fr, rfl, hh, hcut⟩ := hv1.at hil
    have hni : (0 : Int) ≤ (i : Int) ∧ (i : Int) < (L.length : Nat) := ⟨Int.natCast_nonneg i, by omega⟩
    have ci := hcut i hil
    have hcA := hA.cnt
    have hcB := hB.cnt
    refine And.intro hni ?_
    refine Exists.intro 0 (Exists.intro xs (Exists.intro e (Exists.intro fr (And.intro hh (Exists.intro _ (And.intro (by rw [Int.toNat_natCast]; exact ci) ?_))))))
    refine VCall.mk [1, 2, 3, 0] (s_Take h hu vA msA cA ysA oA cpA outA hA.bi hA.row L[i] (hsize i hil) (by omega) (by omega)) ⟨rfl, rfl, rfl⟩ ?_
    rintro _ _ (⟨er, ys1, o1, cp1, hno, rfl, rfl, hr1⟩ | ⟨l1, v1', ms1, c1, ys1, o1, cp1, zs1, p1, q1, hok, hd1, hn1, hb1, hl1, rfl, rfl, hr1, hz1⟩)
    · have hA1 := hA.no hno (by omega) hr1
      obtain ⟨b2, o2, xq, eq2, fq, rfl, hhq, hcq⟩ := hv2.at (i := i) (by omega)
      have hniQ : (0 : Int) ≤ (i : Int) ∧ (i : Int) < (Q.length : Nat) := ⟨Int.natCast_nonneg i, by omega⟩
      have cq := cut_one (hcq i (by omega)) 0 (by omega)
      refine And.intro hniQ ?_
      refine Exists.intro 0 (Exists.intro xq (Exists.intro eq2 (Exists.intro fq (And.intro hhq (Exists.intro _ (And.intro (by rw [Int.toNat_natCast]; exact cq) ?_))))))
      generalize Q[i] = qb
      refine And.intro (fun hb => ?_) (fun hb => ?_)
      · refine And.intro hni ?_
        refine Exists.intro 0 (Exists.intro xs (Exists.intro e (Exists.intro fr (And.intro hh (Exists.intro _ (And.intro (by rw [Int.toNat_natCast]; exact ci) ?_))))))
        refine VCall.mk [4, 5, 6, 0] (s_Take h hu vB msB cB ysB oB cpB outB hB.bi hB.row L[i] (hsize i hil) (by omega) (by omega)) ⟨rfl, rfl, rfl⟩ ?_
        rintro _ _ (⟨er2, ys2, o3, cp2, hno2, rfl, rfl, hr2⟩ | ⟨l2, v2', ms2, c2, ys2, o3, cp2, zs2, p2, q2, hok2, hd2, hn2, hb2, hl2, rfl, rfl, hr2, hz2⟩)
        · have hB1 := hB.no hno2 (by omega) hr2
          refine Exists.intro _ (And.intro hwi ?_)
          exact Exists.intro ⟨i + 1, _, _, _, _, _, _, _, _, _, _, _, _, _, _, _, _, _, _⟩ (Exists.intro [0, 1, 2, 3, 4, 5, 6] (And.intro ⟨⟨hil, hA1, hB1⟩, by simp only; omega⟩ ⟨rfl, rfl, rfl⟩))
        · obtain ⟨hB1, hle2⟩ := hB.yes (List.getElem_mem hil) hok2 hd2 hn2 hb2 hl2 hr2
          refine Exists.intro _ (And.intro hwi ?_)
          exact Exists.intro ⟨i + 1, _, _, _, _, _, _, _, _, _, _, _, _, _, _, _, _, _, _⟩ (Exists.intro [0, 1, 2, 3, 4, 5, 7] (And.intro ⟨⟨hil, hA1, hB1⟩, by simp only; omega⟩ ⟨rfl, rfl, rfl⟩))
      · refine Exists.intro _ (And.intro hwi ?_)
        exact Exists.intro ⟨i + 1, _, _, _, _, _, _, _, _, _, vB, msB, cB, ysB, oB, outB.length, cpB, outB, SB⟩ (Exists.intro [0, 1, 2, 3, 4, 5, 6] (And.intro ⟨⟨hil, hA1, hB.up (Nat.le_succ i)⟩, by simp only; omega⟩ ⟨rfl, rfl, rfl⟩))
    · obtain ⟨hA1, hle1⟩ := hA.yes (List.getElem_mem hil) hok hd1 hn1 hb1 hl1 hr1
      obtain ⟨b2, o2, xq, eq2, fq, rfl, hhq, hcq⟩ := hv2.at (i := i) (by omega)
      have hniQ : (0 : Int) ≤ (i : Int) ∧ (i : Int) < (Q.length : Nat) := ⟨Int.natCast_nonneg i, by omega⟩
      have cq := cut_one (hcq i (by omega)) 0 (by omega)
      refine And.intro hniQ ?_
      refine Exists.intro 0 (Exists.intro xq (Exists.intro eq2 (Exists.intro fq (And.intro hhq (Exists.intro _ (And.intro (by rw [Int.toNat_natCast]; exact cq) ?_))))))
      generalize Q[i] = qb
      refine And.intro (fun hb => ?_) (fun hb => ?_)
      · refine And.intro hni ?_
        refine Exists.intro 0 (Exists.intro xs (Exists.intro e (Exists.intro fr (And.intro hh (Exists.intro _ (And.intro (by rw [Int.toNat_natCast]; exact ci) ?_))))))
        refine VCall.mk [4, 5, 6, 0] (s_Take h hu vB msB cB ysB oB cpB outB hB.bi hB.row L[i] (hsize i hil) (by omega) (by omega)) ⟨rfl, rfl, rfl⟩ ?_
        rintro _ _ (⟨er2, ys2, o3, cp2, hno2, rfl, rfl, hr2⟩ | ⟨l2, v2', ms2, c2, ys2, o3, cp2, zs2, p2, q2, hok2, hd2, hn2, hb2, hl2, rfl, rfl, hr2, hz2⟩)
        · have hB1 := hB.no hno2 (by omega) hr2
          refine Exists.intro _ (And.intro hwi ?_)
          exact Exists.intro ⟨i + 1, _, _, _, _, _, _, _, _, _, _, _, _, _, _, _, _, _, _⟩ (Exists.intro [0, 1, 2, 7, 4, 5, 6] (And.intro ⟨⟨hil, hA1, hB1⟩, by simp only; omega⟩ ⟨rfl, rfl, rfl⟩))
        · obtain ⟨hB1, hle2⟩ := hB.yes (List.getElem_mem hil) hok2 hd2 hn2 hb2 hl2 hr2
          refine Exists.intro _ (And.intro hwi ?_)
          exact Exists.intro ⟨i + 1, _, _, _, _, _, _, _, _, _, _, _, _, _, _, _, _, _, _⟩ (Exists.intro [0, 1, 2, 7, 4, 5, 9] (And.intro ⟨⟨hil, hA1, hB1⟩, by simp only; omega⟩ ⟨rfl, rfl, rfl⟩))
      · refine Exists.intro _ (And.intro hwi ?_)
        exact Exists.intro ⟨i + 1, _, _, _, _, _, _, _, _, _, vB, msB, cB, ysB, oB, outB.length, cpB, outB, SB⟩ (Exists.intro [0, 1, 2, 7, 4, 5, 6] (And.intro ⟨⟨hil, hA1, hB.up (Nat.le_succ i)⟩, by simp only; omega⟩ ⟨rfl, rfl, rfl⟩))
  have h3 := of_decide_eq_false h3
  have hiL : i = L.length := by simp only at h3; omega
  subst hiL
  have hcA := hA.cnt
  have hcB := hB.cnt
  refine VCall.mk [4, 5, 6] (s_Have vB msB cB ysB oB outB.length cpB) ⟨rfl, rfl, rfl⟩ ?_
  rintro _ _ ⟨rfl, rfl⟩
  refine VCall.mk [1, 2, 3] (s_Behind vA vB msA cA ysA oA cpA outA hA.row (by omega)) ⟨rfl, rfl, rfl⟩ ?_
  rintro _ _ ⟨zs, o4, cp4, rfl, hz, rfl⟩
  have hlk : (lacks vB outA).length ≤ outA.length := List.length_filter_le _ _
  have hcl : ∀ x, (shcl x).length = 14 := fun _ => rfl
  have hroom : o4 + (lacks vB outA).length * 14 ≤ zs.length := by have := hz.2.1; have := Nat.mul_le_mul_right 14 hz.1; omega
  refine VLoop.mk DBX (fun x => [(7, .ptr 1 0), (8, .ptr 4 0), (10, .sl 7 o4 (lacks vB outA).length cp4), (11, iv x.i)])
    (fun x => [.heap h, .cells (vcells vA ++ [.mp 2, .sl 3 oA outA.length cpA]) T_causal_Buffer, smap msA cA, .arr ysA T_shadow_Shadow, .cells (vcells x.vB ++ [.mp 5, .sl 6 x.oB x.nB x.cpB]) T_causal_Buffer, smap x.msB x.cB, .arr x.ysB T_shadow_Shadow, .arr zs T_shadow_Shadow])
    (fun x => x.i ≤ (lacks vB outA).length ∧ BSt L x.vB x.msB x.cB x.ysB x.oB x.nB x.cpB x.outB x.SB (L.length + x.i) ∧ (∀ j, vB j ≤ x.vB j) ∧ ∀ s, s ∈ (lacks vB outA).take x.i → s ∈ x.SB) (fun x => (lacks vB outA).length - x.i)
    ⟨0, vB, msB, cB, ysB, oB, outB.length, cpB, outB, SB⟩ [0, 1, 2, 3, 4, 5, 6, 7] ⟨⟨Nat.zero_le _, hB, fun _ => Int.le_refl _, by simp⟩, rfl, rfl, rfl⟩ ?_
  rintro ⟨j, v2, ms2, c2, ys2, o2, n2, cp2, out2, S2⟩ ⟨hj, hB2, hle, hS⟩ g3
  simp only at hj hB2 hle hS
  have hn2 := hB2.nn
  subst hn2
  have hc2 := hB2.cnt
  refine And.intro (fun h4 => ?_) (fun h4 => ?_)
  · have h4 := of_decide_eq_true h4
    have hjl : j < (lacks vB outA).length := by simp only at h4; omega
    have hwj : IntKind.i64.wrap ((j : Int) + 1) = ((j + 1 : Nat) : Int) := wrap64 (by omega)
    have hmem : (lacks vB outA)[j] ∈ lacks vB outA := List.getElem_mem hjl
    have hmL : (lacks vB outA)[j] ∈ L := hA.ts.from' _ (List.mem_filter.1 hmem).1
    have hsz : (lacks vB outA)[j].key.size ≤ 4611686018427387904 := by
      obtain ⟨p, hp, he⟩ := List.mem_iff_getElem.1 hmL
      rw [← he]; exact hsize p hp
    have htk : ∀ s, s ∈ (lacks vB outA).take (j + 1) → s ∈ (lacks vB outA)[j] :: S2 := by
      intro s hs
      rw [← List.take_append_getElem hjl] at hs
      rcases List.mem_append.1 hs with h5 | h5
      · exact List.mem_cons_of_mem _ (hS s h5)
      · simp at h5; rw [h5]; exact List.mem_cons_self
    have hcut := hz.cut hcl hjl
    refine And.intro ⟨Int.natCast_nonneg j, h4, hroom⟩ (Exists.intro _ (And.intro (by rw [Int.toNat_natCast]; exact hcut) ?_))
    refine VCall.mk [4, 5, 6, 0] (s_Take h hu v2 ms2 c2 ys2 o2 cp2 out2 hB2.bi hB2.row (lacks vB outA)[j] hsz (by omega) (by omega)) ⟨rfl, rfl, rfl⟩ ?_
    rintro _ _ (⟨er2, ys3, o3, cp3, hno2, rfl, rfl, hr2⟩ | ⟨l2, v2', ms3, c3, ys3, o3, cp3, zs2, p2, q2, hok2, hd2, hn2, hb2, hl2, rfl, rfl, hr2, hz2⟩)
    · have hB1 := hB2.no hno2 (by omega) hr2
      refine Exists.intro _ (And.intro hwj ?_)
      exact Exists.intro ⟨j + 1, _, _, _, _, _, _, _, _, _⟩ (Exists.intro [0, 1, 2, 3, 4, 5, 6, 7] (And.intro ⟨⟨hjl, hB1, hle, htk⟩, by simp only; omega⟩ ⟨rfl, rfl, rfl⟩))
    · obtain ⟨hB1, hle2⟩ := hB2.yes hmL hok2 hd2 hn2 hb2 hl2 hr2
      refine Exists.intro _ (And.intro hwj ?_)
      exact Exists.intro ⟨j + 1, _, _, _, _, _, _, _, _, _⟩ (Exists.intro [0, 1, 2, 3, 4, 5, 8, 7] (And.intro ⟨⟨hjl, hB1, fun k => Int.le_trans (hle k) (hle2 k), htk⟩, by simp only; omega⟩ ⟨rfl, rfl, rfl⟩))
  · have h4 := of_decide_eq_false h4
    have hjl : j = (lacks vB outA).length := by simp only at h4; omega
    subst hjl
    rw [List.take_length] at hS
    obtain ⟨w1, w2⟩ := behind_law hL1 hA.ts.chain hA.ts.from' hB2.ts hB2.bi hle hS
    refine VCall.mk [1, 2, 3] (s_Have vA msA cA ysA oA outA.length cpA) ⟨rfl, rfl, rfl⟩ ?_
    rintro _ _ ⟨rfl, rfl⟩
    refine VCall.mk [4, 5, 6] (s_Have v2 ms2 c2 ys2 o2 out2.length cp2) ⟨rfl, rfl, rfl⟩ ?_
    rintro _ _ ⟨rfl, rfl⟩
    refine VCall.mk [] (s_vec_Le vA v2) ⟨rfl, rfl, rfl⟩ ?_
    rintro _ _ ⟨rfl, rfl⟩
    refine And.intro (fun _ => ?_) (fun h => absurd h (by rw [w1]; simp))
    refine VCall.mk [4, 5, 6] (s_Have v2 ms2 c2 ys2 o2 out2.length cp2) ⟨rfl, rfl, rfl⟩ ?_
    rintro _ _ ⟨rfl, rfl⟩
    refine VCall.mk [1, 2, 3] (s_Behind vA v2 msA cA ysA oA cpA outA hA.row (by omega)) ⟨rfl, rfl, rfl⟩ ?_
    rintro _ _ ⟨zs5, o5, cp5, rfl, hz5, rfl⟩
    exact VRet.mk [0] (bv (decide (((lacks v2 outA).length : Int) = 0))) [.heap h] ⟨rfl, rfl, rfl⟩ ⟨by rw [w2]; rfl, rfl⟩
end Go.Proofs

namespace Go.Proofs
open Go Go.V Go.Lib
set_option maxRecDepth 100000
set_option linter.unusedVariables false

def intcl (n : Int) : List Value := [.int .i64 n]
/-- What one has after these. -/
def ups (v : Nat → Int) (l : List SH) : Nat → Int := l.foldl (fun v s => upv v s.rep.toNat s.n) v
theorem ups_snoc (v : Nat → Int) (l : List SH) (s : SH) : ups v (l ++ [s]) = upv (ups v l) s.rep.toNat s.n := by simp [ups]
theorem Dr.steps {v0 v : Nat → Int} {ms0 ms : SM} {c : Nat} {l : List SH} (hd : Dr v0 ms0 l v ms) (hb : BI v0 ms0 c) : BI v ms c ∧ v = ups v0 l ∧ ∀ q (hq : q < l.length), goodS l[q] = true ∧ readyB l[q] (ups v0 (l.take q)) = true ∧ l[q].n = ups v0 (l.take q) l[q].rep.toNat + 1 := by
  induction hd with
  | nil => exact ⟨hb, rfl, fun q hq => by simp at hq⟩
  | @snoc l v ms s hd1 hn ih =>
    obtain ⟨i1, i2, i3⟩ := ih
    obtain ⟨q1, q2, q3, q4, q5⟩ := i1.next hn
    refine ⟨q5, by rw [ups_snoc, ← i2], fun q hq => ?_⟩
    rw [List.length_append] at hq
    simp only [List.length_cons, List.length_nil] at hq
    by_cases e : q < l.length
    · have h1 := i3 q e
      rw [List.getElem_append_left e, List.take_append_of_le_length (Nat.le_of_lt e)]
      exact h1
    · have e : q = l.length := by omega
      subst e
      simp only [List.take_left, List.getElem_concat_length]
      rw [← i2]
      exact ⟨q2, q3, q4⟩
/-- What a table's own counter tells: the first i together. -/
def psum (v : Nat → Int) : Nat → Int
  | 0 => 0
  | i + 1 => psum v i + v i
theorem psum_le {v : Nat → Int} (hv : ∀ i, i < 7 → 0 ≤ v i ∧ v i ≤ 1099511627776) : ∀ i, i ≤ 7 → 0 ≤ psum v i ∧ psum v i ≤ i * 1099511627776
  | 0, _ => by simp [psum]
  | i + 1, h => by
    have h1 := psum_le hv i (by omega)
    have h2 := hv i (by omega)
    simp only [psum]; omega
theorem psum7 (v : Nat → Int) : psum v 7 = sumV v := by simp only [psum, sumV]; omega
structure ONX where
  t : Nat
  v : Nat → Int
  ms : SM
  c : Nat
  ys : List Value
  o : Nat
  cp : Nat
  n : Nat
  out : List SH
  S : List SH
structure OIX where
  i : Nat
  v : Nat → Int
  ms : SM
  c : Nat
  ys : List Value
  o : Nat
  cp : Nat
  n : Nat
  out : List SH
  S : List SH
structure OQX where
  q : Nat
  w : Nat → Int
/-- Where a row lies, if there is one. -/
theorem RowsIs.pos {α : Type} {cl : α → List Value} {k : Nat} {h : Nat → Option Obj} {a : Option Addr} {n c : Nat} {L : List α} (hv : RowsIs cl k h (.slice a n c) L) :
    ∃ (b o : Nat) (xs : List Value) (e : TypeId) (fr : Nat × Nat), 0 < L.length → a = some ⟨b, o, none⟩ ∧ h b = some (.cells xs.toArray e fr) ∧ ∀ j (hj : j < L.length), V.cut xs (o + j * k) k = some (cl L[j]) := by
  by_cases h0 : 0 < L.length
  · obtain ⟨b, o, xs, e, fr, h1⟩ := hv.at h0
    exact ⟨b, o, xs, e, fr, fun _ => h1⟩
  · exact ⟨0, 0, [], 0, (0, 0), fun h1 => absurd h1 h0⟩
theorem vcells_at (v : Nat → Int) {i : Nat} (hi : i < 7) : (vcells v)[i]? = some (iv (v i)) := by
  match i, hi with | 0, _ | 1, _ | 2, _ | 3, _ | 4, _ | 5, _ | 6, _ => rfl
set_option maxHeartbeats 40000000 in
theorem s_CausalOnce (h : Nat → Option Obj) (hu : Uni h) (v1 v2 : Value) (L : List SH) (Q : List Int) (hv1 : RowsIs shcl 14 h v1 L) (hv2 : RowsIs intcl 1 h v2 Q) (hpl : ∀ s, s ∈ L → Plain7 s) :
    Ctr Tryd.prog F_rostrumlaw16_CausalOnce [.raw v1, .raw v2] [.heap h] (fun x H => x = bv true ∧ H = [.heap h]) := by
  obtain ⟨la, lc, rfl⟩ := hv1.shape
  obtain ⟨qa, qc, rfl⟩ := hv2.shape
  obtain ⟨bL, oL, xL, eL, fL, HL⟩ := hv1.pos
  obtain ⟨bQ, oQ, xQ, eQ, fQ, HQ⟩ := hv2.pos
  refine i_rostrumlaw16_CausalOnce.spec follows ?_
  refine VCall.mk [0] (s_awake h hu) ⟨rfl, rfl, rfl⟩ ?_
  rintro _ _ ⟨rfl, rfl⟩
  refine And.intro (fun h => absurd h (by simp)) (fun _ => ?_)
  refine And.intro (fun k1 => ?_) (fun k1 => VRet.mk [0] (bv true) [.heap h] ⟨rfl, rfl, rfl⟩ ⟨rfl, rfl⟩)
  have k1 := of_decide_eq_false k1
  refine And.intro (fun k2 => VRet.mk [0] (bv true) [.heap h] ⟨rfl, rfl, rfl⟩ ⟨rfl, rfl⟩) (fun k2 => ?_)
  have k2 := of_decide_eq_false k2
  have hL40 : L.length ≤ 40 := by omega
  have hQ40 : Q.length ≤ 40 := by omega
  refine VLoop.mk Nat (fun i => [(0, .raw (.slice la L.length lc)), (1, .raw (.slice qa Q.length qc)), (5, iv i)]) (fun i => [.heap h]) (fun i => i ≤ L.length ∧ (∀ p, p < i → ∀ q, q < p → okAt L p q)) (fun i => L.length - i) 0 [0]
    ⟨⟨Nat.zero_le _, fun p hp => by omega⟩, rfl, rfl, rfl⟩ ?_
  rintro i ⟨hi, hone⟩ g
  refine And.intro (fun h1 => ?_) (fun h1 => ?_)
  · have h1 := of_decide_eq_true h1
    have hil : i < L.length := by omega
    have hwi : IntKind.i64.wrap ((i : Int) + 1) = ((i + 1 : Nat) : Int) := wrap64 (by omega)
    obtain ⟨bb, o, xs, e, fr, rfl, hh, hcut⟩ := hv1.at hil
    have hni : (0 : Int) ≤ (i : Int) ∧ (i : Int) < (L.length : Nat) := ⟨Int.natCast_nonneg i, by omega⟩
    refine VLoop.mk Nat (fun k => [(0, .raw (.slice (some ⟨bb, o, none⟩) L.length lc)), (1, .raw (.slice qa Q.length qc)), (5, iv i), (6, iv k)]) (fun k => [.heap h]) (fun k => k ≤ i ∧ ∀ q, q < k → okAt L i q) (fun k => i - k) 0 [0]
      ⟨⟨Nat.zero_le _, fun q hq => by omega⟩, rfl, rfl, rfl⟩ ?_
    rintro k ⟨hk, hkq⟩ g2
    refine And.intro (fun h2 => ?_) (fun h2 => ?_)
    · have h2 := of_decide_eq_true h2
      have hki : k < i := by omega
      have hwk : IntKind.i64.wrap ((k : Int) + 1) = ((k + 1 : Nat) : Int) := wrap64 (by omega)
      have hnk : (0 : Int) ≤ (k : Int) ∧ (k : Int) < (L.length : Nat) := ⟨Int.natCast_nonneg k, by omega⟩
      have ci := hcut i hil
      have ck := hcut k (by omega)
      have ci2 := cut_sub ci 0 2 (by omega)
      have ck2 := cut_sub ck 0 2 (by omega)
      refine And.intro hni ?_
      refine Exists.intro 0 (Exists.intro xs (Exists.intro e (Exists.intro fr (And.intro hh (Exists.intro _ (And.intro (by rw [Int.toNat_natCast]; exact ci2) ?_))))))
      refine And.intro hnk ?_
      refine Exists.intro 0 (Exists.intro xs (Exists.intro e (Exists.intro fr (And.intro hh (Exists.intro _ (And.intro (by rw [Int.toNat_natCast]; exact ck2) ?_))))))
      refine And.intro (fun hd => ?_) (fun hd => ?_)
      · refine And.intro hni ?_
        refine Exists.intro 0 (Exists.intro xs (Exists.intro e (Exists.intro fr (And.intro hh (Exists.intro _ (And.intro (by rw [Int.toNat_natCast]; exact ci) ?_))))))
        refine And.intro hnk ?_
        refine Exists.intro 0 (Exists.intro xs (Exists.intro e (Exists.intro fr (And.intro hh (Exists.intro _ (And.intro (by rw [Int.toNat_natCast]; exact ck) ?_))))))
        refine And.intro (fun hq => VRet.mk [0] (bv true) [.heap h] ⟨rfl, rfl, rfl⟩ ⟨rfl, rfl⟩) (fun hq => ?_)
        have hq : eqSH L[i] L[k] = true := by
          have hq : (!eqSH L[i] L[k]) = false := hq
          simpa using hq
        refine Exists.intro _ (And.intro hwk ?_)
        refine Exists.intro (k + 1) (Exists.intro [0] (And.intro ⟨⟨by omega, fun q hqk => ?_⟩, by omega⟩ ⟨rfl, rfl, rfl⟩))
        by_cases e : q = k
        · subst e; exact fun _ _ _ _ => hq
        · exact hkq q (by omega)
      · have hd : (decide (L[i].rep = L[k].rep) && decide (L[i].n = L[k].n)) = false := hd
        refine Exists.intro _ (And.intro hwk ?_)
        refine Exists.intro (k + 1) (Exists.intro [0] (And.intro ⟨⟨by omega, fun q hqk => ?_⟩, by omega⟩ ⟨rfl, rfl, rfl⟩))
        by_cases e : q = k
        · subst e; intro _ _ a1 a2; rw [decide_eq_true a1, decide_eq_true a2] at hd; cases hd
        · exact hkq q (by omega)
    · have h2 := of_decide_eq_false h2
      have hki : k = i := by omega
      subst hki
      refine Exists.intro _ (And.intro hwi ?_)
      refine Exists.intro (k + 1) (Exists.intro [0] (And.intro ⟨⟨hil, fun p hp q hqp => ?_⟩, by omega⟩ ⟨rfl, rfl, rfl⟩))
      · by_cases e : p = k
        · subst e; exact hkq q hqp
        · exact hone p (by omega) q hqp
  have h1 := of_decide_eq_false h1
  have hiL : i = L.length := by omega
  subst hiL
  have hL1 : OneEach L := by
    intro s hs t ht e1 e2
    obtain ⟨p, hp, rfl⟩ := List.mem_iff_getElem.1 hs
    obtain ⟨q, hq, rfl⟩ := List.mem_iff_getElem.1 ht
    rcases Nat.lt_trichotomy p q with hpq | hpq | hpq
    · exact (eqSH_eq (hpl _ ht) (hpl _ hs) (hone q hq p hpq hq hp e1.symm e2.symm)).symm
    · subst hpq; rfl
    · exact eqSH_eq (hpl _ hs) (hpl _ ht) (hone p hp q hpq hp hq e1 e2)
  refine VCall.mk [] s_New ⟨rfl, rfl, rfl⟩ ?_
  rintro _ _ ⟨rfl, rfl⟩
  refine VLoop.mk ONX (fun x => [(0, .raw (.slice la L.length lc)), (1, .raw (.slice qa Q.length qc)), (7, .ptr 1 0), (8, .ptr 4 0), (9, iv x.n), (10, iv x.t)])
    (fun x => [.heap h, .cells (vcells x.v ++ [.mp 2, .sl 3 x.o x.out.length x.cp]) T_causal_Buffer, smap x.ms x.c, .arr x.ys T_shadow_Shadow, .cells (vcells x.v) T_vec_Vec])
    (fun x => x.t ≤ 2 ∧ x.n = x.out.length ∧ BSt L x.v x.ms x.c x.ys x.o x.out.length x.cp x.out x.S (x.t * 80) ∧ (1 ≤ x.t → ∀ s, s ∈ L → s ∈ x.S) ∧ ∀ s, s ∈ x.S → s.key.size ≤ 4611686018427387904) (fun x => 2 - x.t)
    ⟨0, vz, [], 0, [], 0, 0, 0, [], []⟩ [0, 1, 2, 3, 4] ⟨⟨Nat.zero_le _, rfl, BSt.nil L, fun h => absurd h (by decide), fun s hs => by simp at hs⟩, rfl, rfl, rfl⟩ ?_
  rintro ⟨t, v, ms, c, ys, o, cp, n, out, S⟩ ⟨ht, hn, hB, hS, hZ⟩ g
  simp only at ht hn hB hS hZ
  subst hn
  refine And.intro (fun h3 => ?_) (fun h3 => ?_)
  · have h3 := of_decide_eq_true h3
    have ht1 : t ≤ 1 := by simp only at h3; omega
    have hwt : IntKind.i64.wrap ((t : Int) + 1) = ((t + 1 : Nat) : Int) := wrap64 (by omega)
    refine VLoop.mk OIX (fun x => [(0, .raw (.slice la L.length lc)), (1, .raw (.slice qa Q.length qc)), (7, .ptr 1 0), (8, .ptr 4 0), (9, iv x.n), (10, iv t), (11, iv x.i)])
      (fun x => [.heap h, .cells (vcells x.v ++ [.mp 2, .sl 3 x.o x.out.length x.cp]) T_causal_Buffer, smap x.ms x.c, .arr x.ys T_shadow_Shadow, .cells (vcells x.v) T_vec_Vec])
      (fun x => x.i ≤ L.length + Q.length ∧ x.n = x.out.length ∧ BSt L x.v x.ms x.c x.ys x.o x.out.length x.cp x.out x.S (t * 80 + x.i) ∧ (∀ p (hp : p < L.length), p < x.i → L[p] ∈ x.S) ∧ ∀ s, s ∈ x.S → s.key.size ≤ 4611686018427387904) (fun x => L.length + Q.length - x.i)
      ⟨0, v, ms, c, ys, o, cp, out.length, out, S⟩ [0, 1, 2, 3, 4] ⟨⟨Nat.zero_le _, rfl, hB, fun p hp h => absurd h (by simp), hZ⟩, rfl, rfl, rfl⟩ ?_
    rintro ⟨i, v, ms, c, ys, o, cp, n, out, S⟩ ⟨hi, hn, hB, hS, hZ⟩ g2
    simp only at hi hn hB hS hZ
    subst hn
    have hcB := hB.cnt
    have hwl : IntKind.i64.wrap ((L.length : Int) + (Q.length : Int)) = ((L.length + Q.length : Nat) : Int) := wrap64 (by omega)
    refine Exists.intro _ (And.intro hwl ?_)
    refine And.intro (fun h4 => ?_) (fun h4 => ?_)
    · have h4 := of_decide_eq_true h4
      have hil : i < L.length + Q.length := by simp only at h4; omega
      have hwi : IntKind.i64.wrap ((i : Int) + 1) = ((i + 1 : Nat) : Int) := wrap64 (by omega)
      refine And.intro (fun h5 => ?_) (fun h5 => ?_)
      · have h5 := of_decide_eq_true h5
        have hLi : L.length ≤ i := by simp only at h5; omega
        have hSi : ∀ p (hp : p < L.length), p < i + 1 → L[p] ∈ S := fun p hp _ => hS p hp (by omega)
        have skip : ∀ p (hp : p < L.length), p < i + 1 → L[p] ∈ S := hSi
        refine And.intro (fun h6 => ?_) (fun h6 => ?_)
        · have h6 := of_decide_eq_false h6
          have hL0 : 0 < L.length := by omega
          have hwd : IntKind.i64.wrap ((i : Int) - (L.length : Int)) = ((i - L.length : Nat) : Int) := by rw [wrap64 (by omega)]; omega
          have hiQ : i - L.length < Q.length := by omega
          have hnQ : (0 : Int) ≤ ((i - L.length : Nat) : Int) ∧ ((i - L.length : Nat) : Int) < (Q.length : Nat) := ⟨Int.natCast_nonneg _, by omega⟩
          have hqa := (HQ (by omega)).1
          have hhQ := (HQ (by omega)).2.1
          have cQ := cut_one ((HQ (by omega)).2.2 _ hiQ) 0 (by omega)
          subst hqa
          refine Exists.intro _ (And.intro hwd ?_)
          refine And.intro hnQ ?_
          refine Exists.intro 0 (Exists.intro xQ (Exists.intro eQ (Exists.intro fQ (And.intro hhQ (Exists.intro _ (And.intro (by rw [Int.toNat_natCast]; exact cQ) ?_))))))
          refine And.intro (fun h7 => ?_) (fun h7 => ?_)
          · refine Exists.intro _ (And.intro hwi ?_)
            exact Exists.intro ⟨i + 1, v, ms, c, ys, o, cp, out.length, out, S⟩ (Exists.intro [0, 1, 2, 3, 4] (And.intro ⟨⟨by simp only; omega, rfl, hB.up (Nat.le_succ _), skip, hZ⟩, by simp only; omega⟩ ⟨rfl, rfl, rfl⟩))
          · have h7 := of_decide_eq_false h7
            refine Exists.intro _ (And.intro hwd ?_)
            refine And.intro hnQ ?_
            refine Exists.intro 0 (Exists.intro xQ (Exists.intro eQ (Exists.intro fQ (And.intro hhQ (Exists.intro _ (And.intro (by rw [Int.toNat_natCast]; exact cQ) ?_))))))
            have hy0 : 0 ≤ Q[i - L.length] := by omega
            refine And.intro (by omega) (Exists.intro _ (And.intro rfl ?_))
            have hyk : Q[i - L.length].tmod (L.length : Int) = ((Q[i - L.length].toNat % L.length : Nat) : Int) := by
              rw [Int.tmod_eq_emod_of_nonneg hy0, Int.natCast_emod, Int.toNat_of_nonneg hy0]
            have hkl : Q[i - L.length].toNat % L.length < L.length := Nat.mod_lt _ hL0
            have hnk : (0 : Int) ≤ Q[i - L.length].tmod (L.length : Int) ∧ Q[i - L.length].tmod (L.length : Int) < (L.length : Nat) := by rw [hyk]; exact ⟨Int.natCast_nonneg _, by omega⟩
            have hKn : (Q[i - L.length].tmod (L.length : Int)).toNat = Q[i - L.length].toNat % L.length := by rw [hyk, Int.toNat_natCast]
            have hSk : ∀ s : SH, s = L[Q[i - L.length].toNat % L.length] → ∀ p (hp : p < L.length), p < i + 1 → L[p] ∈ s :: S := fun s _ p hp h => List.mem_cons_of_mem _ (skip p hp h)
            have hla := (HL (by omega)).1
            have hh := (HL (by omega)).2.1
            have ck := (HL (by omega)).2.2 (Q[i - L.length].toNat % L.length) hkl
            subst hla
            refine Exists.elim (⟨_, rfl⟩ : ∃ s, s = L[(Q[i - L.length].toNat % L.length)]) fun s hsk => ?_
            have hsL : s ∈ L := by rw [hsk]; exact List.getElem_mem hkl
            rw [← hsk] at ck
            refine And.intro hnk ?_
            refine Exists.intro 0 (Exists.intro xL (Exists.intro eL (Exists.intro fL (And.intro hh (Exists.intro _ (And.intro (by rw [hKn]; exact ck) ?_))))))
            refine VCall.mk [] (s_long s) ⟨rfl, rfl, rfl⟩ ?_
            rintro _ _ ⟨rfl, rfl⟩
            refine And.intro (fun hq => VRet.mk [0] (bv true) [.heap h] ⟨rfl, rfl, rfl⟩ ⟨rfl, rfl⟩) (fun hq => ?_)
            have hsz : s.key.size ≤ 4611686018427387904 := by
              have hq : longB s = false := hq
              simp only [longB, Bool.or_eq_false_iff, decide_eq_false_iff_not] at hq
              omega
            have hZ1 : ∀ r, r ∈ s :: S → r.key.size ≤ 4611686018427387904 := fun r hr => by
              rcases List.mem_cons.1 hr with h9 | h9
              · rw [h9]; exact hsz
              · exact hZ r h9
            refine And.intro hnk ?_
            refine Exists.intro 0 (Exists.intro xL (Exists.intro eL (Exists.intro fL (And.intro hh (Exists.intro _ (And.intro (by rw [hKn]; exact ck) ?_))))))
            refine VCall.mk [1, 2, 3, 0] (s_Take h hu v ms c ys o cp out hB.bi hB.row s hsz (by omega) (by omega)) ⟨rfl, rfl, rfl⟩ ?_
            rintro _ _ (⟨er, ys2, o2, cp2, hno2, rfl, rfl, hr2⟩ | ⟨l2, v2', ms2, c2, ys2, o2, cp2, zs2, p2, q2, hok2, hd2, hn2, hb2, hl2, rfl, rfl, hr2, hz2⟩)
            · have hB1 := hB.no hno2 (by omega) hr2
              refine VLoop.mk Nat (fun q => [(0, .raw (.slice (some ⟨bL, oL, none⟩) L.length lc)), (1, .raw (.slice (some ⟨bQ, oQ, .none⟩) Q.length qc)), (7, .ptr 1 0), (8, .ptr 4 0), (9, iv out.length), (10, iv t), (11, iv i), (13, .raw (.slice none 0 0)), (15, iv 0)])
                (fun q => [.heap h, .cells (vcells v ++ [.mp 2, .sl 3 o2 out.length cp2]) T_causal_Buffer, smap ms c, .arr ys2 T_shadow_Shadow, .cells (vcells v) T_vec_Vec]) (fun _ => True) (fun _ => 0) 0 [0, 1, 2, 3, 4] ⟨trivial, rfl, rfl, rfl⟩ ?_
              rintro _ _ g4
              refine And.intro (fun h5 => absurd h5 (by simp)) (fun _ => ?_)
              refine Exists.intro _ (And.intro hwi ?_)
              exact Exists.intro ⟨i + 1, v, ms, c, ys2, o2, cp2, out.length, out, s :: S⟩ (Exists.intro [0, 1, 2, 3, 4] (And.intro ⟨⟨by simp only; omega, rfl, hB1, hSk s hsk, hZ1⟩, by simp only; omega⟩ ⟨rfl, rfl, rfl⟩))
            · have hOB := hB.yes hsL hok2 hd2 hn2 hb2 hl2 hr2
              obtain ⟨hB1, _⟩ := hOB
              have hOB := hd2.steps (hB.bi.put hok2.1 hok2.2.1)
              obtain ⟨_, hv2', hst⟩ := hOB
              have hroom : p2 + l2.length * 14 ≤ zs2.length := by have := hz2.2.1; have := Nat.mul_le_mul_right 14 hz2.1; omega
              have hcl : ∀ x, (shcl x).length = 14 := fun _ => rfl
              have hcnt := hB1.cnt
              rw [List.length_append] at hcnt
              refine VLoop.mk OQX (fun x => [(0, .raw (.slice (some ⟨bL, oL, none⟩) L.length lc)), (1, .raw (.slice (some ⟨bQ, oQ, .none⟩) Q.length qc)), (7, .ptr 1 0), (8, .ptr 4 0), (9, iv ((out.length + x.q : Nat) : Int)), (10, iv t), (11, iv i), (13, .sl 5 p2 l2.length q2), (15, iv x.q)])
                (fun x => [.heap h, .cells (vcells v2' ++ [.mp 2, .sl 3 o2 (out ++ l2).length cp2]) T_causal_Buffer, smap ms2 c2, .arr ys2 T_shadow_Shadow, .cells (vcells x.w) T_vec_Vec, .arr zs2 T_shadow_Shadow])
                (fun x => x.q ≤ l2.length ∧ x.w = ups v (l2.take x.q)) (fun x => l2.length - x.q) ⟨0, v⟩ [0, 1, 2, 5, 4, 6] ⟨⟨Nat.zero_le _, rfl⟩, rfl, rfl, rfl⟩ ?_
              rintro ⟨q, w⟩ ⟨hq1, hw⟩ g4
              simp only at hq1 hw
              refine And.intro (fun h5 => ?_) (fun h5 => ?_)
              · have h5 := of_decide_eq_true h5
                have hql : q < l2.length := by simp only at h5; omega
                have hwq : IntKind.i64.wrap ((q : Int) + 1) = ((q + 1 : Nat) : Int) := wrap64 (by omega)
                have hwn : IntKind.i64.wrap (((out.length + q : Nat) : Int) + 1) = ((out.length + (q + 1) : Nat) : Int) := wrap64 (by omega)
                have hcutq := hz2.cut hcl hql
                have hOB := hst q hql
                obtain ⟨a1, a2, a3⟩ := hOB
                have htk : ups v (l2.take (q + 1)) = upv w l2[q].rep.toNat l2[q].n := by rw [← List.take_append_getElem hql, ups_snoc, hw]
                rw [← hw] at a2 a3
                refine And.intro ⟨Int.natCast_nonneg q, h5, hroom⟩ (Exists.intro _ (And.intro (by rw [Int.toNat_natCast]; exact hcutq) ?_))
                have hOB := goodS_iff a1
                obtain ⟨b1, b2, _⟩ := hOB
                have hOB := readyB_iff.1 a2
                obtain ⟨b3, b4⟩ := hOB
                refine And.intro (fun _ => ?_) (fun h6 => absurd (of_decide_eq_true h6) (by omega))
                refine And.intro (fun _ => ?_) (fun h6 => absurd (of_decide_eq_true h6) (by omega))
                refine VCall.mk [] (s_vec_Has w l2[q].rep l2[q].n) ⟨rfl, rfl, rfl⟩ ?_
                rintro _ _ ⟨rfl, rfl⟩
                refine And.intro (fun _ => ?_) (fun h6 => absurd (show has w l2[q].rep l2[q].n = true from h6) (by rw [b3]; simp))
                refine VCall.mk [] (s_vec_Le l2[q].seen w) ⟨rfl, rfl, rfl⟩ ?_
                rintro _ _ ⟨rfl, rfl⟩
                refine And.intro (fun h6 => absurd (show (!leB l2[q].seen w) = true from h6) (by rw [leB_iff.2 b4]; simp)) (fun _ => ?_)
                refine And.intro b1 (Exists.intro _ (And.intro (vcells_put w l2[q].n b1 []) ?_))
                refine Exists.intro _ (And.intro hwn ?_)
                refine Exists.intro _ (And.intro hwq ?_)
                exact Exists.intro ⟨q + 1, _⟩ (Exists.intro [0, 1, 2, 3, 4, 5] (And.intro ⟨⟨hql, htk.symm⟩, by simp only; omega⟩ ⟨rfl, rfl, rfl⟩))
              · have h5 := of_decide_eq_false h5
                have hql : q = l2.length := by simp only at h5; omega
                subst hql
                rw [List.take_length, ← hv2'] at hw
                subst hw
                refine Exists.intro _ (And.intro hwi ?_)
                exact Exists.intro ⟨i + 1, w, ms2, c2, ys2, o2, cp2, out.length + l2.length, out ++ l2, s :: S⟩ (Exists.intro [0, 1, 2, 3, 4] (And.intro ⟨⟨by simp only; omega, by simp only; rw [List.length_append], hB1, hSk s hsk, hZ1⟩, by simp only; omega⟩ ⟨rfl, rfl, rfl⟩))
        · refine Exists.intro _ (And.intro hwi ?_)
          exact Exists.intro ⟨i + 1, v, ms, c, ys, o, cp, out.length, out, S⟩ (Exists.intro [0, 1, 2, 3, 4] (And.intro ⟨⟨by simp only; omega, rfl, hB.up (Nat.le_succ _), skip, hZ⟩, by simp only; omega⟩ ⟨rfl, rfl, rfl⟩))
      · have h5 := of_decide_eq_false h5
        have hkl : i < L.length := by simp only at h5; omega
        have hnk : (0 : Int) ≤ (i : Int) ∧ (i : Int) < (L.length : Nat) := ⟨Int.natCast_nonneg i, by omega⟩
        have hKn : ((i : Nat) : Int).toNat = i := Int.toNat_natCast i
        have hSk : ∀ s : SH, s = L[i] → ∀ p (hp : p < L.length), p < i + 1 → L[p] ∈ s :: S := by
          intro s hs p hp hpi
          by_cases e : p = i
          · subst e; rw [hs]; exact List.mem_cons_self
          · exact List.mem_cons_of_mem _ (hS p hp (by omega))
        have hla := (HL (by omega)).1
        have hh := (HL (by omega)).2.1
        have ck := (HL (by omega)).2.2 i hkl
        subst hla
        refine Exists.elim (⟨_, rfl⟩ : ∃ s, s = L[i]) fun s hsk => ?_
        have hsL : s ∈ L := by rw [hsk]; exact List.getElem_mem hkl
        rw [← hsk] at ck
        refine And.intro hnk ?_
        refine Exists.intro 0 (Exists.intro xL (Exists.intro eL (Exists.intro fL (And.intro hh (Exists.intro _ (And.intro (by rw [hKn]; exact ck) ?_))))))
        refine VCall.mk [] (s_long s) ⟨rfl, rfl, rfl⟩ ?_
        rintro _ _ ⟨rfl, rfl⟩
        refine And.intro (fun hq => VRet.mk [0] (bv true) [.heap h] ⟨rfl, rfl, rfl⟩ ⟨rfl, rfl⟩) (fun hq => ?_)
        have hsz : s.key.size ≤ 4611686018427387904 := by
          have hq : longB s = false := hq
          simp only [longB, Bool.or_eq_false_iff, decide_eq_false_iff_not] at hq
          omega
        have hZ1 : ∀ r, r ∈ s :: S → r.key.size ≤ 4611686018427387904 := fun r hr => by
          rcases List.mem_cons.1 hr with h9 | h9
          · rw [h9]; exact hsz
          · exact hZ r h9
        refine And.intro hnk ?_
        refine Exists.intro 0 (Exists.intro xL (Exists.intro eL (Exists.intro fL (And.intro hh (Exists.intro _ (And.intro (by rw [hKn]; exact ck) ?_))))))
        refine VCall.mk [1, 2, 3, 0] (s_Take h hu v ms c ys o cp out hB.bi hB.row s hsz (by omega) (by omega)) ⟨rfl, rfl, rfl⟩ ?_
        rintro _ _ (⟨er, ys2, o2, cp2, hno2, rfl, rfl, hr2⟩ | ⟨l2, v2', ms2, c2, ys2, o2, cp2, zs2, p2, q2, hok2, hd2, hn2, hb2, hl2, rfl, rfl, hr2, hz2⟩)
        · have hB1 := hB.no hno2 (by omega) hr2
          refine VLoop.mk Nat (fun q => [(0, .raw (.slice (some ⟨bL, oL, none⟩) L.length lc)), (1, .raw (.slice qa Q.length qc)), (7, .ptr 1 0), (8, .ptr 4 0), (9, iv out.length), (10, iv t), (11, iv i), (13, .raw (.slice none 0 0)), (15, iv 0)])
            (fun q => [.heap h, .cells (vcells v ++ [.mp 2, .sl 3 o2 out.length cp2]) T_causal_Buffer, smap ms c, .arr ys2 T_shadow_Shadow, .cells (vcells v) T_vec_Vec]) (fun _ => True) (fun _ => 0) 0 [0, 1, 2, 3, 4] ⟨trivial, rfl, rfl, rfl⟩ ?_
          rintro _ _ g4
          refine And.intro (fun h5 => absurd h5 (by simp)) (fun _ => ?_)
          refine Exists.intro _ (And.intro hwi ?_)
          exact Exists.intro ⟨i + 1, v, ms, c, ys2, o2, cp2, out.length, out, s :: S⟩ (Exists.intro [0, 1, 2, 3, 4] (And.intro ⟨⟨by simp only; omega, rfl, hB1, hSk s hsk, hZ1⟩, by simp only; omega⟩ ⟨rfl, rfl, rfl⟩))
        · have hOB := hB.yes hsL hok2 hd2 hn2 hb2 hl2 hr2
          obtain ⟨hB1, _⟩ := hOB
          have hOB := hd2.steps (hB.bi.put hok2.1 hok2.2.1)
          obtain ⟨_, hv2', hst⟩ := hOB
          have hroom : p2 + l2.length * 14 ≤ zs2.length := by have := hz2.2.1; have := Nat.mul_le_mul_right 14 hz2.1; omega
          have hcl : ∀ x, (shcl x).length = 14 := fun _ => rfl
          have hcnt := hB1.cnt
          rw [List.length_append] at hcnt
          refine VLoop.mk OQX (fun x => [(0, .raw (.slice (some ⟨bL, oL, none⟩) L.length lc)), (1, .raw (.slice qa Q.length qc)), (7, .ptr 1 0), (8, .ptr 4 0), (9, iv ((out.length + x.q : Nat) : Int)), (10, iv t), (11, iv i), (13, .sl 5 p2 l2.length q2), (15, iv x.q)])
            (fun x => [.heap h, .cells (vcells v2' ++ [.mp 2, .sl 3 o2 (out ++ l2).length cp2]) T_causal_Buffer, smap ms2 c2, .arr ys2 T_shadow_Shadow, .cells (vcells x.w) T_vec_Vec, .arr zs2 T_shadow_Shadow])
            (fun x => x.q ≤ l2.length ∧ x.w = ups v (l2.take x.q)) (fun x => l2.length - x.q) ⟨0, v⟩ [0, 1, 2, 5, 4, 6] ⟨⟨Nat.zero_le _, rfl⟩, rfl, rfl, rfl⟩ ?_
          rintro ⟨q, w⟩ ⟨hq1, hw⟩ g4
          simp only at hq1 hw
          refine And.intro (fun h5 => ?_) (fun h5 => ?_)
          · have h5 := of_decide_eq_true h5
            have hql : q < l2.length := by simp only at h5; omega
            have hwq : IntKind.i64.wrap ((q : Int) + 1) = ((q + 1 : Nat) : Int) := wrap64 (by omega)
            have hwn : IntKind.i64.wrap (((out.length + q : Nat) : Int) + 1) = ((out.length + (q + 1) : Nat) : Int) := wrap64 (by omega)
            have hcutq := hz2.cut hcl hql
            have hOB := hst q hql
            obtain ⟨a1, a2, a3⟩ := hOB
            have htk : ups v (l2.take (q + 1)) = upv w l2[q].rep.toNat l2[q].n := by rw [← List.take_append_getElem hql, ups_snoc, hw]
            rw [← hw] at a2 a3
            refine And.intro ⟨Int.natCast_nonneg q, h5, hroom⟩ (Exists.intro _ (And.intro (by rw [Int.toNat_natCast]; exact hcutq) ?_))
            have hOB := goodS_iff a1
            obtain ⟨b1, b2, _⟩ := hOB
            have hOB := readyB_iff.1 a2
            obtain ⟨b3, b4⟩ := hOB
            refine And.intro (fun _ => ?_) (fun h6 => absurd (of_decide_eq_true h6) (by omega))
            refine And.intro (fun _ => ?_) (fun h6 => absurd (of_decide_eq_true h6) (by omega))
            refine VCall.mk [] (s_vec_Has w l2[q].rep l2[q].n) ⟨rfl, rfl, rfl⟩ ?_
            rintro _ _ ⟨rfl, rfl⟩
            refine And.intro (fun _ => ?_) (fun h6 => absurd (show has w l2[q].rep l2[q].n = true from h6) (by rw [b3]; simp))
            refine VCall.mk [] (s_vec_Le l2[q].seen w) ⟨rfl, rfl, rfl⟩ ?_
            rintro _ _ ⟨rfl, rfl⟩
            refine And.intro (fun h6 => absurd (show (!leB l2[q].seen w) = true from h6) (by rw [leB_iff.2 b4]; simp)) (fun _ => ?_)
            refine And.intro b1 (Exists.intro _ (And.intro (vcells_put w l2[q].n b1 []) ?_))
            refine Exists.intro _ (And.intro hwn ?_)
            refine Exists.intro _ (And.intro hwq ?_)
            exact Exists.intro ⟨q + 1, _⟩ (Exists.intro [0, 1, 2, 3, 4, 5] (And.intro ⟨⟨hql, htk.symm⟩, by simp only; omega⟩ ⟨rfl, rfl, rfl⟩))
          · have h5 := of_decide_eq_false h5
            have hql : q = l2.length := by simp only at h5; omega
            subst hql
            rw [List.take_length, ← hv2'] at hw
            subst hw
            refine Exists.intro _ (And.intro hwi ?_)
            exact Exists.intro ⟨i + 1, w, ms2, c2, ys2, o2, cp2, out.length + l2.length, out ++ l2, s :: S⟩ (Exists.intro [0, 1, 2, 3, 4] (And.intro ⟨⟨by simp only; omega, by simp only; rw [List.length_append], hB1, hSk s hsk, hZ1⟩, by simp only; omega⟩ ⟨rfl, rfl, rfl⟩))
    · have h4 := of_decide_eq_false h4
      have hil : i = L.length + Q.length := by simp only at h4; omega
      subst hil
      refine Exists.intro _ (And.intro hwt ?_)
      refine Exists.intro ⟨t + 1, v, ms, c, ys, o, cp, out.length, out, S⟩ (Exists.intro [0, 1, 2, 3, 4] (And.intro ⟨⟨by simp only; omega, rfl, hB.up (by simp only; omega), fun _ s hs => ?_, hZ⟩, by simp only; omega⟩ ⟨rfl, rfl, rfl⟩))
      obtain ⟨p, hp, rfl⟩ := List.mem_iff_getElem.1 hs
      exact hS p hp (by omega)
  have h3 := of_decide_eq_false h3
  have ht2 : t = 2 := by simp only at h3; omega
  subst ht2
  have hSS := hS (by decide)
  have hnv := hB.bi.hv
  have hsum := hB.ts.chain.sum
  refine VLoop.mk Nat (fun i => [(0, .raw (.slice la L.length lc)), (7, .ptr 1 0), (8, .ptr 4 0), (9, iv out.length), (17, iv (psum v i)), (18, iv i)])
    (fun _ => [.heap h, .cells (vcells v ++ [.mp 2, .sl 3 o out.length cp]) T_causal_Buffer, smap ms c, .arr ys T_shadow_Shadow, .cells (vcells v) T_vec_Vec]) (fun i => i ≤ 7) (fun i => 7 - i) 0 [0, 1, 2, 3, 4] ⟨Nat.zero_le _, rfl, rfl, rfl⟩ ?_
  rintro i hi g3
  refine And.intro (fun h4 => ?_) (fun h4 => ?_)
  · have h4 := of_decide_eq_true h4
    have hi7 : 0 ≤ (i : Int) ∧ (i : Int) < 7 := ⟨Int.natCast_nonneg i, h4⟩
    have hwi : IntKind.i64.wrap ((i : Int) + 1) = ((i + 1 : Nat) : Int) := wrap64 (by omega)
    have hps := psum_le hnv i (by omega)
    have hvi := hnv i (by omega)
    have hwa : IntKind.i64.wrap (psum v i + v (i : Int).toNat) = psum v (i + 1) := by rw [Int.toNat_natCast, wrap64 (by omega)]; rfl
    refine And.intro hi7 (Exists.intro _ (And.intro (by rw [Nat.zero_add]; exact vcells_getA v hi7) ?_))
    refine Exists.intro _ (And.intro hwa ?_)
    refine Exists.intro _ (And.intro hwi ?_)
    exact Exists.intro (i + 1) (Exists.intro [0, 1, 2, 3, 4] (And.intro ⟨by omega, by omega⟩ ⟨rfl, rfl, rfl⟩))
  have h4 := of_decide_eq_false h4
  have hi7 : i = 7 := by omega
  subst hi7
  refine VLoop.mk Nat (fun i => [(0, .raw (.slice la L.length lc)), (7, .ptr 1 0), (8, .ptr 4 0), (9, iv out.length), (17, iv (psum v 7)), (19, iv i)])
    (fun _ => [.heap h, .cells (vcells v ++ [.mp 2, .sl 3 o out.length cp]) T_causal_Buffer, smap ms c, .arr ys T_shadow_Shadow, .cells (vcells v) T_vec_Vec]) (fun i => i ≤ L.length) (fun i => L.length - i) 0 [0, 1, 2, 3, 4] ⟨Nat.zero_le _, rfl, rfl, rfl⟩ ?_
  rintro i hi g4
  refine And.intro (fun h5 => ?_) (fun h5 => ?_)
  · have h5 := of_decide_eq_true h5
    have hil : i < L.length := by omega
    have hwi : IntKind.i64.wrap ((i : Int) + 1) = ((i + 1 : Nat) : Int) := wrap64 (by omega)
    have hni : (0 : Int) ≤ (i : Int) ∧ (i : Int) < (L.length : Nat) := ⟨Int.natCast_nonneg i, by omega⟩
    have hla := (HL (by omega)).1
    have hh := (HL (by omega)).2.1
    have ci := (HL (by omega)).2.2 i hil
    subst hla
    have hgr : readyB L[i] v = true → goodS L[i] = false := fun hr => by
      cases hg : goodS L[i] with
      | false => rfl
      | true => rw [hB.ts.stuck hB.bi hL1 (hSS _ (List.getElem_mem hil)) (List.getElem_mem hil) hg] at hr; cases hr
    refine And.intro hni ?_
    refine Exists.intro 0 (Exists.intro xL (Exists.intro eL (Exists.intro fL (And.intro hh (Exists.intro _ (And.intro (by rw [Int.toNat_natCast]; exact ci) ?_))))))
    refine VCall.mk [] (s_shadow_Ready L[i] v) ⟨rfl, rfl, rfl⟩ ?_
    rintro _ _ ⟨rfl, rfl⟩
    refine And.intro (fun c1 => ?_) (fun c1 => ?_)
    · refine And.intro hni ?_
      refine Exists.intro 0 (Exists.intro xL (Exists.intro eL (Exists.intro fL (And.intro hh (Exists.intro _ (And.intro (by rw [Int.toNat_natCast]; exact ci) ?_))))))
      refine VCall.mk [0] (s_shadow_Good h hu L[i] (hZ _ (hSS _ (List.getElem_mem hil)))) ⟨rfl, rfl, rfl⟩ ?_
      rintro _ _ ⟨rfl, rfl⟩
      refine And.intro (fun c2 => absurd (show goodS L[i] = true from c2) (by rw [hgr c1]; simp)) (fun _ => ?_)
      refine Exists.intro _ (And.intro hwi ?_)
      exact Exists.intro (i + 1) (Exists.intro [0, 1, 2, 3, 4] (And.intro ⟨by omega, by omega⟩ ⟨rfl, rfl, rfl⟩))
    · refine Exists.intro _ (And.intro hwi ?_)
      exact Exists.intro (i + 1) (Exists.intro [0, 1, 2, 3, 4] (And.intro ⟨by omega, by omega⟩ ⟨rfl, rfl, rfl⟩))
  · have h5 := of_decide_eq_false h5
    refine VCall.mk [1, 2, 3] (s_Have v ms c ys o out.length cp) ⟨rfl, rfl, rfl⟩ ?_
    rintro _ _ ⟨rfl, rfl⟩
    have hs7 : (out.length : Int) = psum v 7 := by rw [psum7]; exact hsum
    have hall := hB.ts.chain.all
    refine And.intro rfl ?_
    refine And.intro (fun c1 => ?_) (fun c1 => absurd c1 (by simp))
    refine And.intro (fun c2 => ?_) (fun c2 => absurd hs7 (of_decide_eq_false c2))
    refine VCall.mk [1, 2, 3] (s_Behind v vz ms c ys o cp out hB.row (by have := hB.cnt; omega)) ⟨rfl, rfl, rfl⟩ ?_
    rintro _ _ ⟨zs5, o5, cp5, rfl, hz5, rfl⟩
    exact VRet.mk [0] (bv (decide (((lacks vz out).length : Int) = (out.length : Int)))) [.heap h] ⟨rfl, rfl, rfl⟩ ⟨by rw [hall]; simp, rfl⟩
end Go.Proofs

namespace Go.Proofs
open Go Go.V Go.Lib
set_option maxRecDepth 100000
set_option linter.unusedVariables false

/-! ### The plain law of the document's own buffer: a sorted row beside the table -/
def ltD (a b : SH) : Prop := a.rep < b.rep ∨ (a.rep = b.rep ∧ a.n < b.n)
theorem ltD.trans {a b c : SH} (h1 : ltD a b) (h2 : ltD b c) : ltD a c := by simp only [ltD] at *; omega
structure Rel (ms : SM) (hd : List SH) : Prop where
  to : ∀ s, s ∈ hd → MP.get ms (s.rep, s.n) = some s
  from' : ∀ d s, MP.get ms d = some s → s ∈ hd
  sorted : hd.Pairwise ltD
theorem Rel.nil : Rel [] [] := ⟨fun s h => by simp at h, fun d s h => by simp [get_nil] at h, .nil⟩
theorem ltD_dot {a b : SH} (h : ltD a b) : (a.rep, a.n) ≠ (b.rep, b.n) := by
  intro e
  have e1 : a.rep = b.rep := congrArg Prod.fst e
  have e2 : a.n = b.n := congrArg Prod.snd e
  simp only [ltD] at h; omega
theorem Rel.put {ms : SM} {hd : List SH} (h : Rel ms hd) {s : SH} (hn : MP.get ms (s.rep, s.n) = none) {c p : Nat} (h1 : ∀ i (hi : i < hd.length), i < p → ltD hd[i] s) (h2 : ∀ (hi : p < hd.length), ¬ ltD hd[p] s) :
    Rel (MP.put ms (s.rep, s.n) s c) (hd.take p ++ [s] ++ hd.drop p) := by
  have hne : ∀ x, x ∈ hd → (x.rep, x.n) ≠ (s.rep, s.n) := fun x hx e => by
    have := h.to x hx; rw [e, hn] at this; cases this
  have hmem : ∀ x, x ∈ hd.take p ++ [s] ++ hd.drop p ↔ x = s ∨ x ∈ hd := by
    intro x
    have : x ∈ hd ↔ x ∈ hd.take p ∨ x ∈ hd.drop p := by rw [← List.mem_append, List.take_append_drop]
    rw [this]; simp only [List.mem_append, List.mem_cons, List.not_mem_nil, or_false]
    constructor
    · rintro ((h | h) | h)
      · exact .inr (.inl h)
      · exact .inl h
      · exact .inr (.inr h)
    · rintro (h | h | h)
      · exact .inl (.inr h)
      · exact .inl (.inl h)
      · exact .inr h
  have hs := h.sorted
  rw [← List.take_append_drop p hd, List.pairwise_append] at hs
  obtain ⟨s1, s2, s3⟩ := hs
  have hlt : ∀ a, a ∈ hd.take p → ltD a s := by
    intro a ha
    obtain ⟨i, hi, rfl⟩ := List.mem_iff_getElem.1 ha
    rw [List.length_take] at hi
    rw [List.getElem_take]
    exact h1 i (by omega) (by omega)
  have hgt : ∀ b, b ∈ hd.drop p → ltD s b := by
    intro b hb
    by_cases hp : p < hd.length
    · have e := List.drop_eq_getElem_cons hp
      have hf : ltD s hd[p] := by
        have q1 := h2 hp
        have q2 := hne hd[p] (List.getElem_mem hp)
        simp only [ltD, ne_eq, Prod.mk.injEq] at *; omega
      rw [e] at hb s2
      rcases List.mem_cons.1 hb with rfl | hb
      · exact hf
      · exact hf.trans ((List.pairwise_cons.1 s2).1 b hb)
    · rw [List.drop_eq_nil_of_le (by omega)] at hb; simp at hb
  refine ⟨fun x hx => ?_, fun d x hx => ?_, ?_⟩
  · rw [get_put]
    rcases (hmem x).1 hx with rfl | hx
    · simp
    · rw [if_neg (hne x hx)]; exact h.to x hx
  · rw [get_put] at hx
    split at hx
    · cases hx; exact (hmem _).2 (.inl rfl)
    · exact (hmem x).2 (.inr (h.from' d x hx))
  · rw [List.pairwise_append, List.pairwise_append]
    refine ⟨⟨s1, by simp, fun a ha b hb => ?_⟩, s2, fun a ha b hb => ?_⟩
    · simp at hb; subst hb; exact hlt a ha
    · rcases List.mem_append.1 ha with ha | ha
      · exact s3 a ha b hb
      · simp at ha; subst ha; exact hgt b hb
theorem Rel.del {ms : SM} {hd : List SH} (h : Rel ms hd) (hk : ∀ d s, MP.get ms d = some s → d = (s.rep, s.n) ∧ goodS s = true) (nd : (ms.map (·.1)).Nodup) {i : Nat} (hi : i < hd.length) :
    Rel (MP.del ms (hd[i].rep, hd[i].n)) (hd.take i ++ hd.drop (i + 1)) := by
  have he : hd = hd.take i ++ hd[i] :: hd.drop (i + 1) := by rw [← List.drop_eq_getElem_cons hi, List.take_append_drop]
  have hs := h.sorted
  rw [he, List.pairwise_append, List.pairwise_cons] at hs
  obtain ⟨s1, ⟨s2, s3⟩, s4⟩ := hs
  have hne : ∀ x, x ∈ hd.take i ++ hd.drop (i + 1) → (x.rep, x.n) ≠ (hd[i].rep, hd[i].n) := by
    intro x hx
    rcases List.mem_append.1 hx with hx | hx
    · exact ltD_dot (s4 x hx _ List.mem_cons_self)
    · exact (ltD_dot (s2 x hx)).symm
  refine ⟨fun x hx => ?_, fun d x hx => ?_, ?_⟩
  · rw [get_del _ _ _ nd, if_neg (hne x hx)]
    refine h.to x ?_
    rw [he]
    rcases List.mem_append.1 hx with hx | hx
    · exact List.mem_append_left _ hx
    · exact List.mem_append_right _ (List.mem_cons_of_mem _ hx)
  · rw [get_del _ _ _ nd] at hx
    split at hx
    · cases hx
    · rename_i hd1
      have h1 := h.from' d x hx
      have h2 := (hk d x hx).1
      rw [he] at h1
      rcases List.mem_append.1 h1 with h1 | h1
      · exact List.mem_append_left _ h1
      · rcases List.mem_cons.1 h1 with h1 | h1
        · rw [h1] at h2; exact absurd h2 hd1
        · exact List.mem_append_right _ h1
  · rw [List.pairwise_append]
    exact ⟨s1, s3, fun a ha b hb => s4 a ha b (List.mem_cons_of_mem _ hb)⟩
theorem nextFrom_min {v : Nat → Int} {ms : SM} {s : SH} : ∀ {f i : Nat}, nextFrom v ms f i = some s → ∃ j, i ≤ j ∧ j < i + f ∧ MP.get ms ((j : Int), v j + 1) = some s ∧ ∀ j', i ≤ j' → j' < j → ∀ t, MP.get ms ((j' : Int), v j' + 1) = some t → readyB t v = false
  | 0, i, h => by simp [nextFrom] at h
  | f + 1, i, h => by
    rw [nextFrom] at h
    have rest : (∀ t, MP.get ms ((i : Int), v i + 1) = some t → readyB t v = false) → nextFrom v ms f (i + 1) = some s → ∃ j, i ≤ j ∧ j < i + (f + 1) ∧ MP.get ms ((j : Int), v j + 1) = some s ∧ ∀ j', i ≤ j' → j' < j → ∀ t, MP.get ms ((j' : Int), v j' + 1) = some t → readyB t v = false := fun h0 h => by
      obtain ⟨j, h1, h2, h3, h4⟩ := nextFrom_min h
      refine ⟨j, by omega, by omega, h3, fun j' g1 g2 => ?_⟩
      by_cases e : j' = i
      · subst e; exact h0
      · exact h4 j' (by omega) g2
    cases hg : MP.get ms ((i : Int), v i + 1) with
    | none => rw [hg] at h; exact rest (fun t ht => by rw [hg] at ht; cases ht) h
    | some t =>
      rw [hg] at h
      simp only at h
      split at h
      · rename_i hr; cases h; exact ⟨i, Nat.le_refl _, by omega, hg, fun j' _ _ => by omega⟩
      · rename_i hr; exact rest (fun u hu => by rw [hg] at hu; cases hu; simpa using hr) h
theorem BI.dot {v : Nat → Int} {ms : SM} {c : Nat} (hb : BI v ms c) {s : SH} (hs : MP.get ms (s.rep, s.n) = some s) (hr : readyB s v = true) : MP.get ms ((s.rep.toNat : Int), v s.rep.toNat + 1) = some s ∧ s.n = v s.rep.toNat + 1 ∧ 0 ≤ s.rep ∧ s.rep < 7 := by
  have hg := (hb.hk _ _ hs).2
  have hn := ready_dot hg hr
  have h1 := (goodS_iff hg).1
  refine ⟨?_, hn, h1⟩
  rw [← hn, Int.toNat_of_nonneg h1.1]; exact hs
theorem Rel.next {v : Nat → Int} {ms : SM} {c : Nat} {hd : List SH} (h : Rel ms hd) (hb : BI v ms c) {i : Nat} (hi : i < hd.length) (hr : readyB hd[i] v = true) (hno : ∀ j (hj : j < hd.length), j < i → readyB hd[j] v = false) : nextS v ms = some hd[i] := by
  obtain ⟨q1, q2, q3, q4⟩ := hb.dot (h.to _ (List.getElem_mem hi)) hr
  cases hn : nextS v ms with
  | none =>
    have := nextFrom_none hn hd[i].rep.toNat (by omega) (by omega) _ q1
    rw [hr] at this; cases this
  | some t =>
    obtain ⟨r1, r2, r3, r4, _⟩ := hb.next hn
    obtain ⟨k, hk, hkt⟩ := List.mem_iff_getElem.1 (h.from' _ _ r1)
    rcases Nat.lt_trichotomy k i with e | e | e
    · have := hno k hk e; rw [hkt, r3] at this; cases this
    · subst e; rw [hkt]
    · exfalso
      have hlt := (List.pairwise_iff_getElem.1 h.sorted) i k hi hk e
      rw [hkt] at hlt
      have hrep := (goodS_iff (hb.hk _ _ r1).2).1
      rcases hlt with hl | ⟨hl1, hl2⟩
      · obtain ⟨j, _, j2, j3, j4⟩ := nextFrom_min hn
        have e1 := (hb.hk _ _ j3).1
        have e2 : (j : Int) = t.rep := congrArg Prod.fst e1
        have := j4 hd[i].rep.toNat (by omega) (by omega) _ q1
        rw [hr] at this; cases this
      · have : hd[i].rep.toNat = t.rep.toNat := by rw [hl1]
        rw [← this] at r4; omega
theorem Rel.none {v : Nat → Int} {ms : SM} {c : Nat} {hd : List SH} (h : Rel ms hd) (hb : BI v ms c) (hno : ∀ j (hj : j < hd.length), readyB hd[j] v = false) : nextS v ms = none := by
  cases hn : nextS v ms with
  | none => rfl
  | some t =>
    obtain ⟨r1, _, r3, _⟩ := hb.next hn
    obtain ⟨k, hk, hkt⟩ := List.mem_iff_getElem.1 (h.from' _ _ r1)
    have := hno k hk; rw [hkt, r3] at this; cases this
/-- What is given out does not hang on who gives it out. -/
theorem Dr.det : ∀ {l : List SH} {v0 v : Nat → Int} {ms0 ms : SM}, Dr v0 ms0 l v ms → nextS v ms = .none → ∀ {l' : List SH} {v' : Nat → Int} {ms' : SM}, Dr v0 ms0 l' v' ms' → nextS v' ms' = .none → l' = l ∧ v' = v ∧ ms' = ms := by
  intro l
  induction l with
  | nil =>
    intro v0 v ms0 ms h hn l' v' ms' h' hn'
    cases hs : nextS v0 ms0 with
    | none => obtain ⟨_, rfl, rfl⟩ := h.none hs; exact h'.none hs
    | some s => obtain ⟨l1, e, _⟩ := h.head hs hn; cases e
  | cons x l ih =>
    intro v0 v ms0 ms h hn l' v' ms' h' hn'
    cases hs : nextS v0 ms0 with
    | none => obtain ⟨e, _⟩ := h.none hs; cases e
    | some s =>
      obtain ⟨l1, e, h1⟩ := h.head hs hn
      obtain ⟨l2, rfl, h2⟩ := h'.head hs hn'
      cases e
      obtain ⟨rfl, rfl, rfl⟩ := ih h1 hn h2 hn'
      exact ⟨rfl, rfl, rfl⟩
theorem uniq_row : ∀ {a b : List SH}, a.Pairwise (fun x y => ¬ cfS y x < 0) → a.Nodup → b.Pairwise ltD → (∀ x, x ∈ a ↔ x ∈ b) → a = b
  | [], [], _, _, _, _ => rfl
  | [], y :: b, _, _, _, h => by have := (h y).2 List.mem_cons_self; simp at this
  | x :: a, [], _, _, _, h => by have := (h x).1 List.mem_cons_self; simp at this
  | x :: a, y :: b, h1, h2, h3, h => by
    rw [List.pairwise_cons] at h1 h3
    rw [List.nodup_cons] at h2
    have lt_iff : ∀ s t : SH, cfS s t < 0 ↔ ltD s t := fun s t => cmpD_lt
    have hxy : x = y := by
      rcases List.mem_cons.1 ((h x).1 List.mem_cons_self) with e | hx
      · exact e
      · rcases List.mem_cons.1 ((h y).2 List.mem_cons_self) with e | hy
        · exact e.symm
        · exact absurd ((lt_iff y x).2 (h3.1 x hx)) (h1.1 y hy)
    subst hxy
    have hb : x ∉ b := fun hx => by have := h3.1 x hx; simp only [ltD] at this; omega
    rw [uniq_row h1.2 h2.2 h3.2 fun z => ?_]
    constructor
    · intro hz
      rcases List.mem_cons.1 ((h z).1 (List.mem_cons_of_mem _ hz)) with rfl | hz'
      · exact absurd hz h2.1
      · exact hz'
    · intro hz
      rcases List.mem_cons.1 ((h z).2 (List.mem_cons_of_mem _ hz)) with rfl | hz'
      · exact absurd hz hb
      · exact hz'
theorem get_at {K V : Type} [DecidableEq K] : ∀ {ms : List (K × V × Nat)}, (ms.map (·.1)).Nodup → ∀ {x : K × V × Nat}, x ∈ ms → MP.get ms x.1 = some x.2.1
  | [], _, x, h => by simp at h
  | y :: ms, hn, x, h => by
    simp only [List.map_cons, List.nodup_cons] at hn
    rw [get_cons]
    rcases List.mem_cons.1 h with rfl | h
    · simp
    · have : x.1 ≠ y.1 := fun e => hn.1 (e ▸ List.mem_map.2 ⟨x, h, rfl⟩)
      rw [if_neg this]; exact get_at hn.2 h
theorem at_get {K V : Type} [DecidableEq K] : ∀ {ms : List (K × V × Nat)} {k : K} {v : V}, MP.get ms k = some v → ∃ x, x ∈ ms ∧ x.2.1 = v
  | [], k, v, h => by simp [get_nil] at h
  | y :: ms, k, v, h => by
    rw [get_cons] at h
    split at h
    · cases h; exact ⟨y, List.mem_cons_self, rfl⟩
    · obtain ⟨x, h1, h2⟩ := at_get h; exact ⟨x, List.mem_cons_of_mem _ h1, h2⟩
theorem Rel.held {v : Nat → Int} {ms : SM} {c : Nat} {hd d : List SH} (h : Rel ms hd) (hb : BI v ms c) (hpl : ∀ s, s ∈ hd → Plain7 s) (hp : d.Perm (valsOf ms)) (hs : d.Pairwise (fun a b => ¬ cfS b a < 0)) : d = hd := by
  have hno : ∀ x, x ∈ ms → normS x.2.1 = x.2.1 := fun x hx => by
    have := hpl _ (h.from' _ _ (get_at hb.nd hx))
    unfold normS; rw [← this]
  have hmem : ∀ x, x ∈ valsOf ms ↔ x ∈ hd := by
    intro x
    rw [valsOf, List.mem_map]
    constructor
    · rintro ⟨e, he, rfl⟩
      rw [hno e he]; exact h.from' _ _ (get_at hb.nd he)
    · intro hx
      obtain ⟨e, he, h1⟩ := at_get (h.to x hx)
      exact ⟨e, he, by rw [hno e he, h1]⟩
  have hnd : (valsOf ms).Nodup := by
    have h1 : (ms.map (·.1)).Pairwise (· ≠ ·) := hb.nd
    rw [List.pairwise_map] at h1
    rw [valsOf, List.nodup_iff_pairwise_ne, List.pairwise_map]
    refine h1.imp_of_mem fun {a b} ha hb' hab e => hab ?_
    rw [hno a ha, hno b hb'] at e
    have e1 := (hb.hk _ _ (get_at hb.nd ha)).1
    have e2 := (hb.hk _ _ (get_at hb.nd hb')).1
    rw [e1, e2, e]
  exact uniq_row hs (hp.nodup_iff.2 hnd) h.sorted fun x => by rw [hp.mem_iff, hmem]
end Go.Proofs

namespace Go.Proofs
open Go Go.V Go.Lib
set_option maxRecDepth 100000
set_option linter.unusedVariables false

/-! ### The document's own clocks and dots -/
theorem s_ref_May (r n : Int) : Ctr Tryd.prog F_rostrumref7_May [.agg (dcells r n)] [] (fun v H => v = bv (isDot r n) ∧ H = []) := by
  refine i_rostrumref7_May.spec follows ?_
  refine And.intro (fun h1 => ?_) (fun h1 => ?_)
  · refine And.intro (fun h2 => ?_) (fun h2 => ?_)
    · refine And.intro (fun h3 => ?_) (fun h3 => ?_)
      · refine VRet.mk [] (bv _) [] ⟨rfl, rfl, rfl⟩ ⟨?_, rfl⟩
        show bv _ = bv _
        have h1 := of_decide_eq_true h1; have h2 := of_decide_eq_true h2; have h3 := of_decide_eq_true h3
        simp [isDot, isRep, h1, h2, h3]
      · refine VRet.mk [] (bv _) [] ⟨rfl, rfl, rfl⟩ ⟨?_, rfl⟩
        show bv _ = bv _
        have h3 := of_decide_eq_false h3
        simp [isDot, isRep, h3]
    · refine VRet.mk [] (bv _) [] ⟨rfl, rfl, rfl⟩ ⟨?_, rfl⟩
      show bv _ = bv _
      have h2 := of_decide_eq_false h2
      simp [isDot, isRep, h2]
  · refine VRet.mk [] (bv _) [] ⟨rfl, rfl, rfl⟩ ⟨?_, rfl⟩
    show bv _ = bv _
    have h1 := of_decide_eq_false h1
    simp [isDot, isRep, h1]
theorem s_ref_Has (v : Nat → Int) (r n : Int) : Ctr Tryd.prog F_rostrumref7_Has [.agg (vcells v), .agg (dcells r n)] [] (fun x H => x = bv (has v r n) ∧ H = []) := by
  refine i_rostrumref7_Has.spec follows ?_
  refine And.intro (fun h1 => ?_) (fun h1 => ?_)
  · refine And.intro (fun h2 => ?_) (fun h2 => ?_)
    · have hr : 0 ≤ r ∧ r < 7 := ⟨of_decide_eq_true h1, of_decide_eq_true h2⟩
      refine And.intro (fun h3 => ?_) (fun h3 => ?_)
      · refine And.intro hr (Exists.intro _ (And.intro (vcells_get' v hr []) ?_))
        refine VRet.mk [] (bv _) [] ⟨rfl, rfl, rfl⟩ ⟨?_, rfl⟩
        show bv _ = bv _
        have h3 := of_decide_eq_true h3
        simp [has, isRep, hr, h3]
      · refine VRet.mk [] (bv _) [] ⟨rfl, rfl, rfl⟩ ⟨?_, rfl⟩
        show bv _ = bv _
        have h3 := of_decide_eq_false h3
        simp [has, isRep, h3]
    · refine VRet.mk [] (bv _) [] ⟨rfl, rfl, rfl⟩ ⟨?_, rfl⟩
      show bv _ = bv _
      have h2 := of_decide_eq_false h2
      simp [has, isRep, h2]
  · refine VRet.mk [] (bv _) [] ⟨rfl, rfl, rfl⟩ ⟨?_, rfl⟩
    show bv _ = bv _
    have h1 := of_decide_eq_false h1
    simp [has, isRep, h1]
theorem s_ref_Le (v w : Nat → Int) : Ctr Tryd.prog F_rostrumref7_Le [.agg (vcells v), .agg (vcells w)] [] (fun x H => x = bv (leB v w) ∧ H = []) := by
  refine i_rostrumref7_Le.spec follows ?_
  refine VLoop.mk Nat (fun i => [(2, .ptr 0 0), (3, .ptr 1 0), (5, iv i)]) (fun i => [.cells (vcells v) T_rostrumref7_Vec, .cells (vcells w) T_rostrumref7_Vec]) (fun i => i ≤ 7 ∧ ∀ j, j < i → v j ≤ w j) (fun i => 7 - i) 0 [0, 1]
    ⟨⟨by omega, fun j hj => by omega⟩, rfl, rfl, rfl⟩ ?_
  rintro i ⟨hi, hd⟩ g
  refine And.intro (fun h => ?_) (fun h => ?_)
  · have h := of_decide_eq_true h
    have hi7 : 0 ≤ (i : Int) ∧ (i : Int) < 7 := ⟨by omega, h⟩
    have hw : IntKind.i64.wrap ((i : Int) + 1) = ((i + 1 : Nat) : Int) := wrap64 (by omega)
    refine And.intro hi7 (Exists.intro _ (And.intro (vcells_get' v hi7 []) ?_))
    refine And.intro hi7 (Exists.intro _ (And.intro (vcells_get' w hi7 []) ?_))
    refine And.intro (fun h2 => ?_) (fun h2 => ?_)
    · have h2 := of_decide_eq_true h2
      refine VRet.mk [] (bv false) [] ⟨rfl, rfl, rfl⟩ ⟨?_, rfl⟩
      have : leB v w = false := by
        rw [Bool.eq_false_iff, Ne, leB_iff]
        intro hh
        have := hh i (by omega)
        rw [Int.toNat_natCast] at h2
        omega
      rw [this]
    · have h2 := of_decide_eq_false h2
      refine Exists.intro _ (And.intro hw ?_)
      refine Exists.intro (i + 1) (Exists.intro [0, 1] (And.intro ⟨⟨by omega, fun j hj => ?_⟩, by omega⟩ ⟨rfl, rfl, rfl⟩))
      rw [Int.toNat_natCast] at h2
      by_cases e : j = i
      · subst e; omega
      · exact hd j (by omega)
  · have h := of_decide_eq_false h
    have h7 : i = 7 := by omega
    subst h7
    refine VRet.mk [] (bv true) [] ⟨rfl, rfl, rfl⟩ ⟨?_, rfl⟩
    rw [leB_iff.2 hd]
theorem s_ref_Vgood (v : Nat → Int) : Ctr Tryd.prog F_rostrumref7_Good [.agg (vcells v)] [] (fun x H => x = bv (vgoodB v) ∧ H = []) := by
  refine i_rostrumref7_Good.spec follows ?_
  refine VLoop.mk Nat (fun i => [(1, .ptr 0 0), (3, iv i)]) (fun i => [.cells (vcells v) T_rostrumref7_Vec]) (fun i => i ≤ 7 ∧ ∀ j, j < i → 0 ≤ v j ∧ v j ≤ 1099511627776) (fun i => 7 - i) 0 [0]
    ⟨⟨by omega, fun j hj => by omega⟩, rfl, rfl, rfl⟩ ?_
  rintro i ⟨hi, hd⟩ g
  have bad : ∀ k, k < 7 → ¬ (0 ≤ v k ∧ v k ≤ 1099511627776) → vgoodB v = false := by
    intro k hk hn
    rw [Bool.eq_false_iff, Ne, vgoodB_iff]
    exact fun hh => hn (hh k hk)
  refine And.intro (fun h => ?_) (fun h => ?_)
  · have h := of_decide_eq_true h
    have hi7 : 0 ≤ (i : Int) ∧ (i : Int) < 7 := ⟨by omega, h⟩
    have hw : IntKind.i64.wrap ((i : Int) + 1) = ((i + 1 : Nat) : Int) := wrap64 (by omega)
    refine And.intro hi7 (Exists.intro _ (And.intro (vcells_get' v hi7 []) ?_))
    refine And.intro (fun h1 => ?_) (fun h1 => ?_)
    · have h1 := of_decide_eq_false h1
      refine And.intro hi7 (Exists.intro _ (And.intro (vcells_get' v hi7 []) ?_))
      refine And.intro (fun h2 => ?_) (fun h2 => ?_)
      · have h2 := of_decide_eq_true h2
        refine VRet.mk [] (bv false) [] ⟨rfl, rfl, rfl⟩ ⟨?_, rfl⟩
        rw [Int.toNat_natCast] at h2
        rw [bad i (by omega) (by omega)]
      · have h2 := of_decide_eq_false h2
        refine Exists.intro _ (And.intro hw ?_)
        refine Exists.intro (i + 1) (Exists.intro [0] (And.intro ⟨⟨by omega, fun j hj => ?_⟩, by omega⟩ ⟨rfl, rfl, rfl⟩))
        by_cases hji : j = i
        · subst hji; rw [Int.toNat_natCast] at h1 h2; omega
        · exact hd j (by omega)
    · have h1 := of_decide_eq_true h1
      refine VRet.mk [] (bv false) [] ⟨rfl, rfl, rfl⟩ ⟨?_, rfl⟩
      rw [Int.toNat_natCast] at h1
      rw [bad i (by omega) (by omega)]
  · have h := of_decide_eq_false h
    have h7 : i = 7 := by omega
    subst h7
    refine VRet.mk [] (bv true) [] ⟨rfl, rfl, rfl⟩ ⟨?_, rfl⟩
    rw [vgoodB_iff.2 hd]
def ltB (a b c d : Int) : Bool := decide (a < c) || (decide (a = c) && decide (b < d))
theorem ltB_iff {x y : SH} : ltB x.rep x.n y.rep y.n = true ↔ ltD x y := by simp [ltB, ltD]
theorem s_ref_Less (a b c d : Int) : Ctr Tryd.prog F_rostrumref7_Less [.agg (dcells a b), .agg (dcells c d)] [] (fun x H => x = bv (ltB a b c d) ∧ H = []) := by
  refine i_rostrumref7_Less.spec follows ?_
  refine And.intro (fun h1 => ?_) (fun h1 => ?_)
  · refine And.intro (fun h2 => ?_) (fun h2 => ?_)
    · refine VRet.mk [] (bv _) [] ⟨rfl, rfl, rfl⟩ ⟨?_, rfl⟩
      show bv _ = bv _
      rw [ltB, show decide (a < c) = false from h1, show decide (a = c) = true from h2]; rfl
    · refine VRet.mk [] (bv _) [] ⟨rfl, rfl, rfl⟩ ⟨?_, rfl⟩
      show bv _ = bv _
      rw [ltB, show decide (a < c) = false from h1, show decide (a = c) = false from h2]; rfl
  · refine VRet.mk [] (bv _) [] ⟨rfl, rfl, rfl⟩ ⟨?_, rfl⟩
    show bv _ = bv _
    rw [ltB, show decide (a < c) = true from h1]; rfl
theorem s_ref_Ready (s : SH) (v : Nat → Int) : Ctr Tryd.prog F_rostrumref13_Ready [.agg (shcells s), .agg (vcells v)] [] (fun x H => x = bv (readyB s v) ∧ H = []) := by
  refine i_rostrumref13_Ready.spec follows ?_
  refine VCall.mk [] (s_ref_Has v s.rep s.n) ⟨rfl, rfl, rfl⟩ ?_
  rintro _ _ ⟨rfl, rfl⟩
  refine And.intro (fun h => ?_) (fun h => ?_)
  · refine VCall.mk [] (s_ref_Le s.seen v) ⟨rfl, rfl, rfl⟩ ?_
    rintro _ _ ⟨rfl, rfl⟩
    refine VRet.mk [] (bv _) [] ⟨rfl, rfl, rfl⟩ ⟨?_, rfl⟩
    have h : has v s.rep s.n = false := by simpa using h
    show bv _ = bv _
    rw [readyB, h]; rfl
  · refine VRet.mk [] (bv _) [] ⟨rfl, rfl, rfl⟩ ⟨?_, rfl⟩
    have h : has v s.rep s.n = true := by simpa using h
    show bv _ = bv _
    rw [readyB, h]; rfl
end Go.Proofs

namespace Go.Proofs
open Go Go.V Go.Lib
set_option maxRecDepth 100000
set_option linter.unusedVariables false

theorem RowG.snoc {α : Type} {cl : α → List Value} {k : Nat} {xs zs : List Value} {o c o' cp n : Nat} {d : List α} {x : α} (h : RowG cl k xs o c d) (hn : n = d.length) (h1 : n + 1 ≤ cp) (h2 : o' + cp * k ≤ zs.length) (h3 : (zs.drop o').take ((n + 1) * k) = (xs.drop o).take (n * k) ++ cl x) :
    RowG cl k zs o' cp (d ++ [x]) := by
  subst hn
  refine ⟨by simpa using h1, h2, ?_⟩
  rw [List.length_append, List.flatMap_append]
  rw [h.2.2] at h3
  simpa using h3
/-! ### A text's runes one by one -/
def decs (s : ByteArray) : Nat → Nat → List (Nat × Nat × Nat)
  | 0, _ => []
  | f + 1, p => if p < s.size then (p, (Utf8.decode s p).1, (Utf8.decode s p).2) :: decs s f (p + (Utf8.decode s p).2) else []
theorem runesFrom_decs (s : ByteArray) : ∀ f p, runesFrom s f p = bif (decs s f p).all (fun e => otherB (e.2.1 : Int) (decide ((e.1 : Int) = 0))) then some (decs s f p).length else none
  | 0, p => rfl
  | f + 1, p => by
    rw [runesFrom, decs]
    by_cases hp : p < s.size
    · rw [if_pos hp, if_pos hp, runesFrom_decs s f, List.all_cons, List.length_cons]
      by_cases h : otherB ((Utf8.decode s p).1 : Int) (decide ((p : Int) = 0)) = true
      · rw [if_pos h, h, Bool.true_and]
        cases (decs s f (p + (Utf8.decode s p).2)).all (fun e => otherB (e.2.1 : Int) (decide ((e.1 : Int) = 0))) <;> rfl
      · rw [if_neg h, Bool.eq_false_iff.2 h]; rfl
    · rw [if_neg hp, if_neg hp]; rfl
theorem decs_ge (s : ByteArray) : ∀ f p e, e ∈ decs s f p → p ≤ e.1
  | 0, p, e, h => by simp [decs] at h
  | f + 1, p, e, h => by
    rw [decs] at h
    split at h
    · rcases List.mem_cons.1 h with rfl | h
      · exact Nat.le_refl _
      · exact Nat.le_trans (Nat.le_add_right _ _) (decs_ge s f _ e h)
    · simp at h
theorem decs_rune (s : ByteArray) : ∀ f p e, e ∈ decs s f p → e.2.1 ≤ 2147483647
  | 0, p, e, h => by simp [decs] at h
  | f + 1, p, e, h => by
    rw [decs] at h
    split at h
    · rcases List.mem_cons.1 h with rfl | h
      · exact of_decide_eq_true (decide_eq_true (decode_le s p))
      · exact decs_rune s f _ e h
    · simp at h
abbrev rl (s : ByteArray) : List (Nat × Nat × Nat) := decs s (s.size + 1) 0
/-- May a rune stand in a name? -/
def partB (c : Int) : Bool := isLetterU c || (isDigitU c || decide (c = 45))
theorem rl_tail (s : ByteArray) {e : Nat × Nat × Nat} {D : List (Nat × Nat × Nat)} (h : rl s = e :: D) : e.1 = 0 ∧ ∀ x, x ∈ D → 0 < x.1 := by
  unfold rl at h
  rw [decs] at h
  split at h
  · rename_i hp
    injection h with h1 h2
    subst h1
    refine ⟨rfl, fun x hx => ?_⟩
    rw [← h2] at hx
    have := decs_ge s _ _ x hx
    have := decode_width_pos s 0 hp
    omega
  · cases h
def headB : List (Nat × Nat × Nat) → Bool
  | [] => false
  | e :: _ => isLetterU (e.2.1 : Int)
/-- The document's own words for a name. -/
def nameR (s : ByteArray) : Bool := decide (1 ≤ (rl s).length) && (decide ((rl s).length ≤ 20) && ((rl s).all fun e => partB (e.2.1 : Int)) && headB (rl s))
theorem goodName_eq (s : ByteArray) : goodName s = nameR s := by
  rw [goodName, runesFrom_decs, nameR]
  cases h : rl s with
  | nil =>
    have h : decs s (s.size + 1) 0 = [] := h
    rw [h]; rfl
  | cons e D =>
    obtain ⟨h0, hD⟩ := rl_tail s h
    have h : decs s (s.size + 1) 0 = e :: D := h
    rw [h]
    have e1 : (List.all D fun x => otherB (x.2.1 : Int) (decide ((x.1 : Int) = 0))) = D.all fun x => partB (x.2.1 : Int) := by
      rw [Bool.eq_iff_iff, List.all_eq_true, List.all_eq_true]
      refine forall_congr' fun x => forall_congr' fun hx => ?_
      have : ¬ x.1 = 0 := by have := hD x hx; omega
      simp [otherB, partB, this]
    simp only [List.all_cons, e1, h0, headB]
    cases hl : isLetterU (e.2.1 : Int)
    · simp [otherB, hl]
    · cases hp : (D.all fun x => partB (x.2.1 : Int))
      · simp [otherB, partB, hl]
      · simp [otherB, partB, hl]
        rw [Bool.eq_iff_iff]; simp; omega
theorem part_bad : partB 65533 = false := by decide +kernel
def i32cl (e : Nat × Nat × Nat) : List Value := [.int .i32 (e.2.1 : Int)]
def atcl (n : Nat) : List Value := [.int .i64 (n : Int)]
structure RNX where
  p : Nat
  n : Nat
  D : List (Nat × Nat × Nat)
  xs : List Value
  o1 : Nat
  c1 : Nat
  ys : List Value
  o2 : Nat
  c2 : Nat
theorem s_ref_Runes (s : ByteArray) (hs : s.size ≤ 1000) : Ctr Tryd.prog F_rostrumref1_Runes [.raw (.string s)] []
    (fun x H => ∃ xs o1 c1 ys o2 c2, x = .tup [.sl 0 o1 (rl s).length c1, .sl 1 o2 ((rl s).length + 1) c2] ∧ H = [.arr xs T_int32, .arr ys T_int] ∧ RowG i32cl 1 xs o1 c1 (rl s) ∧ RowG atcl 1 ys o2 c2 ((rl s).map (·.1) ++ [s.size])) := by
  refine i_rostrumref1_Runes.spec follows ?_
  refine VLoop.nil T_int32 [4] [] ⟨rfl, rfl⟩ ?_
  refine VLoop.nil T_int [5] [] ⟨rfl, rfl⟩ ?_
  refine VLoop.mk RNX (fun x => [(0, .raw (.string s)), (4, .sl 1 x.o1 x.n x.c1), (5, .sl 2 x.o2 x.n x.c2), (9, .ptr 0 0)]) (fun x => [.siter s x.p, .arr x.xs T_int32, .arr x.ys T_int])
    (fun x => x.n = x.D.length ∧ x.n ≤ x.p ∧ (x.p < s.size ∨ x.n ≤ s.size) ∧ rl s = x.D ++ decs s (s.size + 1 - x.n) x.p ∧ RowG i32cl 1 x.xs x.o1 x.c1 x.D ∧ RowG atcl 1 x.ys x.o2 x.c2 (x.D.map (·.1))) (fun x => s.size - x.p) ⟨0, 0, [], [], 0, 0, [], 0, 0⟩ [0, 1, 2]
    ⟨⟨rfl, Nat.le_refl _, .inr (Nat.zero_le _), rfl, ⟨Nat.le_refl _, by simp, by simp⟩, ⟨Nat.le_refl _, by simp, by simp⟩⟩, rfl, rfl, rfl⟩ ?_
  rintro ⟨p, n, D, xs, o1, c1, ys, o2, c2⟩ ⟨hn, hnp, hns, hr, h1, h2⟩ g
  simp only at hn hnp hns hr h1 h2
  refine And.intro (fun hp c wd hd => ?_) (fun hp => ?_)
  · simp only at hp hd
    have hc : c ≤ 2147483647 := by have := decide_eq_true (decode_le s p); rw [hd] at this; exact of_decide_eq_true this
    have hw1 : 1 ≤ wd := by have := decode_width_pos s p hp; rw [hd] at this; exact this
    have hf : s.size + 1 - n = (s.size - n) + 1 := by omega
    rw [hf, decs, if_pos hp, hd] at hr
    refine And.intro ⟨⟨by rw [hn]; exact h1.1, h1.2.1, rfl⟩, ⟨rfl, rfl⟩, show (n + 1) * 4 ≤ 1099511627776 by omega⟩ ?_
    intro xs' o1' c1' hz1
    refine And.intro ⟨⟨by have := h2.1; rw [List.length_map] at this; rw [hn]; exact this, h2.2.1, rfl⟩, ⟨rfl, rfl⟩, show (n + 1) * 8 ≤ 1099511627776 by omega⟩ ?_
    intro ys' o2' c2' hz2
    refine Exists.intro ⟨p + wd, n + 1, D ++ [(p, c, wd)], xs', o1', c1', ys', o2', c2'⟩ (Exists.intro [0, 4, 6] (And.intro ⟨⟨?_, ?_, ?_, ?_, ?_, ?_⟩, ?_⟩ ⟨rfl, rfl, rfl⟩))
    · simp only; rw [List.length_append, ← hn]; rfl
    · simp only; omega
    · refine .inr ?_; simp only; omega
    · simp only
      rw [hr, show s.size + 1 - (n + 1) = s.size - n by omega]
      simp
    · exact RowG.snoc h1 hn hz1.1 hz1.2.1 hz1.2.2
    · simp only
      rw [List.map_append]
      exact RowG.snoc h2 (by rw [List.length_map]; exact hn) hz2.1 hz2.2.1 hz2.2.2
    · simp only; omega
  · simp only at hp
    have he : rl s = D := by
      rw [hr]
      have : decs s (s.size + 1 - n) p = [] := by
        cases hk : s.size + 1 - n with
        | zero => rfl
        | succ k => rw [decs, if_neg hp]
      rw [this, List.append_nil]
    refine And.intro ⟨⟨by have := h2.1; rw [List.length_map] at this; rw [hn]; exact this, h2.2.1, rfl⟩, ⟨rfl, rfl⟩, show (n + 1) * 8 ≤ 1099511627776 by omega⟩ ?_
    intro ys' o2' c2' hz2
    subst hn
    rw [he]
    refine VRet.mk [1, 4] (.tup [.sl 0 o1 D.length c1, .sl 1 o2' (D.length + 1) c2']) [.arr xs T_int32, .arr ys' T_int] ⟨rfl, rfl, rfl⟩ ⟨xs, o1, c1, ys', o2', c2', rfl, rfl, h1, ?_⟩
    exact RowG.snoc (x := s.size) h2 (by rw [List.length_map]) hz2.1 hz2.2.1 hz2.2.2
end Go.Proofs

namespace Go.Proofs
open Go Go.V Go.Lib
set_option maxRecDepth 100000
set_option linter.unusedVariables false

theorem RowG.one {α : Type} {cl : α → List Value} {xs : List Value} {o c : Nat} {d : List α} (h : RowG cl 1 xs o c d) (hk : ∀ x, (cl x).length = 1) {i : Nat} (hi : i < d.length) : xs[o + i * 1]? = (cl d[i])[0]? := by
  have := h.at hk hi (j := 0) (by omega)
  simpa using this
theorem decs_le (s : ByteArray) : ∀ f p e, e ∈ decs s f p → e.1 ≤ s.size
  | 0, p, e, h => by simp [decs] at h
  | f + 1, p, e, h => by
    rw [decs] at h
    split at h
    · rcases List.mem_cons.1 h with rfl | h
      · exact Nat.le_of_lt (by assumption)
      · exact decs_le s f _ e h
    · simp at h
theorem s_ref_bad (s : ByteArray) (xs ys : List Value) (o1 c1 o2 c2 : Nat) (h1 : RowG i32cl 1 xs o1 c1 (rl s)) (h2 : RowG atcl 1 ys o2 c2 ((rl s).map (·.1) ++ [s.size])) (i : Nat) (hi : i < (rl s).length) (hl : (rl s).length ≤ 1000) (hs : s.size ≤ 1000) :
    Ctr Tryd.prog F_rostrumref1_bad [.raw (.string s), .sl 0 o1 (rl s).length c1, .sl 1 o2 ((rl s).length + 1) c2, iv i] [.arr xs T_int32, .arr ys T_int]
    (fun x H => ∃ b, x = bv b ∧ (b = true → (((rl s)[i].2.1 : Nat) : Int) = 65533) ∧ H = [.arr xs T_int32, .arr ys T_int]) := by
  have hx := RowG.one h1 (fun _ => rfl) hi
  have hal : ((rl s).map (·.1) ++ [s.size]).length = (rl s).length + 1 := by simp
  have hy : ∀ j, j < (rl s).length + 1 → ∃ n : Nat, ys[o2 + j * 1]? = some (.int .i64 (n : Int)) ∧ n ≤ s.size := by
    intro j hj
    have hj' : j < ((rl s).map (·.1) ++ [s.size]).length := by omega
    refine ⟨_, RowG.one h2 (fun _ => rfl) hj', ?_⟩
    by_cases e : j < (rl s).length
    · rw [List.getElem_append_left (by simpa using e), List.getElem_map]
      exact decs_le s _ _ _ (List.getElem_mem e)
    · rw [List.getElem_append_right (by simp; omega)]; simp
  have ha := hy (i + 1) (by omega)
  obtain ⟨n1, ha1, ha2⟩ := ha
  have hb := hy i (by omega)
  obtain ⟨n0, hb1, hb2⟩ := hb
  have hr1 : o1 + (rl s).length * 1 ≤ xs.length := by have := h1.2.1; have := h1.1; omega
  have hr2 : o2 + ((rl s).length + 1) * 1 ≤ ys.length := by have := h2.2.1; have := h2.1; rw [List.length_append, List.length_map] at this; simp at this; omega
  have hni : (0 : Int) ≤ (i : Int) ∧ (i : Int) < ((rl s).length : Nat) := ⟨Int.natCast_nonneg i, by omega⟩
  have hw : IntKind.i64.wrap ((i : Int) + 1) = ((i + 1 : Nat) : Int) := wrap64 (by omega)
  refine i_rostrumref1_bad.spec follows ?_
  refine And.intro ⟨hni.1, hni.2, hr1⟩ (Exists.intro _ (And.intro (by rw [Int.toNat_natCast]; exact hx) ?_))
  refine And.intro (fun k1 => ?_) (fun k1 => ?_)
  · refine Exists.intro _ (And.intro hw ?_)
    refine And.intro ⟨Int.natCast_nonneg _, show ((i + 1 : Nat) : Int) < (((rl s).length + 1 : Nat) : Int) by omega, hr2⟩ (Exists.intro _ (And.intro (by rw [Int.toNat_natCast]; exact ha1) ?_))
    refine And.intro ⟨hni.1, show (i : Int) < (((rl s).length + 1 : Nat) : Int) by omega, hr2⟩ (Exists.intro _ (And.intro (by rw [Int.toNat_natCast]; exact hb1) ?_))
    have hws : IntKind.i64.wrap ((n1 : Int) - (n0 : Int)) = (n1 : Int) - (n0 : Int) := wrap64 (by omega)
    refine Exists.intro _ (And.intro hws ?_)
    exact VRet.mk [0, 1] (bv _) [.arr xs T_int32, .arr ys T_int] ⟨rfl, rfl, rfl⟩ ⟨_, rfl, fun _ => of_decide_eq_true k1, rfl⟩
  · exact VRet.mk [0, 1] (bv _) [.arr xs T_int32, .arr ys T_int] ⟨rfl, rfl, rfl⟩ ⟨false, rfl, fun h => absurd h (by simp), rfl⟩
theorem s_ref_GoodName (h : Nat → Option Obj) (hu : Uni h) (s : ByteArray) (hs : s.size ≤ 1000) :
    Ctr Tryd.prog F_rostrumref1_GoodName [.raw (.string s)] [.heap h] (fun x H => x = bv (goodName s) ∧ H = [.heap h]) := by
  have fin : ∀ b : Bool, nameR s = b → (fun (x : SV) (H : List SO) => x = bv (goodName s) ∧ H = [SO.heap h]) (bv b) [.heap h] := fun b hb => ⟨by rw [goodName_eq, hb], rfl⟩
  refine i_rostrumref1_GoodName.spec follows ?_
  refine VCall.mk [] (s_ref_Runes s hs) ⟨rfl, rfl, rfl⟩ ?_
  rintro _ _ ⟨xs, o1, c1, ys, o2, c2, rfl, rfl, h1, h2⟩
  have hr1 : o1 + (rl s).length * 1 ≤ xs.length := by have := h1.2.1; have := h1.1; omega
  have hx : ∀ i (hi : i < (rl s).length), xs[o1 + i * 1]? = some (.int .i32 ((rl s)[i].2.1 : Int)) := fun i hi => RowG.one h1 (fun _ => rfl) hi
  have hrune : ∀ i (hi : i < (rl s).length), (-2147483648 : Int) ≤ ((rl s)[i].2.1 : Int) ∧ ((rl s)[i].2.1 : Int) ≤ 2147483647 := fun i hi => by
    have := decs_rune s _ _ _ (List.getElem_mem hi); omega
  refine And.intro (fun k1 => ?_) (fun k1 => ?_)
  rotate_left 1
  · have k1 := of_decide_eq_true k1
    refine VRet.mk [0] (bv false) [.heap h] ⟨rfl, rfl, rfl⟩ (fin false ?_)
    rw [nameR, decide_eq_false (by omega)]; rfl
  have k1 := of_decide_eq_false k1
  have hl0 : 0 < (rl s).length := by omega
  refine And.intro (fun k2 => ?_) (fun k2 => ?_)
  rotate_left 1
  · have k2 := of_decide_eq_true k2
    refine VRet.mk [0] (bv false) [.heap h] ⟨rfl, rfl, rfl⟩ (fin false ?_)
    rw [nameR, decide_eq_false (p := (rl s).length ≤ 20) (by omega)]; simp
  have k2 := of_decide_eq_false k2
  have hl20 : (rl s).length ≤ 20 := by omega
  have x0 := hx 0 hl0
  refine And.intro ⟨by decide, show (0 : Int) < ((rl s).length : Nat) by omega, hr1⟩ (Exists.intro _ (And.intro x0 ?_))
  refine VCall.mk [0] (s_IsLetter h hu _ (hrune 0 hl0)) ⟨rfl, rfl, rfl⟩ ?_
  rintro _ _ ⟨rfl, rfl⟩
  have hhd : headB (rl s) = isLetterU ((rl s)[0].2.1 : Int) := by
    generalize rl s = D at hl0
    cases D with
    | nil => simp at hl0
    | cons e D => rfl
  refine And.intro (fun k3 => ?_) (fun k3 => ?_)
  · have k3 : isLetterU ((rl s)[0].2.1 : Int) = false := by simpa using k3
    refine VRet.mk [0] (bv false) [.heap h] ⟨rfl, rfl, rfl⟩ (fin false ?_)
    rw [nameR, hhd, k3]; simp
  have k3 : isLetterU ((rl s)[0].2.1 : Int) = true := by simpa using k3
  have bad : ∀ i (hi : i < (rl s).length), partB ((rl s)[i].2.1 : Int) = false → nameR s = false := by
    intro i hi hp
    have : ((rl s).all fun e => partB (e.2.1 : Int)) = false := by
      rw [Bool.eq_false_iff, Ne, List.all_eq_true]
      intro hh
      have := hh _ (List.getElem_mem hi)
      rw [hp] at this; cases this
    rw [nameR, this]; simp
  refine VLoop.mk Nat (fun i => [(0, .raw (.string s)), (3, .sl 1 o1 (rl s).length c1), (4, .sl 2 o2 ((rl s).length + 1) c2), (5, iv i)]) (fun i => [.heap h, .arr xs T_int32, .arr ys T_int])
    (fun i => i ≤ (rl s).length ∧ ∀ j (hj : j < (rl s).length), j < i → partB ((rl s)[j].2.1 : Int) = true) (fun i => (rl s).length - i) 0 [0, 1, 2] ⟨⟨Nat.zero_le _, fun j _ hj => by omega⟩, rfl, rfl, rfl⟩ ?_
  rintro i ⟨hi, hall⟩ g
  refine And.intro (fun k4 => ?_) (fun k4 => ?_)
  · have k4 := of_decide_eq_true k4
    have hil : i < (rl s).length := by omega
    have hwi : IntKind.i64.wrap ((i : Int) + 1) = ((i + 1 : Nat) : Int) := wrap64 (by omega)
    have xi := hx i hil
    refine VCall.mk [1, 2] (s_ref_bad s xs ys o1 c1 o2 c2 h1 h2 i hil (by omega) hs) ⟨rfl, rfl, rfl⟩ ?_
    rintro _ _ ⟨b, rfl, hb, rfl⟩
    have done : partB ((rl s)[i].2.1 : Int) = true → i + 1 ≤ (rl s).length ∧ ∀ j (hj : j < (rl s).length), j < i + 1 → partB ((rl s)[j].2.1 : Int) = true := fun hp => ⟨hil, fun j hj hji => by
      by_cases e : j = i
      · subst e; exact hp
      · exact hall j hj (by omega)⟩
    refine And.intro (fun k5 => ?_) (fun k5 => ?_)
    rotate_left 1
    · refine VRet.mk [0] (bv false) [.heap h] ⟨rfl, rfl, rfl⟩ (fin false (bad i hil ?_))
      rw [hb k5]; exact part_bad
    refine And.intro ⟨Int.natCast_nonneg i, k4, hr1⟩ (Exists.intro _ (And.intro (by rw [Int.toNat_natCast]; exact xi) ?_))
    refine VCall.mk [0] (s_IsLetter h hu _ (hrune i hil)) ⟨rfl, rfl, rfl⟩ ?_
    rintro _ _ ⟨rfl, rfl⟩
    refine And.intro (fun k6 => ?_) (fun k6 => ?_)
    · have k6 : isLetterU ((rl s)[i].2.1 : Int) = false := by simpa using k6
      refine And.intro ⟨Int.natCast_nonneg i, k4, hr1⟩ (Exists.intro _ (And.intro (by rw [Int.toNat_natCast]; exact xi) ?_))
      refine VCall.mk [0] (s_IsDigit h hu _ (hrune i hil)) ⟨rfl, rfl, rfl⟩ ?_
      rintro _ _ ⟨rfl, rfl⟩
      refine And.intro (fun k7 => ?_) (fun k7 => ?_)
      · have k7 : isDigitU ((rl s)[i].2.1 : Int) = false := by simpa using k7
        refine And.intro ⟨Int.natCast_nonneg i, k4, hr1⟩ (Exists.intro _ (And.intro (by rw [Int.toNat_natCast]; exact xi) ?_))
        refine And.intro (fun k8 => ?_) (fun k8 => ?_)
        · refine VRet.mk [0] (bv false) [.heap h] ⟨rfl, rfl, rfl⟩ (fin false (bad i hil ?_))
          have k8 : ¬ ((rl s)[i].2.1 : Int) = 45 := by simpa using k8
          rw [partB, k6, k7, decide_eq_false k8]; rfl
        · have k8 : ((rl s)[i].2.1 : Int) = 45 := by simpa using k8
          refine Exists.intro _ (And.intro hwi ?_)
          exact Exists.intro (i + 1) (Exists.intro [0, 1, 2] (And.intro ⟨done (by rw [partB, k6, k7, decide_eq_true k8]; rfl), by omega⟩ ⟨rfl, rfl, rfl⟩))
      · have k7 : isDigitU ((rl s)[i].2.1 : Int) = true := by simpa using k7
        refine Exists.intro _ (And.intro hwi ?_)
        exact Exists.intro (i + 1) (Exists.intro [0, 1, 2] (And.intro ⟨done (by rw [partB, k7]; simp), by omega⟩ ⟨rfl, rfl, rfl⟩))
    · have k6 : isLetterU ((rl s)[i].2.1 : Int) = true := by simpa using k6
      refine Exists.intro _ (And.intro hwi ?_)
      exact Exists.intro (i + 1) (Exists.intro [0, 1, 2] (And.intro ⟨done (by rw [partB, k6]; simp), by omega⟩ ⟨rfl, rfl, rfl⟩))
  · have k4 := of_decide_eq_false k4
    refine VRet.mk [0] (bv true) [.heap h] ⟨rfl, rfl, rfl⟩ (fin true ?_)
    have : ((rl s).all fun e => partB (e.2.1 : Int)) = true := by
      rw [List.all_eq_true]
      intro e he
      obtain ⟨j, hj, rfl⟩ := List.mem_iff_getElem.1 he
      exact hall j hj (by omega)
    rw [nameR, hhd, k3, this, decide_eq_true (by omega), decide_eq_true hl20]; rfl
end Go.Proofs

namespace Go.Proofs
open Go Go.V Go.Lib
set_option maxRecDepth 100000
set_option linter.unusedVariables false

def restB (s : SH) : Bool := !(decide (s.by' < -1099511627776) || (decide (s.by' > 1099511627776) || (decide (s.time < 0) || decide (s.time > 1099511627776)))) && kindB s
/-- The document's own words for what is behind a shadow's name and text. -/
def restR (s : SH) : Prop := (1 ≤ s.kind ∧ s.kind ≤ 4) ∧ (s.kind = 3 → (s.text.toList == (ByteArray.mk #[]).toList) = true ∧ -1099511627776 ≤ s.by' ∧ s.by' ≤ 1099511627776) ∧ (s.kind ≠ 3 → s.by' = 0) ∧ (s.kind = 4 → 0 ≤ s.time ∧ s.time ≤ 1099511627776) ∧ (s.kind ≠ 4 → s.time = 0)
theorem rest_iff (s : SH) : restB s = true ↔ restR s := by
  unfold restB restR kindB
  generalize (s.text.toList == (ByteArray.mk #[]).toList) = te
  by_cases h1 : s.kind = 1
  · simp [h1]; omega
  · by_cases h2 : s.kind = 2
    · simp [h2]; omega
    · by_cases h3 : s.kind = 3
      · cases te <;> simp [h3] <;> omega
      · by_cases h4 : s.kind = 4
        · simp [h4]; omega
        · simp [h1, h2, h3, h4]; omega
theorem s_ref_Good (h : Nat → Option Obj) (hu : Uni h) (s : SH) (hs : s.key.size ≤ 1000) :
    Ctr Tryd.prog F_rostrumref13_Good [.agg (shcells s)] [.heap h] (fun x H => x = bv (goodS s) ∧ H = [.heap h]) := by
  have bad : goodS s = false → (fun (x : SV) (H : List SO) => x = bv (goodS s) ∧ H = [SO.heap h]) (bv false) [.heap h] := fun hb => ⟨by rw [hb], rfl⟩
  have fin : ∀ b : Bool, goodS s = b → (fun (x : SV) (H : List SO) => x = bv (goodS s) ∧ H = [SO.heap h]) (bv b) [.heap h] := fun b hb => ⟨by rw [hb], rfl⟩
  have gdef : goodS s = (isDot s.rep s.n && (vgoodB s.seen && (decide (s.seen s.rep.toNat = s.n - 1) && (goodName s.key && (!decide ((s.text.size : Int) > 100) && restB s))))) := rfl
  have rbad : ¬ restR s → goodS s = false := fun k => by
    have : restB s = false := by rw [Bool.eq_false_iff, Ne, rest_iff]; exact k
    rw [gdef, this]; simp
  have g1 : isDot s.rep s.n = false → goodS s = false := fun k => by rw [gdef, k]; rfl
  have g2 : vgoodB s.seen = false → goodS s = false := fun k => by rw [gdef, k]; simp
  have g3 : ¬ s.seen s.rep.toNat = s.n - 1 → goodS s = false := fun k => by rw [gdef, decide_eq_false k]; simp
  have g4 : goodName s.key = false → goodS s = false := fun k => by rw [gdef, k]; simp
  have g5 : decide ((s.text.size : Int) > 100) = true → goodS s = false := fun k => by rw [gdef, k]; simp
  refine i_rostrumref13_Good.spec follows ?_
  refine VCall.mk [] (s_ref_May s.rep s.n) ⟨rfl, rfl, rfl⟩ ?_
  rintro _ _ ⟨rfl, rfl⟩
  refine And.intro (fun k1 => ?_) (fun k1 => VRet.mk [0] (bv false) [.heap h] ⟨rfl, rfl, rfl⟩ (bad (g1 (by simpa using k1))))
  have k1 : isDot s.rep s.n = true := by simpa using k1
  refine VCall.mk [] (s_ref_Vgood s.seen) ⟨rfl, rfl, rfl⟩ ?_
  rintro _ _ ⟨rfl, rfl⟩
  refine And.intro (fun k2 => ?_) (fun k2 => VRet.mk [0] (bv false) [.heap h] ⟨rfl, rfl, rfl⟩ (bad (g2 (by simpa using k2))))
  have k2 : vgoodB s.seen = true := by simpa using k2
  have hdot : (0 ≤ s.rep ∧ s.rep < 7) ∧ 1 ≤ s.n ∧ s.n ≤ 1099511627776 := by
    simp only [isDot, isRep, Bool.and_eq_true, decide_eq_true_eq] at k1; omega
  have hw : IntKind.i64.wrap (s.n - 1) = s.n - 1 := wrap64 (by omega)
  refine And.intro hdot.1 (Exists.intro _ (And.intro (shcells_seen s hdot.1) ?_))
  refine Exists.intro _ (And.intro hw ?_)
  refine And.intro (fun k3 => ?_) (fun k3 => VRet.mk [0] (bv false) [.heap h] ⟨rfl, rfl, rfl⟩ (bad (g3 (by simpa using k3))))
  have k3 : s.seen s.rep.toNat = s.n - 1 := by simpa using k3
  refine And.intro (fun k6 => ?_) (fun k6 => VRet.mk [0] (bv false) [.heap h] ⟨rfl, rfl, rfl⟩ (bad (rbad fun hr => by have := of_decide_eq_true k6; unfold restR at hr; omega)))
  have k6 := of_decide_eq_false k6
  refine And.intro (fun k7 => ?_) (fun k7 => VRet.mk [0] (bv false) [.heap h] ⟨rfl, rfl, rfl⟩ (bad (rbad fun hr => by have := of_decide_eq_true k7; unfold restR at hr; omega)))
  have k7 := of_decide_eq_false k7
  refine VCall.mk [0] (s_ref_GoodName h hu s.key hs) ⟨rfl, rfl, rfl⟩ ?_
  rintro _ _ ⟨rfl, rfl⟩
  refine And.intro (fun k4 => ?_) (fun k4 => VRet.mk [0] (bv false) [.heap h] ⟨rfl, rfl, rfl⟩ (bad (g4 (by simpa using k4))))
  have k4 : goodName s.key = true := by simpa using k4
  refine And.intro (fun k5 => VRet.mk [0] (bv false) [.heap h] ⟨rfl, rfl, rfl⟩ (bad (g5 k5))) (fun k5 => ?_)
  have k5 : decide ((s.text.size : Int) > 100) = false := k5
  have hk : goodS s = restB s := by rw [gdef, k1, k2, decide_eq_true k3, k4, k5]; rfl
  have rfin : ∀ b : Bool, (restR s ↔ b = true) → goodS s = b := fun b hb => by rw [hk, Bool.eq_iff_iff, rest_iff]; exact hb
  have no : ¬ restR s → (fun (x : SV) (H : List SO) => x = bv (goodS s) ∧ H = [SO.heap h]) (bv false) [.heap h] := fun k => fin false (rfin false ⟨fun h => absurd h k, fun h => by cases h⟩)
  refine And.intro (fun q1 => ?_) (fun q1 => ?_)
  · have q1 : s.kind = 3 := of_decide_eq_true q1
    refine And.intro (fun q2 => ?_) (fun q2 => VRet.mk [0] (bv false) [.heap h] ⟨rfl, rfl, rfl⟩ (no fun hr => ?_))
    · have q2 : (s.text.toList == (ByteArray.mk #[]).toList) = true := by simpa using q2
      refine And.intro (fun q3 => ?_) (fun q3 => VRet.mk [0] (bv false) [.heap h] ⟨rfl, rfl, rfl⟩ (no fun hr => ?_))
      · have q3 := of_decide_eq_false q3
        refine And.intro (fun q4 => ?_) (fun q4 => VRet.mk [0] (bv false) [.heap h] ⟨rfl, rfl, rfl⟩ (no fun hr => ?_))
        · have q4 := of_decide_eq_false q4
          refine And.intro (fun q5 => absurd q1 (by simpa using q5)) (fun _ => ?_)
          refine And.intro (fun q6 => absurd (of_decide_eq_true q6) (by omega)) (fun q6 => ?_)
          refine And.intro (fun q7 => ?_) (fun q7 => absurd (show (!decide (s.kind = 4)) = false from q7) (by simp; omega))
          refine VRet.mk [0] (bv (decide (s.time = 0))) [.heap h] ⟨rfl, rfl, rfl⟩ (fin _ (rfin _ ?_))
          rw [decide_eq_true_iff]
          exact ⟨fun hr => hr.2.2.2.2 (by omega), fun ht => ⟨by omega, fun _ => ⟨q2, by omega, by omega⟩, fun h => absurd q1 h, fun h => by omega, fun _ => ht⟩⟩
        · have q4 := of_decide_eq_true q4
          unfold restR at hr; omega
      · have q3 := of_decide_eq_true q3
        unfold restR at hr; omega
    · have q2 : (s.text.toList == (ByteArray.mk #[]).toList) = false := by simpa using q2
      have := (hr.2.1 q1).1
      rw [q2] at this; cases this
  · have q1 : ¬ s.kind = 3 := of_decide_eq_false q1
    refine And.intro (fun q2 => ?_) (fun q2 => absurd (show (!decide (s.kind = 3)) = false from q2) (by simp; omega))
    refine And.intro (fun q3 => VRet.mk [0] (bv false) [.heap h] ⟨rfl, rfl, rfl⟩ (no fun hr => ?_)) (fun q3 => ?_)
    · have q3 : ¬ s.by' = 0 := by simpa using q3
      exact q3 (hr.2.2.1 q1)
    have q3 : s.by' = 0 := by simpa using q3
    refine And.intro (fun q6 => ?_) (fun q6 => ?_)
    · have q6 : s.kind = 4 := of_decide_eq_true q6
      refine And.intro (fun q7 => ?_) (fun q7 => ?_)
      · have q7 := of_decide_eq_true q7
        refine And.intro (fun q8 => ?_) (fun q8 => ?_)
        · have q8 := of_decide_eq_false q8
          refine And.intro (fun q9 => absurd (show (!decide (s.kind = 4)) = true from q9) (by simp; omega)) (fun _ => ?_)
          refine VRet.mk [0] (bv false) [.heap h] ⟨rfl, rfl, rfl⟩ (no fun hr => ?_)
          unfold restR at hr; omega
        · have q8 := of_decide_eq_true q8
          refine VRet.mk [0] (bv true) [.heap h] ⟨rfl, rfl, rfl⟩ (fin true (rfin true ⟨fun _ => rfl, fun _ => ?_⟩))
          unfold restR; omega
      · have q7 := of_decide_eq_false q7
        refine And.intro (fun q9 => absurd (show (!decide (s.kind = 4)) = true from q9) (by simp; omega)) (fun _ => ?_)
        refine VRet.mk [0] (bv false) [.heap h] ⟨rfl, rfl, rfl⟩ (no fun hr => ?_)
        unfold restR at hr; omega
    · have q6 : ¬ s.kind = 4 := of_decide_eq_false q6
      refine And.intro (fun q7 => ?_) (fun q7 => absurd (show (!decide (s.kind = 4)) = false from q7) (by simp; omega))
      refine VRet.mk [0] (bv (decide (s.time = 0))) [.heap h] ⟨rfl, rfl, rfl⟩ (fin _ (rfin _ ?_))
      rw [decide_eq_true_iff]
      unfold restR; omega
end Go.Proofs

