/- Part of the proof that the statement named in the last file holds: lemmas of the prover's own. No conditions. -/
import Derived.Test.YtnjibajfmceeaaaDoorDB
import Derived.Test.YtnjibajfmceeaaaDoorRows
import Derived.PinnedBridge
import Derived.Lay
import Derived.LaidOnce
import Derived.SevenTiedAt
import Derived.Test.YtnjibajfmceeaaaDoorTie
import Derived.Test.YtnjibajfmceeaaaDoorCards
namespace Go.Proofs
open Go Go.V Go.Lib
set_option maxRecDepth 100000
set_option linter.unusedVariables false

def boolcl (b : Bool) : List Value := [.bool b]
/-- Of shadows of one dot only one is told. -/
def okAt (L : List SH) (p q : Nat) : Prop := ∀ (hp : p < L.length) (hq : q < L.length), L[p].rep = L[q].rep → L[p].n = L[q].n → eqSH L[p] L[q] = true
structure CBX where
  i : Nat
  vA : Nat → Int
  msA : SM
  cA : Nat
  ysA : List Value
  oA : Nat
  nA : Nat
  cpA : Nat
  outA : List SH
  SA : List SH
  vB : Nat → Int
  msB : SM
  cB : Nat
  ysB : List Value
  oB : Nat
  nB : Nat
  cpB : Nat
  outB : List SH
  SB : List SH
structure DBX where
  i : Nat
  vB : Nat → Int
  msB : SM
  cB : Nat
  ysB : List Value
  oB : Nat
  nB : Nat
  cpB : Nat
  outB : List SH
  SB : List SH
theorem cut_one {xs : List Value} {o n : Nat} {l : List Value} (h : V.cut xs o n = some l) (j : Nat) (hj : j < n) : xs[o + j]? = l[j]? := ((cut_spec h).2 j hj).symm
set_option maxHeartbeats 4000000 in
theorem s_CausalBehind (h : Nat → Option Obj) (hu : Uni h) (v1 v2 : Value) (L : List SH) (Q : List Bool) (hv1 : RowsIs shcl 14 h v1 L) (hv2 : RowsIs boolcl 1 h v2 Q) (hpl : ∀ s, s ∈ L → Plain7 s) :
    Ctr Tryd.prog F_rostrumlaw16_CausalBehind [.raw v1, .raw v2] [.heap h] (fun x H => x = bv true ∧ H = [.heap h]) := by
  obtain ⟨la, lc, rfl⟩ := hv1.shape
  obtain ⟨qa, qc, rfl⟩ := hv2.shape
  have tt : ∀ x : SV, x = bv true → (fun (x : SV) (H : List SO) => x = bv true ∧ H = [SO.heap h]) x [.heap h] := fun x hx => ⟨hx, rfl⟩
  refine i_rostrumlaw16_CausalBehind.spec follows ?_
  refine VCall.mk [0] (s_awake h hu) ⟨rfl, rfl, rfl⟩ ?_
  rintro _ _ ⟨rfl, rfl⟩
  refine And.intro (fun h => absurd h (by simp)) (fun _ => ?_)
  refine And.intro (fun k1 => ?_) (fun k1 => VRet.mk [0] (bv true) [.heap h] ⟨rfl, rfl, rfl⟩ ⟨rfl, rfl⟩)
  have k1 := of_decide_eq_false k1
  refine And.intro (fun k2 => VRet.mk [0] (bv true) [.heap h] ⟨rfl, rfl, rfl⟩ ⟨rfl, rfl⟩) (fun k2 => ?_)
  have k2 := of_decide_eq_false k2
  have hL30 : L.length ≤ 30 := by omega
  have hQL : L.length ≤ Q.length := by omega
  refine VLoop.mk Nat (fun i => [(0, .raw (.slice la L.length lc)), (1, .raw (.slice qa Q.length qc)), (5, iv i)]) (fun i => [.heap h]) (fun i => i ≤ L.length ∧ (∀ p, p < i → ∀ q, q < p → okAt L p q) ∧ ∀ p (hp : p < L.length), p < i → longB L[p] = false) (fun i => L.length - i) 0 [0]
    ⟨⟨Nat.zero_le _, fun p hp => by omega, fun p _ hp => by omega⟩, rfl, rfl, rfl⟩ ?_
  rintro i ⟨hi, hone, hlong⟩ g
  refine And.intro (fun h1 => ?_) (fun h1 => ?_)
  · have h1 := of_decide_eq_true h1
    have hil : i < L.length := by omega
    have hwi : IntKind.i64.wrap ((i : Int) + 1) = ((i + 1 : Nat) : Int) := wrap64 (by omega)
    obtain ⟨bb, o, xs, e, fr, rfl, hh, hcut⟩ := hv1.at hil
    have hni : (0 : Int) ≤ (i : Int) ∧ (i : Int) < (L.length : Nat) := ⟨Int.natCast_nonneg i, by omega⟩
    refine VLoop.mk Nat (fun k => [(0, .raw (.slice (some ⟨bb, o, none⟩) L.length lc)), (1, .raw (.slice qa Q.length qc)), (5, iv i), (6, iv k)]) (fun k => [.heap h]) (fun k => k ≤ i ∧ ∀ q, q < k → okAt L i q) (fun k => i - k) 0 [0]
      ⟨⟨Nat.zero_le _, fun q hq => by omega⟩, rfl, rfl, rfl⟩ ?_
    rintro k ⟨hk, hkq⟩ g2
    refine And.intro (fun h2 => ?_) (fun h2 => ?_)
    · have h2 := of_decide_eq_true h2
      have hki : k < i := by omega
      have hwk : IntKind.i64.wrap ((k : Int) + 1) = ((k + 1 : Nat) : Int) := wrap64 (by omega)
      have hnk : (0 : Int) ≤ (k : Int) ∧ (k : Int) < (L.length : Nat) := ⟨Int.natCast_nonneg k, by omega⟩
      have ci := hcut i hil
      have ck := hcut k (by omega)
      have ci2 := cut_sub ci 0 2 (by omega)
      have ck2 := cut_sub ck 0 2 (by omega)
      refine And.intro hni ?_
      refine Exists.intro 0 (Exists.intro xs (Exists.intro e (Exists.intro fr (And.intro hh (Exists.intro _ (And.intro (by rw [Int.toNat_natCast]; exact ci2) ?_))))))
      refine And.intro hnk ?_
      refine Exists.intro 0 (Exists.intro xs (Exists.intro e (Exists.intro fr (And.intro hh (Exists.intro _ (And.intro (by rw [Int.toNat_natCast]; exact ck2) ?_))))))
      refine And.intro (fun hd => ?_) (fun hd => ?_)
      · refine And.intro hni ?_
        refine Exists.intro 0 (Exists.intro xs (Exists.intro e (Exists.intro fr (And.intro hh (Exists.intro _ (And.intro (by rw [Int.toNat_natCast]; exact ci) ?_))))))
        refine And.intro hnk ?_
        refine Exists.intro 0 (Exists.intro xs (Exists.intro e (Exists.intro fr (And.intro hh (Exists.intro _ (And.intro (by rw [Int.toNat_natCast]; exact ck) ?_))))))
        refine And.intro (fun hq => VRet.mk [0] (bv true) [.heap h] ⟨rfl, rfl, rfl⟩ ⟨rfl, rfl⟩) (fun hq => ?_)
        have hq : eqSH L[i] L[k] = true := by
          have hq : (!eqSH L[i] L[k]) = false := hq
          simpa using hq
        refine Exists.intro _ (And.intro hwk ?_)
        refine Exists.intro (k + 1) (Exists.intro [0] (And.intro ⟨⟨by omega, fun q hqk => ?_⟩, by omega⟩ ⟨rfl, rfl, rfl⟩))
        by_cases e : q = k
        · subst e; exact fun _ _ _ _ => hq
        · exact hkq q (by omega)
      · have hd : (decide (L[i].rep = L[k].rep) && decide (L[i].n = L[k].n)) = false := hd
        refine Exists.intro _ (And.intro hwk ?_)
        refine Exists.intro (k + 1) (Exists.intro [0] (And.intro ⟨⟨by omega, fun q hqk => ?_⟩, by omega⟩ ⟨rfl, rfl, rfl⟩))
        by_cases e : q = k
        · subst e; intro _ _ a1 a2; rw [decide_eq_true a1, decide_eq_true a2] at hd; cases hd
        · exact hkq q (by omega)
    · have h2 := of_decide_eq_false h2
      have hki : k = i := by omega
      subst hki
      refine And.intro hni ?_
      refine Exists.intro 0 (Exists.intro xs (Exists.intro e (Exists.intro fr (And.intro hh (Exists.intro _ (And.intro (by rw [Int.toNat_natCast]; exact hcut k hil) ?_))))))
      refine VCall.mk [] (s_long L[k]) ⟨rfl, rfl, rfl⟩ ?_
      rintro _ _ ⟨rfl, rfl⟩
      refine And.intro (fun hq => VRet.mk [0] (bv true) [.heap h] ⟨rfl, rfl, rfl⟩ ⟨rfl, rfl⟩) (fun hq => ?_)
      refine Exists.intro _ (And.intro hwi ?_)
      refine Exists.intro (k + 1) (Exists.intro [0] (And.intro ⟨⟨hil, fun p hp q hqp => ?_, fun p hp hpk => ?_⟩, by omega⟩ ⟨rfl, rfl, rfl⟩))
      · by_cases e : p = k
        · subst e; exact hkq q hqp
        · exact hone p (by omega) q hqp
      · by_cases e : p = k
        · subst e; exact hq
        · exact hlong p hp (by omega)
  have h1 := of_decide_eq_false h1
  have hiL : i = L.length := by omega
  subst hiL
  have hL1 : OneEach L := by
    intro s hs t ht e1 e2
    obtain ⟨p, hp, rfl⟩ := List.mem_iff_getElem.1 hs
    obtain ⟨q, hq, rfl⟩ := List.mem_iff_getElem.1 ht
    rcases Nat.lt_trichotomy p q with hpq | hpq | hpq
    · exact (eqSH_eq (hpl _ ht) (hpl _ hs) (hone q hq p hpq hq hp e1.symm e2.symm)).symm
    · subst hpq; rfl
    · exact eqSH_eq (hpl _ hs) (hpl _ ht) (hone p hp q hpq hp hq e1 e2)
  have hsize : ∀ p (hp : p < L.length), L[p].key.size ≤ 4611686018427387904 := by
    intro p hp
    have := hlong p hp hp
    simp only [longB, Bool.or_eq_false_iff, decide_eq_false_iff_not] at this
    omega
  refine VCall.mk [] s_New ⟨rfl, rfl, rfl⟩ ?_
  rintro _ _ ⟨rfl, rfl⟩
  refine VCall.mk [] s_New ⟨rfl, rfl, rfl⟩ ?_
  rintro _ _ ⟨rfl, rfl⟩
  refine VLoop.mk CBX (fun x => [(0, .raw (.slice la L.length lc)), (1, .raw (.slice qa Q.length qc)), (7, .ptr 1 0), (8, .ptr 4 0), (9, iv x.i)])
    (fun x => [.heap h, .cells (vcells x.vA ++ [.mp 2, .sl 3 x.oA x.nA x.cpA]) T_causal_Buffer, smap x.msA x.cA, .arr x.ysA T_shadow_Shadow, .cells (vcells x.vB ++ [.mp 5, .sl 6 x.oB x.nB x.cpB]) T_causal_Buffer, smap x.msB x.cB, .arr x.ysB T_shadow_Shadow])
    (fun x => x.i ≤ L.length ∧ BSt L x.vA x.msA x.cA x.ysA x.oA x.nA x.cpA x.outA x.SA x.i ∧ BSt L x.vB x.msB x.cB x.ysB x.oB x.nB x.cpB x.outB x.SB x.i) (fun x => L.length - x.i)
    ⟨0, vz, [], 0, [], 0, 0, 0, [], [], vz, [], 0, [], 0, 0, 0, [], []⟩ [0, 1, 2, 3, 4, 5, 6] ⟨⟨Nat.zero_le _, BSt.nil L, BSt.nil L⟩, rfl, rfl, rfl⟩ ?_
  rintro ⟨i, vA, msA, cA, ysA, oA, nA, cpA, outA, SA, vB, msB, cB, ysB, oB, nB, cpB, outB, SB⟩ ⟨hi, hA, hB⟩ g
  simp only at hi hA hB
  have hnA := hA.nn
  have hnB := hB.nn
  subst hnA hnB
  refine And.intro (fun h3 => ?_) (fun h3 => ?_)
  · have h3 := of_decide_eq_true h3
    have hil : i < L.length := by simp only at h3; omega
    have hwi : IntKind.i64.wrap ((i : Int) + 1) = ((i + 1 : Nat) : Int) := wrap64 (by omega)
    obtain ⟨bb, o, xs, e, fr, rfl, hh, hcut⟩ := hv1.at hil
    have hni : (0 : Int) ≤ (i : Int) ∧ (i : Int) < (L.length : Nat) := ⟨Int.natCast_nonneg i, by omega⟩
    have ci := hcut i hil
    have hcA := hA.cnt
    have hcB := hB.cnt
    refine And.intro hni ?_
    refine Exists.intro 0 (Exists.intro xs (Exists.intro e (Exists.intro fr (And.intro hh (Exists.intro _ (And.intro (by rw [Int.toNat_natCast]; exact ci) ?_))))))
    refine VCall.mk [1, 2, 3, 0] (s_Take h hu vA msA cA ysA oA cpA outA hA.bi hA.row L[i] (hsize i hil) (by omega) (by omega)) ⟨rfl, rfl, rfl⟩ ?_
    rintro _ _ (⟨er, ys1, o1, cp1, hno, rfl, rfl, hr1⟩ | ⟨l1, v1', ms1, c1, ys1, o1, cp1, zs1, p1, q1, hok, hd1, hn1, hb1, hl1, rfl, rfl, hr1, hz1⟩)
    · have hA1 := hA.no hno (by omega) hr1
      obtain ⟨b2, o2, xq, eq2, fq, rfl, hhq, hcq⟩ := hv2.at (i := i) (by omega)
      have hniQ : (0 : Int) ≤ (i : Int) ∧ (i : Int) < (Q.length : Nat) := ⟨Int.natCast_nonneg i, by omega⟩
      have cq := cut_one (hcq i (by omega)) 0 (by omega)
      refine And.intro hniQ ?_
      refine Exists.intro 0 (Exists.intro xq (Exists.intro eq2 (Exists.intro fq (And.intro hhq (Exists.intro _ (And.intro (by rw [Int.toNat_natCast]; exact cq) ?_))))))
      generalize Q[i] = qb
      refine And.intro (fun hb => ?_) (fun hb => ?_)
      · refine And.intro hni ?_
        refine Exists.intro 0 (Exists.intro xs (Exists.intro e (Exists.intro fr (And.intro hh (Exists.intro _ (And.intro (by rw [Int.toNat_natCast]; exact ci) ?_))))))
        refine VCall.mk [4, 5, 6, 0] (s_Take h hu vB msB cB ysB oB cpB outB hB.bi hB.row L[i] (hsize i hil) (by omega) (by omega)) ⟨rfl, rfl, rfl⟩ ?_
        rintro _ _ (⟨er2, ys2, o3, cp2, hno2, rfl, rfl, hr2⟩ | ⟨l2, v2', ms2, c2, ys2, o3, cp2, zs2, p2, q2, hok2, hd2, hn2, hb2, hl2, rfl, rfl, hr2, hz2⟩)
        · have hB1 := hB.no hno2 (by omega) hr2
          refine Exists.intro _ (And.intro hwi ?_)
          exact Exists.intro ⟨i + 1, _, _, _, _, _, _, _, _, _, _, _, _, _, _, _, _, _, _⟩ (Exists.intro [0, 1, 2, 3, 4, 5, 6] (And.intro ⟨⟨hil, hA1, hB1⟩, by simp only; omega⟩ ⟨rfl, rfl, rfl⟩))
        · obtain ⟨hB1, hle2⟩ := hB.yes (List.getElem_mem hil) hok2 hd2 hn2 hb2 hl2 hr2
          refine Exists.intro _ (And.intro hwi ?_)
          exact Exists.intro ⟨i + 1, _, _, _, _, _, _, _, _, _, _, _, _, _, _, _, _, _, _⟩ (Exists.intro [0, 1, 2, 3, 4, 5, 7] (And.intro ⟨⟨hil, hA1, hB1⟩, by simp only; omega⟩ ⟨rfl, rfl, rfl⟩))
      · refine Exists.intro _ (And.intro hwi ?_)
        exact Exists.intro ⟨i + 1, _, _, _, _, _, _, _, _, _, vB, msB, cB, ysB, oB, outB.length, cpB, outB, SB⟩ (Exists.intro [0, 1, 2, 3, 4, 5, 6] (And.intro ⟨⟨hil, hA1, hB.up (Nat.le_succ i)⟩, by simp only; omega⟩ ⟨rfl, rfl, rfl⟩))
    · obtain ⟨hA1, hle1⟩ := hA.yes (List.getElem_mem hil) hok hd1 hn1 hb1 hl1 hr1
      obtain ⟨b2, o2, xq, eq2, fq, rfl, hhq, hcq⟩ := hv2.at (i := i) (by omega)
      have hniQ : (0 : Int) ≤ (i : Int) ∧ (i : Int) < (Q.length : Nat) := ⟨Int.natCast_nonneg i, by omega⟩
      have cq := cut_one (hcq i (by omega)) 0 (by omega)
      refine And.intro hniQ ?_
      refine Exists.intro 0 (Exists.intro xq (Exists.intro eq2 (Exists.intro fq (And.intro hhq (Exists.intro _ (And.intro (by rw [Int.toNat_natCast]; exact cq) ?_))))))
      generalize Q[i] = qb
      refine And.intro (fun hb => ?_) (fun hb => ?_)
      · refine And.intro hni ?_
        refine Exists.intro 0 (Exists.intro xs (Exists.intro e (Exists.intro fr (And.intro hh (Exists.intro _ (And.intro (by rw [Int.toNat_natCast]; exact ci) ?_))))))
        refine VCall.mk [4, 5, 6, 0] (s_Take h hu vB msB cB ysB oB cpB outB hB.bi hB.row L[i] (hsize i hil) (by omega) (by omega)) ⟨rfl, rfl, rfl⟩ ?_
        rintro _ _ (⟨er2, ys2, o3, cp2, hno2, rfl, rfl, hr2⟩ | ⟨l2, v2', ms2, c2, ys2, o3, cp2, zs2, p2, q2, hok2, hd2, hn2, hb2, hl2, rfl, rfl, hr2, hz2⟩)
        · have hB1 := hB.no hno2 (by omega) hr2
          refine Exists.intro _ (And.intro hwi ?_)
          exact Exists.intro ⟨i + 1, _, _, _, _, _, _, _, _, _, _, _, _, _, _, _, _, _, _⟩ (Exists.intro [0, 1, 2, 7, 4, 5, 6] (And.intro ⟨⟨hil, hA1, hB1⟩, by simp only; omega⟩ ⟨rfl, rfl, rfl⟩))
        · obtain ⟨hB1, hle2⟩ := hB.yes (List.getElem_mem hil) hok2 hd2 hn2 hb2 hl2 hr2
          refine Exists.intro _ (And.intro hwi ?_)
          exact Exists.intro ⟨i + 1, _, _, _, _, _, _, _, _, _, _, _, _, _, _, _, _, _, _⟩ (Exists.intro [0, 1, 2, 7, 4, 5, 9] (And.intro ⟨⟨hil, hA1, hB1⟩, by simp only; omega⟩ ⟨rfl, rfl, rfl⟩))
      · refine Exists.intro _ (And.intro hwi ?_)
        exact Exists.intro ⟨i + 1, _, _, _, _, _, _, _, _, _, vB, msB, cB, ysB, oB, outB.length, cpB, outB, SB⟩ (Exists.intro [0, 1, 2, 7, 4, 5, 6] (And.intro ⟨⟨hil, hA1, hB.up (Nat.le_succ i)⟩, by simp only; omega⟩ ⟨rfl, rfl, rfl⟩))
  have h3 := of_decide_eq_false h3
  have hiL : i = L.length := by simp only at h3; omega
  subst hiL
  have hcA := hA.cnt
  have hcB := hB.cnt
  refine VCall.mk [4, 5, 6] (s_Have vB msB cB ysB oB outB.length cpB) ⟨rfl, rfl, rfl⟩ ?_
  rintro _ _ ⟨rfl, rfl⟩
  refine VCall.mk [1, 2, 3] (s_Behind vA vB msA cA ysA oA cpA outA hA.row (by omega)) ⟨rfl, rfl, rfl⟩ ?_
  rintro _ _ ⟨zs, o4, cp4, rfl, hz, rfl⟩
  have hlk : (lacks vB outA).length ≤ outA.length := List.length_filter_le _ _
  have hcl : ∀ x, (shcl x).length = 14 := fun _ => rfl
  have hroom : o4 + (lacks vB outA).length * 14 ≤ zs.length := by have := hz.2.1; have := Nat.mul_le_mul_right 14 hz.1; omega
  refine VLoop.mk DBX (fun x => [(7, .ptr 1 0), (8, .ptr 4 0), (10, .sl 7 o4 (lacks vB outA).length cp4), (11, iv x.i)])
    (fun x => [.heap h, .cells (vcells vA ++ [.mp 2, .sl 3 oA outA.length cpA]) T_causal_Buffer, smap msA cA, .arr ysA T_shadow_Shadow, .cells (vcells x.vB ++ [.mp 5, .sl 6 x.oB x.nB x.cpB]) T_causal_Buffer, smap x.msB x.cB, .arr x.ysB T_shadow_Shadow, .arr zs T_shadow_Shadow])
    (fun x => x.i ≤ (lacks vB outA).length ∧ BSt L x.vB x.msB x.cB x.ysB x.oB x.nB x.cpB x.outB x.SB (L.length + x.i) ∧ (∀ j, vB j ≤ x.vB j) ∧ ∀ s, s ∈ (lacks vB outA).take x.i → s ∈ x.SB) (fun x => (lacks vB outA).length - x.i)
    ⟨0, vB, msB, cB, ysB, oB, outB.length, cpB, outB, SB⟩ [0, 1, 2, 3, 4, 5, 6, 7] ⟨⟨Nat.zero_le _, hB, fun _ => Int.le_refl _, by simp⟩, rfl, rfl, rfl⟩ ?_
  rintro ⟨j, v2, ms2, c2, ys2, o2, n2, cp2, out2, S2⟩ ⟨hj, hB2, hle, hS⟩ g3
  simp only at hj hB2 hle hS
  have hn2 := hB2.nn
  subst hn2
  have hc2 := hB2.cnt
  refine And.intro (fun h4 => ?_) (fun h4 => ?_)
  · have h4 := of_decide_eq_true h4
    have hjl : j < (lacks vB outA).length := by simp only at h4; omega
    have hwj : IntKind.i64.wrap ((j : Int) + 1) = ((j + 1 : Nat) : Int) := wrap64 (by omega)
    have hmem : (lacks vB outA)[j] ∈ lacks vB outA := List.getElem_mem hjl
    have hmL : (lacks vB outA)[j] ∈ L := hA.ts.from' _ (List.mem_filter.1 hmem).1
    have hsz : (lacks vB outA)[j].key.size ≤ 4611686018427387904 := by
      obtain ⟨p, hp, he⟩ := List.mem_iff_getElem.1 hmL
      rw [← he]; exact hsize p hp
    have htk : ∀ s, s ∈ (lacks vB outA).take (j + 1) → s ∈ (lacks vB outA)[j] :: S2 := by
      intro s hs
      rw [← List.take_append_getElem hjl] at hs
      rcases List.mem_append.1 hs with h5 | h5
      · exact List.mem_cons_of_mem _ (hS s h5)
      · simp at h5; rw [h5]; exact List.mem_cons_self
    have hcut := hz.cut hcl hjl
    refine And.intro ⟨Int.natCast_nonneg j, h4, hroom⟩ (Exists.intro _ (And.intro (by rw [Int.toNat_natCast]; exact hcut) ?_))
    refine VCall.mk [4, 5, 6, 0] (s_Take h hu v2 ms2 c2 ys2 o2 cp2 out2 hB2.bi hB2.row (lacks vB outA)[j] hsz (by omega) (by omega)) ⟨rfl, rfl, rfl⟩ ?_
    rintro _ _ (⟨er2, ys3, o3, cp3, hno2, rfl, rfl, hr2⟩ | ⟨l2, v2', ms3, c3, ys3, o3, cp3, zs2, p2, q2, hok2, hd2, hn2, hb2, hl2, rfl, rfl, hr2, hz2⟩)
    · have hB1 := hB2.no hno2 (by omega) hr2
      refine Exists.intro _ (And.intro hwj ?_)
      exact Exists.intro ⟨j + 1, _, _, _, _, _, _, _, _, _⟩ (Exists.intro [0, 1, 2, 3, 4, 5, 6, 7] (And.intro ⟨⟨hjl, hB1, hle, htk⟩, by simp only; omega⟩ ⟨rfl, rfl, rfl⟩))
    · obtain ⟨hB1, hle2⟩ := hB2.yes hmL hok2 hd2 hn2 hb2 hl2 hr2
      refine Exists.intro _ (And.intro hwj ?_)
      exact Exists.intro ⟨j + 1, _, _, _, _, _, _, _, _, _⟩ (Exists.intro [0, 1, 2, 3, 4, 5, 8, 7] (And.intro ⟨⟨hjl, hB1, fun k => Int.le_trans (hle k) (hle2 k), htk⟩, by simp only; omega⟩ ⟨rfl, rfl, rfl⟩))
  · have h4 := of_decide_eq_false h4
    have hjl : j = (lacks vB outA).length := by simp only at h4; omega
    subst hjl
    rw [List.take_length] at hS
    obtain ⟨w1, w2⟩ := behind_law hL1 hA.ts.chain hA.ts.from' hB2.ts hB2.bi hle hS
    refine VCall.mk [1, 2, 3] (s_Have vA msA cA ysA oA outA.length cpA) ⟨rfl, rfl, rfl⟩ ?_
    rintro _ _ ⟨rfl, rfl⟩
    refine VCall.mk [4, 5, 6] (s_Have v2 ms2 c2 ys2 o2 out2.length cp2) ⟨rfl, rfl, rfl⟩ ?_
    rintro _ _ ⟨rfl, rfl⟩
    refine VCall.mk [] (s_vec_Le vA v2) ⟨rfl, rfl, rfl⟩ ?_
    rintro _ _ ⟨rfl, rfl⟩
    refine And.intro (fun _ => ?_) (fun h => absurd h (by rw [w1]; simp))
    refine VCall.mk [4, 5, 6] (s_Have v2 ms2 c2 ys2 o2 out2.length cp2) ⟨rfl, rfl, rfl⟩ ?_
    rintro _ _ ⟨rfl, rfl⟩
    refine VCall.mk [1, 2, 3] (s_Behind vA v2 msA cA ysA oA cpA outA hA.row (by omega)) ⟨rfl, rfl, rfl⟩ ?_
    rintro _ _ ⟨zs5, o5, cp5, rfl, hz5, rfl⟩
    exact VRet.mk [0] (bv (decide (((lacks v2 outA).length : Int) = 0))) [.heap h] ⟨rfl, rfl, rfl⟩ ⟨by rw [w2]; rfl, rfl⟩
end Go.Proofs

namespace Go.Proofs.YtnjibajfmceeaaaDoor
open Go.ChangeShapes Go.WideShapes Go.ChangeAt Go.RowKit Go.V Go.Joins
set_option maxRecDepth 100000

theorem own : ownKnob Tryd.prog.godebug = none := by kernel_rfl
theorem laidOut : laidOutB Tryd.prog = true := by kernel_rfl
section
variable {H : Type} {enc : TypeId × Value → H} {W : World}
theorem fit_int {k : IntKind} {v : Value} (h : FitK enc Tryd.prog W 0 (fun _ => true) true (.int k) v) : ∃ n, v = .int k n := by
  obtain ⟨n, h, _⟩ := h; exact ⟨n, h⟩
abbrev shK : List FKd := [.int .i64, .int .i64, .int .i64, .int .i64, .int .i64, .int .i64, .int .i64, .int .i64, .int .i64, .int .i64, .str, .str, .int .i64, .int .i64]
theorem open_sh {cs : List Value} (hl : cs.length = 14) (hf : ∀ (j : Nat) k y, shK[j]? = some k → cs[j]? = some y → FitK enc Tryd.prog W 0 (fun _ => true) true k y) : ∃ s, cs = shcl s ∧ Plain7 s := by
  match cs, hl with
  | [c0, c1, c2, c3, c4, c5, c6, c7, c8, c9, c10, c11, c12, c13], _ =>
    obtain ⟨n0, rfl⟩ := fit_int (hf 0 _ c0 rfl rfl)
    obtain ⟨n1, rfl⟩ := fit_int (hf 1 _ c1 rfl rfl)
    obtain ⟨n2, rfl⟩ := fit_int (hf 2 _ c2 rfl rfl)
    obtain ⟨n3, rfl⟩ := fit_int (hf 3 _ c3 rfl rfl)
    obtain ⟨n4, rfl⟩ := fit_int (hf 4 _ c4 rfl rfl)
    obtain ⟨n5, rfl⟩ := fit_int (hf 5 _ c5 rfl rfl)
    obtain ⟨n6, rfl⟩ := fit_int (hf 6 _ c6 rfl rfl)
    obtain ⟨n7, rfl⟩ := fit_int (hf 7 _ c7 rfl rfl)
    obtain ⟨n8, rfl⟩ := fit_int (hf 8 _ c8 rfl rfl)
    obtain ⟨n9, rfl⟩ := fit_int (hf 9 _ c9 rfl rfl)
    obtain ⟨k, rfl⟩ := hf 10 _ c10 rfl rfl
    obtain ⟨t, rfl⟩ := hf 11 _ c11 rfl rfl
    obtain ⟨n12, rfl⟩ := fit_int (hf 12 _ c12 rfl rfl)
    obtain ⟨n13, rfl⟩ := fit_int (hf 13 _ c13 rfl rfl)
    exact ⟨⟨n0, n1, sev n2 n3 n4 n5 n6 n7 n8, n9, k, t, n12, n13⟩, rfl, rfl⟩
theorem open_shadows {fuel : Nat} {v : Value} {x : DataW H × List MemPlace} (h : DataW.trod enc Tryd.prog W 0 (fun _ => true) true fuel T_sl_shadow_Shadow [v] = some x) : ∃ L, RowsIs shcl 14 (allH W) v L ∧ ∀ s, s ∈ L → Plain7 s := by
  rcases open_rows (d := 5) (ks := shK) (show Tryd.prog.underlying T_sl_shadow_Shadow = some (.slice T_shadow_Shadow) by kernel_rfl) (by kernel_rfl) (by kernel_rfl) (by decide) h with rfl | ⟨a, len, cap, rfl, hlc, h0 | ⟨b, o, xs, te, fr, rfl, hb, hx⟩⟩
  · exact ⟨[], .inl ⟨⟨none, 0, rfl⟩, rfl⟩, by simp⟩
  · subst h0
    exact ⟨[], .inl ⟨⟨_, cap, rfl⟩, rfl⟩, by simp⟩
  · have each : ∀ i, i < len → ∃ s : SH, V.cut xs (o + i * 14) 14 = some (shcl s) ∧ Plain7 s := by
      intro i hi
      obtain ⟨cs, h1, h2, h3⟩ := hx i hi
      obtain ⟨s, rfl, h4⟩ := open_sh h2 h3
      exact ⟨s, h1, h4⟩
    haveI : Inhabited SH := ⟨zeroS⟩
    obtain ⟨q, hq⟩ := Go.Deep.choose_lt each
    refine ⟨(List.range len).map q, .inr ⟨b, o, cap, xs, te, fr, by simp, hb, fun i hi => ?_⟩, fun s hs => ?_⟩
    · have hi' : i < len := by simpa using hi
      simpa using (hq i hi').1
    · obtain ⟨i, hi, rfl⟩ := List.mem_map.1 hs
      exact (hq i (List.mem_range.1 hi)).2
theorem open_bools {fuel : Nat} {v : Value} {x : DataW H × List MemPlace} (h : DataW.trod enc Tryd.prog W 0 (fun _ => true) true fuel T_sl_bool [v] = some x) : ∃ L, RowsIs boolcl 1 (allH W) v L := by
  rcases open_rows (d := 2) (ks := [.bool]) (show Tryd.prog.underlying T_sl_bool = some (.slice T_bool) by kernel_rfl) (by kernel_rfl) (by kernel_rfl) (by decide) h with rfl | ⟨a, len, cap, rfl, hlc, h0 | ⟨b, o, xs, te, fr, rfl, hb, hx⟩⟩
  · exact ⟨[], .inl ⟨⟨none, 0, rfl⟩, rfl⟩⟩
  · subst h0
    exact ⟨[], .inl ⟨⟨_, cap, rfl⟩, rfl⟩⟩
  · have each : ∀ i, i < len → ∃ s : Bool, V.cut xs (o + i * 1) 1 = some (boolcl s) := by
      intro i hi
      obtain ⟨cs, h1, h2, h3⟩ := hx i hi
      match cs, h2 with
      | [y], _ =>
        obtain ⟨s, rfl⟩ := h3 0 _ y rfl rfl
        exact ⟨s, h1⟩
    obtain ⟨q, hq⟩ := Go.Deep.choose_lt each
    refine ⟨(List.range len).map q, .inr ⟨b, o, cap, xs, te, fr, by simp, hb, fun i hi => ?_⟩⟩
    have hi' : i < len := by simpa using hi
    simpa using hq i hi'
end
end Go.Proofs.YtnjibajfmceeaaaDoor

namespace Go.Proofs.YtnjibajfmceeaaaDoor
open Go.ChangeShapes Go.WideShapes Go.ChangeAt Go.RowKit Go.V Go.Joins Go.Shelf Go.Lib
set_option maxRecDepth 100000

theorem xL : RExtra Tryd.prog Tryd.laysLetter_ren := ⟨by kernel_rfl, by kernel_rfl, by kernel_rfl, by kernel_rfl, by kernel_rfl, by kernel_rfl, by kernel_rfl, by kernel_rfl⟩
theorem xD : RExtra Tryd.prog Tryd.laysDigit_ren := ⟨by kernel_rfl, by kernel_rfl, by kernel_rfl, by kernel_rfl, by kernel_rfl, by kernel_rfl, by kernel_rfl, by kernel_rfl⟩
abbrev laidB : List (String × DataW Unit) := Rows.causalBehindRow.laid
theorem causalBehind_lifted (os : Os) (started : os.Started) (H : Type) (enc : TypeId × Value → H) :
    ReturnsInHanded {} Tryd.checked os 4 .any (fun w args => (Rows.causalBehindSpec.pre enc Tryd.prog Tryd.f4 [] false w args ∧ laidMetH Tryd.prog laidB w) ∧ sizedMet enc Tryd.prog Tryd.f4 (OpenSpec.ofChange Rows.causalBehindSpec) false w args)
      (Rows.causalBehindSpec.post enc Tryd.prog Tryd.f4 false true false false) := by
  refine returnsInHanded_of_change_and (C := Tryd.checked) (X := fun w _ => laidMetH Tryd.prog laidB w) (fun _ _ _ hh h => h.of_heap hh) own started (by kernel_rfl) Tryd.func4
    (ChangeSpec.witness_shaped (enc := enc) (C := Tryd.checked) (os := os) (X := fun w _ => laidMetH Tryd.prog laidB w) false (World.laidAll Tryd.prog os laidB) #[.slice none 0 0, .slice none 0 0] 8 (World.laidAll_os _ _ _)
      (World.shaped_of_ZipB (by kernel_rfl) (by kernel_rfl)) (by kernel_rfl) (by kernel_rfl) (by kernel_rfl)
      (by rw [MakeChecks.laidMetH_plain _ _ _ (by kernel_rfl)]; exact laidMet_laidAll _ (by kernel_rfl) (by kernel_rfl))) ?_
  intro W base args ds gs before hval0 hW _ _ hL _
  have hval : ∀ (j : Nat) t v, Tryd.f4.params[j]? = some t → args[j]? = some v → Value.okWide Tryd.prog W .any base t v := hval0
  have hW' := hW
  obtain ⟨p, q, hA0, hV, rfl, hfz, hnd⟩ := hW
  have hA : DataW.TrodAll enc Tryd.prog W 0 (fun _ => true) true Tryd.f4.params.toList args.toList ds p := hA0
  rw [Tryd.params4] at hA hval
  obtain ⟨v0, vs0, d0, ds0, p0, q0, hargs, rfl, rfl, h0, r0⟩ := trodAll_cons hA
  obtain ⟨v1, vs1, d1, ds1, p1, q1, rfl, rfl, rfl, h1, r1⟩ := trodAll_cons r0
  obtain ⟨rfl, rfl, rfl⟩ := trodAll_nil r1
  obtain rfl : args = #[v0, v1] := by cases args; simp_all
  obtain ⟨rfl, rfl⟩ := trodVars_none hV
  rw [MakeChecks.laidMetH_plain _ _ _ (by kernel_rfl)] at hL
  have hTL : RVar (Tryd.laysLetter_ren.g 8) letterT W := rvar_of_reads { Tryd.laysLetter with } xL (by kernel_rfl) (by kernel_rfl) ((show Rows.laid_unicode_Letter = rtabData letterT from Pinned.letter_eq) ▸ Lib.laidMet.reads hL (.tail _ (.tail _ (.head _))))
  have hTD : RVar (Tryd.laysDigit_ren.g 5) digitT W := rvar_of_reads { Tryd.laysDigit with } xD (by kernel_rfl) (by kernel_rfl) ((show Rows.laid_unicode_Digit = rtabData digitT from Pinned.digit_eq) ▸ Lib.laidMet.reads hL (.tail _ (.head _)))
  have hTP : TabIs Tryd.prog W "unicode.properties" .u8 propertiesTab := tabIs_of_head (g := Tryd.laysLetter_ren.g 7) (t := T_256_uint8) (e := T_uint8) (n := 256) (by kernel_rfl) (by kernel_rfl) (by kernel_rfl) (by kernel_rfl) (by kernel_rfl) (by kernel_rfl) hL
  have hU : Uni (allH W) := UniH.all hTP hTL hTD (fun b o e => e)
  have k0 := h0
  have k1 := h1
  have lt0 : ∀ x ∈ p0, x.block < W.heap.size := by obtain ⟨m, hm⟩ := k0; exact DataW.trod_lt m _ _ _ hm
  have lt1 : ∀ x ∈ p1, x.block < W.heap.size := by obtain ⟨m, hm⟩ := k1; exact DataW.trod_lt m _ _ _ hm
  obtain ⟨a0, len0, cap0, rfl⟩ := okWide_slice Tryd.underlying22 (hval 0 22 v0 rfl rfl)
  obtain ⟨a1, len1, cap1, rfl⟩ := okWide_slice Tryd.underlying43 (hval 1 43 v1 rfl rfl)
  obtain ⟨m0, h0⟩ := h0
  obtain ⟨m1, h1⟩ := h1
  obtain ⟨L0, hL0, hP0⟩ := open_shadows h0
  obtain ⟨L1, hL1⟩ := open_bools h1
  clear hA0 hval0
  refine Calls.mono (ctr_all (s_CausalBehind (allH W) hU _ _ L0 L1 hL0 hL1 hP0) rfl rfl (r := .bool true) ?_) fun e W' ⟨he, bel⟩ => ?_
  · rintro v H' ρ' ⟨rfl, rfl⟩; exact ⟨rfl, _, rfl, Sub.refl _⟩
  subst he
  exact ⟨_, rfl, _, _, _, [], _, [], hW', trodAll_mk1 (shut_bool Tryd.underlying4 _), (trodAll_cons_mk (Below.trod laidOut (by kernel_rfl) (of_decide_eq_true (by kernel_rfl)) k0 bel lt0) (trodAll_cons_mk (Below.trod laidOut (by kernel_rfl) (of_decide_eq_true (by kernel_rfl)) k1 bel lt1) trodAll_mk0)), rfl, bel.frame _, fun h => by cases h⟩
theorem causalBehind_row : Rows.causalBehindRow.holds Tryd.pinned (OpenSpec.ofChange Rows.causalBehindSpec) :=
  OpenClaim.holds_of_wide 4 Tryd.f4 rfl rfl rfl rfl rfl rfl rfl ⟨rfl, rfl, rfl, rfl, rfl⟩ rfl rfl rfl rfl rfl (by kernel_rfl) Tryd.func4 (by kernel_rfl)
    (of_decide_eq_true (by kernel_rfl)) (by unfold Func.isWrapper; first | (rw [if_pos (by decide +kernel)]; kernel_rfl) | (rw [if_neg (by decide +kernel)]; exact ⟨rfl, rfl⟩))
    (fun os started H enc _ => causalBehind_lifted os started H enc)
theorem causalBehindCard_holds : Rows.CausalBehindCardSaid :=
  Claim7.holds_tied_plain_at .later [] [.data, .pinned, .pinned] true (true, "8dfd6869943901ab86addb612e7393e77a640301410433515362e607dd21c7a0") false causalBehind_row (fun _ h => by cases h) (by kernel_rfl) (fun _ h => by cases h) causalBehind_row_tie rfl ⟨rfl, rfl⟩ (by kernel_rfl) rfl
    (fun f fn hf hfn => by
      obtain rfl : f = 4 := Option.some.inj ((show Tryd.prog.funcNamed "rostrum/rostrumlaw16.CausalBehind" = some 4 by kernel_rfl).symm.trans hf) |>.symm
      obtain rfl : fn = Tryd.f4 := (Option.some.inj (Tryd.func4.symm.trans hfn)).symm
      exact ⟨by kernel_rfl, fun j t ht => by
        rw [Tryd.params4] at ht
        have hm : t ∈ [22, 43] := by simpa using Array.mem_of_getElem? ht
        have hall : ([22, 43].all fun u => !Tryd.prog.wantsStandIn u) = true := by kernel_rfl
        exact (show Tryd.prog.wantsStandIn t = false by simpa using List.all_eq_true.1 hall t hm)⟩)
    (by kernel_rfl)
end Go.Proofs.YtnjibajfmceeaaaDoor

