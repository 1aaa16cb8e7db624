/- Part of the proof that the statement named in the last file holds: lemmas of the prover's own. No conditions. -/
import Derived.Test.YtnjibajfmceeaaaDoorDB
import Derived.Test.YtnjibajfmceeaaaDoorRows
import Derived.PinnedBridge
import Derived.Lay
import Derived.LaidOnce
import Derived.SevenTiedAt
import Derived.Test.YtnjibajfmceeaaaDoorTie
import Derived.Test.YtnjibajfmceeaaaDoorCards
namespace Go.Proofs
open Go Go.V Go.Lib
set_option maxRecDepth 100000
set_option linter.unusedVariables false

def boolcl (b : Bool) : List Value := [.bool b]
/-- Of shadows of one dot only one is told. -/
def okAt (L : List SH) (p q : Nat) : Prop := ∀ (hp : p < L.length) (hq : q < L.length), L[p].rep = L[q].rep → L[p].n = L[q].n → eqSH L[p] L[q] = true
structure CBX where
  i : Nat
  vA : Nat → Int
  msA : SM
  cA : Nat
  ysA : List Value
  oA : Nat
  nA : Nat
  cpA : Nat
  outA : List SH
  SA : List SH
  vB : Nat → Int
  msB : SM
  cB : Nat
  ysB : List Value
  oB : Nat
  nB : Nat
  cpB : Nat
  outB : List SH
  SB : List SH
structure DBX where
  i : Nat
  vB : Nat → Int
  msB : SM
  cB : Nat
  ysB : List Value
  oB : Nat
  nB : Nat
  cpB : Nat
  outB : List SH
  SB : List SH
theorem cut_one {xs : List Value} {o n : Nat} {l : List Value} (h : V.cut xs o n = some l) (j : Nat) (hj : j < n) : xs[o + j]? = l[j]? := ((cut_spec h).2 j hj).symm
set_option maxHeartbeats 4000000 in
theorem s_CausalBehind (h : Nat → Option Obj) (hu : Uni h) (v1 v2 : Value) (L : List SH) (Q : List Bool) (hv1 : RowsIs shcl 14 h v1 L) (hv2 : RowsIs boolcl 1 h v2 Q) (hpl : ∀ s, s ∈ L → Plain7 s) :
    Ctr Tryd.prog F_rostrumlaw16_CausalBehind [.raw v1, .raw v2] [.heap h] (fun x H => x = bv true ∧ H = [.heap h]) := by
  obtain ⟨la, lc, rfl⟩ := hv1.shape
  obtain ⟨qa, qc, rfl⟩ := hv2.shape
  have tt : ∀ x : SV, x = bv true → (fun (x : SV) (H : List SO) => x = bv true ∧ H = [SO.heap h]) x [.heap h] := fun x hx => ⟨hx, rfl⟩
  refine i_rostrumlaw16_CausalBehind.spec follows ?_
  refine VCall.mk [0] (s_awake h hu) ⟨rfl, rfl, rfl⟩ ?_
  rintro _ _ ⟨rfl, rfl⟩
  refine And.intro (fun h => absurd h (by simp)) (fun _ => ?_)
  refine And.intro (fun k1 => ?_) (fun k1 => VRet.mk [0] (bv true) [.heap h] ⟨rfl, rfl, rfl⟩ ⟨rfl, rfl⟩)
  have k1 := of_decide_eq_false k1
  refine And.intro (fun k2 => VRet.mk [0] (bv true) [.heap h] ⟨rfl, rfl, rfl⟩ ⟨rfl, rfl⟩) (fun k2 => ?_)
  have k2 := of_decide_eq_false k2
  have hL30 : L.length ≤ 30 := by omega
  have hQL : L.length ≤ Q.length := by omega
  refine VLoop.mk Nat (fun i => [(0, .raw (.slice la L.length lc)), (1, .raw (.slice qa Q.length qc)), (5, iv i)]) (fun i => [.heap h]) (fun i => i ≤ L.length ∧ (∀ p, p < i → ∀ q, q < p → okAt L p q) ∧ ∀ p (hp : p < L.length), p < i → longB L[p] = false) (fun i => L.length - i) 0 [0]
    ⟨⟨Nat.zero_le _, fun p hp => by omega, fun p _ hp => by omega⟩, rfl, rfl, rfl⟩ ?_
  rintro i ⟨hi, hone, hlong⟩ g
  refine And.intro (fun h1 => ?_) (fun h1 => ?_)
  · have h1 := of_decide_eq_true h1
    have hil : i < L.length := by omega
    have hwi : IntKind.i64.wrap ((i : Int) + 1) = ((i + 1 : Nat) : Int) := wrap64 (by omega)
    obtain ⟨bb, o, xs, e, fr, rfl, hh, hcut⟩ := hv1.at hil
    have hni : (0 : Int) ≤ (i : Int) ∧ (i : Int) < (L.length : Nat) := ⟨Int.natCast_nonneg i, by omega⟩
    refine VLoop.mk Nat (fun k => [(0, .raw (.slice (some ⟨bb, o, none⟩) L.length lc)), (1, .raw (.slice qa Q.length qc)), (5, iv i), (6, iv k)]) (fun k => [.heap h]) (fun k => k ≤ i ∧ ∀ q, q < k → okAt L i q) (fun k => i - k) 0 [0]
      ⟨⟨Nat.zero_le _, fun q hq => by omega⟩, rfl, rfl, rfl⟩ ?_
    rintro k ⟨hk, hkq⟩ g2
    refine And.intro (fun h2 => ?_) (fun h2 => ?_)
    · have h2 := of_decide_eq_true h2
      have hki : k < i := by omega
      have hwk : IntKind.i64.wrap ((k : Int) + 1) = ((k + 1 : Nat) : Int) := wrap64 (by omega)
      have hnk : (0 : Int) ≤ (k : Int) ∧ (k : Int) < (L.length : Nat) := ⟨Int.natCast_nonneg k, by omega⟩
      have ci := hcut i hil
      have ck := hcut k (by omega)
      have ci2 := cut_sub ci 0 2 (by omega)
      have ck2 := cut_sub ck 0 2 (by omega)
      refine And.intro hni ?_
      refine Exists.intro 0 (Exists.intro xs (Exists.intro e (Exists.intro fr (And.intro hh (Exists.intro _ (And.intro (by rw [Int.toNat_natCast]; exact ci2) ?_))))))
      refine And.intro hnk ?_
      refine Exists.intro 0 (Exists.intro xs (Exists.intro e (Exists.intro fr (And.intro hh (Exists.intro _ (And.intro (by rw [Int.toNat_natCast]; exact ck2) ?_))))))
      refine And.intro (fun hd => ?_) (fun hd => ?_)
      · refine And.intro hni ?_
        refine Exists.intro 0 (Exists.intro xs (Exists.intro e (Exists.intro fr (And.intro hh (Exists.intro _ (And.intro (by rw [Int.toNat_natCast]; exact ci) ?_))))))
        refine And.intro hnk ?_
        refine Exists.intro 0 (Exists.intro xs (Exists.intro e (Exists.intro fr (And.intro hh (Exists.intro _ (And.intro (by rw [Int.toNat_natCast]; exact ck) ?_))))))
        refine And.intro (fun hq => VRet.mk [0] (bv true) [.heap h] ⟨rfl, rfl, rfl⟩ ⟨rfl, rfl⟩) (fun hq => ?_)
        have hq : eqSH L[i] L[k] = true := by
          have hq : (!eqSH L[i] L[k]) = false := hq
          simpa using hq
        refine Exists.intro _ (And.intro hwk ?_)
        refine Exists.intro (k + 1) (Exists.intro [0] (And.intro ⟨⟨by omega, fun q hqk => ?_⟩, by omega⟩ ⟨rfl, rfl, rfl⟩))
        by_cases e : q = k
        · subst e; exact fun _ _ _ _ => hq
        · exact hkq q (by omega)
      · have hd : (decide (L[i].rep = L[k].rep) && decide (L[i].n = L[k].n)) = false := hd
        refine Exists.intro _ (And.intro hwk ?_)
        refine Exists.intro (k + 1) (Exists.intro [0] (And.intro ⟨⟨by omega, fun q hqk => ?_⟩, by omega⟩ ⟨rfl, rfl, rfl⟩))
        by_cases e : q = k
        · subst e; intro _ _ a1 a2; rw [decide_eq_true a1, decide_eq_true a2] at hd; cases hd
        · exact hkq q (by omega)
    · have h2 := of_decide_eq_false h2
      have hki : k = i := by omega
      subst hki
      refine And.intro hni ?_
      refine Exists.intro 0 (Exists.intro xs (Exists.intro e (Exists.intro fr (And.intro hh (Exists.intro _ (And.intro (by rw [Int.toNat_natCast]; exact hcut k hil) ?_))))))
      refine VCall.mk [] (s_long L[k]) ⟨rfl, rfl, rfl⟩ ?_
      rintro _ _ ⟨rfl, rfl⟩
      refine And.intro (fun hq => VRet.mk [0] (bv true) [.heap h] ⟨rfl, rfl, rfl⟩ ⟨rfl, rfl⟩) (fun hq => ?_)
      refine Exists.intro _ (And.intro hwi ?_)
      refine Exists.intro (k + 1) (Exists.intro [0] (And.intro ⟨⟨hil, fun p hp q hqp => ?_, fun p hp hpk => ?_⟩, by omega⟩ ⟨rfl, rfl, rfl⟩))
      · by_cases e : p = k
        · subst e; exact hkq q hqp
        · exact hone p (by omega) q hqp
      · by_cases e : p = k
        · subst e; exact hq
        · exact hlong p hp (by omega)
  have h1 := of_decide_eq_false h1
  have hiL : i = L.length := by omega
  subst hiL
  have hL1 : OneEach L := by
    intro s hs t ht e1 e2
    obtain ⟨p, hp, rfl⟩ := List.mem_iff_getElem.1 hs
    obtain ⟨q, hq, rfl⟩ := List.mem_iff_getElem.1 ht
    rcases Nat.lt_trichotomy p q with hpq | hpq | hpq
    · exact (eqSH_eq (hpl _ ht) (hpl _ hs) (hone q hq p hpq hq hp e1.symm e2.symm)).symm
    · subst hpq; rfl
    · exact eqSH_eq (hpl _ hs) (hpl _ ht) (hone p hp q hpq hp hq e1 e2)
  have hsize : ∀ p (hp : p < L.length), L[p].key.size ≤ 4611686018427387904 := by
    intro p hp
    have := hlong p hp hp
    simp only [longB, Bool.or_eq_false_iff, decide_eq_false_iff_not] at this
    omega
  refine VCall.mk [] s_New ⟨rfl, rfl, rfl⟩ ?_
  rintro _ _ ⟨rfl, rfl⟩
  refine VCall.mk [] s_New ⟨rfl, rfl, rfl⟩ ?_
  rintro _ _ ⟨rfl, rfl⟩
  refine VLoop.mk CBX (fun x => [(0, .raw (.slice la L.length lc)), (1, .raw (.slice qa Q.length qc)), (7, .ptr 1 0), (8, .ptr 4 0), (9, iv x.i)])
    (fun x => [.heap h, .cells (vcells x.vA ++ [.mp 2, .sl 3 x.oA x.nA x.cpA]) T_causal_Buffer, smap x.msA x.cA, .arr x.ysA T_shadow_Shadow, .cells (vcells x.vB ++ [.mp 5, .sl 6 x.oB x.nB x.cpB]) T_causal_Buffer, smap x.msB x.cB, .arr x.ysB T_shadow_Shadow])
    (fun x => x.i ≤ L.length ∧ BSt L x.vA x.msA x.cA x.ysA x.oA x.nA x.cpA x.outA x.SA x.i ∧ BSt L x.vB x.msB x.cB x.ysB x.oB x.nB x.cpB x.outB x.SB x.i) (fun x => L.length - x.i)
    ⟨0, vz, [], 0, [], 0, 0, 0, [], [], vz, [], 0, [], 0, 0, 0, [], []⟩ [0, 1, 2, 3, 4, 5, 6] ⟨⟨Nat.zero_le _, BSt.nil L, BSt.nil L⟩, rfl, rfl, rfl⟩ ?_
  rintro ⟨i, vA, msA, cA, ysA, oA, nA, cpA, outA, SA, vB, msB, cB, ysB, oB, nB, cpB, outB, SB⟩ ⟨hi, hA, hB⟩ g
  simp only at hi hA hB
  have hnA := hA.nn
  have hnB := hB.nn
  subst hnA hnB
  refine And.intro (fun h3 => ?_) (fun h3 => ?_)
  · have h3 := of_decide_eq_true h3
    have hil : i < L.length := by simp only at h3; omega
    have hwi : IntKind.i64.wrap ((i : Int) + 1) = ((i + 1 : Nat) : Int) := wrap64 (by omega)
    obtain ⟨bb, o, xs, e, fr, rfl, hh, hcut⟩ := hv1.at hil
    have hni : (0 : Int) ≤ (i : Int) ∧ (i : Int) < (L.length : Nat) := ⟨Int.natCast_nonneg i, by omega⟩
    have ci := hcut i hil
    have hcA := hA.cnt
    have hcB := hB.cnt
    refine And.intro hni ?_
    refine Exists.intro 0 (Exists.intro xs (Exists.intro e (Exists.intro fr (And.intro hh (Exists.intro _ (And.intro (by rw [Int.toNat_natCast]; exact ci) ?_))))))
    refine VCall.mk [1, 2, 3, 0] (s_Take h hu vA msA cA ysA oA cpA outA hA.bi hA.row L[i] (hsize i hil) (by omega) (by omega)) ⟨rfl, rfl, rfl⟩ ?_
    rintro _ _ (⟨er, ys1, o1, cp1, hno, rfl, rfl, hr1⟩ | ⟨l1, v1', ms1, c1, ys1, o1, cp1, zs1, p1, q1, hok, hd1, hn1, hb1, hl1, rfl, rfl, hr1, hz1⟩)
    · have hA1 := hA.no hno (by omega) hr1
      obtain ⟨b2, o2, xq, eq2, fq, rfl, hhq, hcq⟩ := hv2.at (i := i) (by omega)
      have hniQ : (0 : Int) ≤ (i : Int) ∧ (i : Int) < (Q.length : Nat) := ⟨Int.natCast_nonneg i, by omega⟩
      have cq := cut_one (hcq i (by omega)) 0 (by omega)
      refine And.intro hniQ ?_
      refine Exists.intro 0 (Exists.intro xq (Exists.intro eq2 (Exists.intro fq (And.intro hhq (Exists.intro _ (And.intro (by rw [Int.toNat_natCast]; exact cq) ?_))))))
      generalize Q[i] = qb
      refine And.intro (fun hb => ?_) (fun hb => ?_)
      · refine And.intro hni ?_
        refine Exists.intro 0 (Exists.intro xs (Exists.intro e (Exists.intro fr (And.intro hh (Exists.intro _ (And.intro (by rw [Int.toNat_natCast]; exact ci) ?_))))))
        refine VCall.mk [4, 5, 6, 0] (s_Take h hu vB msB cB ysB oB cpB outB hB.bi hB.row L[i] (hsize i hil) (by omega) (by omega)) ⟨rfl, rfl, rfl⟩ ?_
        rintro _ _ (⟨er2, ys2, o3, cp2, hno2, rfl, rfl, hr2⟩ | ⟨l2, v2', ms2, c2, ys2, o3, cp2, zs2, p2, q2, hok2, hd2, hn2, hb2, hl2, rfl, rfl, hr2, hz2⟩)
        · have hB1 := hB.no hno2 (by omega) hr2
          refine Exists.intro _ (And.intro hwi ?_)
          exact Exists.intro ⟨i + 1, _, _, _, _, _, _, _, _, _, _, _, _, _, _, _, _, _, _⟩ (Exists.intro [0, 1, 2, 3, 4, 5, 6] (And.intro ⟨⟨hil, hA1, hB1⟩, by simp only; omega⟩ ⟨rfl, rfl, rfl⟩))
        · obtain ⟨hB1, hle2⟩ := hB.yes (List.getElem_mem hil) hok2 hd2 hn2 hb2 hl2 hr2
          refine Exists.intro _ (And.intro hwi ?_)
          exact Exists.intro ⟨i + 1, _, _, _, _, _, _, _, _, _, _, _, _, _, _, _, _, _, _⟩ (Exists.intro [0, 1, 2, 3, 4, 5, 7] (And.intro ⟨⟨hil, hA1, hB1⟩, by simp only; omega⟩ ⟨rfl, rfl, rfl⟩))
      · refine Exists.intro _ (And.intro hwi ?_)
        exact Exists.intro ⟨i + 1, _, _, _, _, _, _, _, _, _, vB, msB, cB, ysB, oB, outB.length, cpB, outB, SB⟩ (Exists.intro [0, 1, 2, 3, 4, 5, 6] (And.intro ⟨⟨hil, hA1, hB.up (Nat.le_succ i)⟩, by simp only; omega⟩ ⟨rfl, rfl, rfl⟩))
    · obtain ⟨hA1, hle1⟩ := hA.yes (List.getElem_mem hil) hok hd1 hn1 hb1 hl1 hr1
      obtain ⟨b2, o2, xq, eq2, fq, rfl, hhq, hcq⟩ := hv2.at (i := i) (by omega)
      have hniQ : (0 : Int) ≤ (i : Int) ∧ (i : Int) < (Q.length : Nat) := ⟨Int.natCast_nonneg i, by omega⟩
      have cq := cut_one (hcq i (by omega)) 0 (by omega)
      refine And.intro hniQ ?_
      refine Exists.intro 0 (Exists.intro xq (Exists.intro eq2 (Exists.intro fq (And.intro hhq (Exists.intro _ (And.intro (by rw [Int.toNat_natCast]; exact cq) ?_))))))
      generalize Q[i] = qb
      refine And.intro (fun hb => ?_) (fun hb => ?_)
      · refine And.intro hni ?_
        refine Exists.intro 0 (Exists.intro xs (Exists.intro e (Exists.intro fr (And.intro hh (Exists.intro _ (And.intro (by rw [Int.toNat_natCast]; exact ci) ?_))))))
        refine VCall.mk [4, 5, 6, 0] (s_Take h hu vB msB cB ysB oB cpB outB hB.bi hB.row L[i] (hsize i hil) (by omega) (by omega)) ⟨rfl, rfl, rfl⟩ ?_
        rintro _ _ (⟨er2, ys2, o3, cp2, hno2, rfl, rfl, hr2⟩ | ⟨l2, v2', ms2, c2, ys2, o3, cp2, zs2, p2, q2, hok2, hd2, hn2, hb2, hl2, rfl, rfl, hr2, hz2⟩)
        · have hB1 := hB.no hno2 (by omega) hr2
          refine Exists.intro _ (And.intro hwi ?_)
          exact Exists.intro ⟨i + 1, _, _, _, _, _, _, _, _, _, _, _, _, _, _, _, _, _, _⟩ (Exists.intro [0, 1, 2, 7, 4, 5, 6] (And.intro ⟨⟨hil, hA1, hB1⟩, by simp only; omega⟩ ⟨rfl, rfl, rfl⟩))
        · obtain ⟨hB1, hle2⟩ := hB.yes (List.getElem_mem hil) hok2 hd2 hn2 hb2 hl2 hr2
          refine Exists.intro _ (And.intro hwi ?_)
          exact Exists.intro ⟨i + 1, _, _, _, _, _, _, _, _, _, _, _, _, _, _, _, _, _, _⟩ (Exists.intro [0, 1, 2, 7, 4, 5, 9] (And.intro ⟨⟨hil, hA1, hB1⟩, by simp only; omega⟩ ⟨rfl, rfl, rfl⟩))
      · refine Exists.intro _ (And.intro hwi ?_)
        exact Exists.intro ⟨i + 1, _, _, _, _, _, _, _, _, _, vB, msB, cB, ysB, oB, outB.length, cpB, outB, SB⟩ (Exists.intro [0, 1, 2, 7, 4, 5, 6] (And.intro ⟨⟨hil, hA1, hB.up (Nat.le_succ i)⟩, by simp only; omega⟩ ⟨rfl, rfl, rfl⟩))
  have h3 := of_decide_eq_false h3
  have hiL : i = L.length := by simp only at h3; omega
  subst hiL
  have hcA := hA.cnt
  have hcB := hB.cnt
  refine VCall.mk [4, 5, 6] (s_Have vB msB cB ysB oB outB.length cpB) ⟨rfl, rfl, rfl⟩ ?_
  rintro _ _ ⟨rfl, rfl⟩
  refine VCall.mk [1, 2, 3] (s_Behind vA vB msA cA ysA oA cpA outA hA.row (by omega)) ⟨rfl, rfl, rfl⟩ ?_
  rintro _ _ ⟨zs, o4, cp4, rfl, hz, rfl⟩
  have hlk : (lacks vB outA).length ≤ outA.length := List.length_filter_le _ _
  have hcl : ∀ x, (shcl x).length = 14 := fun _ => rfl
  have hroom : o4 + (lacks vB outA).length * 14 ≤ zs.length := by have := hz.2.1; have := Nat.mul_le_mul_right 14 hz.1; omega
  refine VLoop.mk DBX (fun x => [(7, .ptr 1 0), (8, .ptr 4 0), (10, .sl 7 o4 (lacks vB outA).length cp4), (11, iv x.i)])
    (fun x => [.heap h, .cells (vcells vA ++ [.mp 2, .sl 3 oA outA.length cpA]) T_causal_Buffer, smap msA cA, .arr ysA T_shadow_Shadow, .cells (vcells x.vB ++ [.mp 5, .sl 6 x.oB x.nB x.cpB]) T_causal_Buffer, smap x.msB x.cB, .arr x.ysB T_shadow_Shadow, .arr zs T_shadow_Shadow])
    (fun x => x.i ≤ (lacks vB outA).length ∧ BSt L x.vB x.msB x.cB x.ysB x.oB x.nB x.cpB x.outB x.SB (L.length + x.i) ∧ (∀ j, vB j ≤ x.vB j) ∧ ∀ s, s ∈ (lacks vB outA).take x.i → s ∈ x.SB) (fun x => (lacks vB outA).length - x.i)
    ⟨0, vB, msB, cB, ysB, oB, outB.length, cpB, outB, SB⟩ [0, 1, 2, 3, 4, 5, 6, 7] ⟨⟨Nat.zero_le _, hB, fun _ => Int.le_refl _, by simp⟩, rfl, rfl, rfl⟩ ?_
  rintro ⟨j, v2, ms2, c2, ys2, o2, n2, cp2, out2, S2⟩ ⟨hj, hB2, hle, hS⟩ g3
  simp only at hj hB2 hle hS
  have hn2 := hB2.nn
  subst hn2
  have hc2 := hB2.cnt
  refine And.intro (fun h4 => ?_) (fun h4 => ?_)
  · have h4 := of_decide_eq_true h4
    have hjl : j < (lacks vB outA).length := by simp only at h4; omega
    have hwj : IntKind.i64.wrap ((j : Int) + 1) = ((j + 1 : Nat) : Int) := wrap64 (by omega)
    have hmem : (lacks vB outA)[j] ∈ lacks vB outA := List.getElem_mem hjl
    have hmL : (lacks vB outA)[j] ∈ L := hA.ts.from' _ (List.mem_filter.1 hmem).1
    have hsz : (lacks vB outA)[j].key.size ≤ 4611686018427387904 := by
      obtain ⟨p, hp, he⟩ := List.mem_iff_getElem.1 hmL
      rw [← he]; exact hsize p hp
    have htk : ∀ s, s ∈ (lacks vB outA).take (j + 1) → s ∈ (lacks vB outA)[j] :: S2 := by
      intro s hs
      rw [← List.take_append_getElem hjl] at hs
      rcases List.mem_append.1 hs with h5 | h5
      · exact List.mem_cons_of_mem _ (hS s h5)
      · simp at h5; rw [h5]; exact List.mem_cons_self
    have hcut := hz.cut hcl hjl
    refine And.intro ⟨Int.natCast_nonneg j, h4, hroom⟩ (Exists.intro _ (And.intro (by rw [Int.toNat_natCast]; exact hcut) ?_))
    refine VCall.mk [4, 5, 6, 0] (s_Take h hu v2 ms2 c2 ys2 o2 cp2 out2 hB2.bi hB2.row (lacks vB outA)[j] hsz (by omega) (by omega)) ⟨rfl, rfl, rfl⟩ ?_
    rintro _ _ (⟨er2, ys3, o3, cp3, hno2, rfl, rfl, hr2⟩ | ⟨l2, v2', ms3, c3, ys3, o3, cp3, zs2, p2, q2, hok2, hd2, hn2, hb2, hl2, rfl, rfl, hr2, hz2⟩)
    · have hB1 := hB2.no hno2 (by omega) hr2
      refine Exists.intro _ (And.intro hwj ?_)
      exact Exists.intro ⟨j + 1, _, _, _, _, _, _, _, _, _⟩ (Exists.intro [0, 1, 2, 3, 4, 5, 6, 7] (And.intro ⟨⟨hjl, hB1, hle, htk⟩, by simp only; omega⟩ ⟨rfl, rfl, rfl⟩))
    · obtain ⟨hB1, hle2⟩ := hB2.yes hmL hok2 hd2 hn2 hb2 hl2 hr2
      refine Exists.intro _ (And.intro hwj ?_)
      exact Exists.intro ⟨j + 1, _, _, _, _, _, _, _, _, _⟩ (Exists.intro [0, 1, 2, 3, 4, 5, 8, 7] (And.intro ⟨⟨hjl, hB1, fun k => Int.le_trans (hle k) (hle2 k), htk⟩, by simp only; omega⟩ ⟨rfl, rfl, rfl⟩))
  · have h4 := of_decide_eq_false h4
    have hjl : j = (lacks vB outA).length := by simp only at h4; omega
    subst hjl
    rw [List.take_length] at hS
    obtain ⟨w1, w2⟩ := behind_law hL1 hA.ts.chain hA.ts.from' hB2.ts hB2.bi hle hS
    refine VCall.mk [1, 2, 3] (s_Have vA msA cA ysA oA outA.length cpA) ⟨rfl, rfl, rfl⟩ ?_
    rintro _ _ ⟨rfl, rfl⟩
    refine VCall.mk [4, 5, 6] (s_Have v2 ms2 c2 ys2 o2 out2.length cp2) ⟨rfl, rfl, rfl⟩ ?_
    rintro _ _ ⟨rfl, rfl⟩
    refine VCall.mk [] (s_vec_Le vA v2) ⟨rfl, rfl, rfl⟩ ?_
    rintro _ _ ⟨rfl, rfl⟩
    refine And.intro (fun _ => ?_) (fun h => absurd h (by rw [w1]; simp))
    refine VCall.mk [4, 5, 6] (s_Have v2 ms2 c2 ys2 o2 out2.length cp2) ⟨rfl, rfl, rfl⟩ ?_
    rintro _ _ ⟨rfl, rfl⟩
    refine VCall.mk [1, 2, 3] (s_Behind vA v2 msA cA ysA oA cpA outA hA.row (by omega)) ⟨rfl, rfl, rfl⟩ ?_
    rintro _ _ ⟨zs5, o5, cp5, rfl, hz5, rfl⟩
    exact VRet.mk [0] (bv (decide (((lacks v2 outA).length : Int) = 0))) [.heap h] ⟨rfl, rfl, rfl⟩ ⟨by rw [w2]; rfl, rfl⟩
end Go.Proofs

namespace Go.Proofs.YtnjibajfmceeaaaDoor
open Go.ChangeShapes Go.WideShapes Go.ChangeAt Go.RowKit Go.V Go.Joins
set_option maxRecDepth 100000

theorem own : ownKnob Tryd.prog.godebug = none := by kernel_rfl
theorem laidOut : laidOutB Tryd.prog = true := by kernel_rfl
section
variable {H : Type} {enc : TypeId × Value → H} {W : World}
theorem fit_int {k : IntKind} {v : Value} (h : FitK enc Tryd.prog W 0 (fun _ => true) true (.int k) v) : ∃ n, v = .int k n := by
  obtain ⟨n, h, _⟩ := h; exact ⟨n, h⟩
abbrev shK : List FKd := [.int .i64, .int .i64, .int .i64, .int .i64, .int .i64, .int .i64, .int .i64, .int .i64, .int .i64, .int .i64, .str, .str, .int .i64, .int .i64]
theorem open_sh {cs : List Value} (hl : cs.length = 14) (hf : ∀ (j : Nat) k y, shK[j]? = some k → cs[j]? = some y → FitK enc Tryd.prog W 0 (fun _ => true) true k y) : ∃ s, cs = shcl s ∧ Plain7 s := by
  match cs, hl with
  | [c0, c1, c2, c3, c4, c5, c6, c7, c8, c9, c10, c11, c12, c13], _ =>
    obtain ⟨n0, rfl⟩ := fit_int (hf 0 _ c0 rfl rfl)
    obtain ⟨n1, rfl⟩ := fit_int (hf 1 _ c1 rfl rfl)
    obtain ⟨n2, rfl⟩ := fit_int (hf 2 _ c2 rfl rfl)
    obtain ⟨n3, rfl⟩ := fit_int (hf 3 _ c3 rfl rfl)
    obtain ⟨n4, rfl⟩ := fit_int (hf 4 _ c4 rfl rfl)
    obtain ⟨n5, rfl⟩ := fit_int (hf 5 _ c5 rfl rfl)
    obtain ⟨n6, rfl⟩ := fit_int (hf 6 _ c6 rfl rfl)
    obtain ⟨n7, rfl⟩ := fit_int (hf 7 _ c7 rfl rfl)
    obtain ⟨n8, rfl⟩ := fit_int (hf 8 _ c8 rfl rfl)
    obtain ⟨n9, rfl⟩ := fit_int (hf 9 _ c9 rfl rfl)
    obtain ⟨k, rfl⟩ := hf 10 _ c10 rfl rfl
    obtain ⟨t, rfl⟩ := hf 11 _ c11 rfl rfl
    obtain ⟨n12, rfl⟩ := fit_int (hf 12 _ c12 rfl rfl)
    obtain ⟨n13, rfl⟩ := fit_int (hf 13 _ c13 rfl rfl)
    exact ⟨⟨n0, n1, sev n2 n3 n4 n5 n6 n7 n8, n9, k, t, n12, n13⟩, rfl, rfl⟩
theorem open_shadows {fuel : Nat} {v : Value} {x : DataW H × List MemPlace} (h : DataW.trod enc Tryd.prog W 0 (fun _ => true) true fuel T_sl_shadow_Shadow [v] = some x) : ∃ L, RowsIs shcl 14 (allH W) v L ∧ ∀ s, s ∈ L → Plain7 s := by
  rcases open_rows (d := 5) (ks := shK) (show Tryd.prog.underlying T_sl_shadow_Shadow = some (.slice T_shadow_Shadow) by kernel_rfl) (by kernel_rfl) (by kernel_rfl) (by decide) h with rfl | ⟨a, len, cap, rfl, hlc, h0 | ⟨b, o, xs, te, fr, rfl, hb, hx⟩⟩
  · exact ⟨[], .inl ⟨⟨none, 0, rfl⟩, rfl⟩, by simp⟩
  · subst h0
    exact ⟨[], .inl ⟨⟨_, cap, rfl⟩, rfl⟩, by simp⟩
  · have each : ∀ i, i < len → ∃ s : SH, V.cut xs (o + i * 14) 14 = some (shcl s) ∧ Plain7 s := by
      intro i hi
      obtain ⟨cs, h1, h2, h3⟩ := hx i hi
      obtain ⟨s, rfl, h4⟩ := open_sh h2 h3
      exact ⟨s, h1, h4⟩
    haveI : Inhabited SH := ⟨zeroS⟩
    obtain ⟨q, hq⟩ := Go.Deep.choose_lt each
    refine ⟨(List.range len).map q, .inr ⟨b, o, cap, xs, te, fr, by simp, hb, fun i hi => ?_⟩, fun s hs => ?_⟩
    · have hi' : i < len := by simpa using hi
      simpa using (hq i hi').1
    · obtain ⟨i, hi, rfl⟩ := List.mem_map.1 hs
      exact (hq i (List.mem_range.1 hi)).2
theorem open_bools {fuel : Nat} {v : Value} {x : DataW H × List MemPlace} (h : DataW.trod enc Tryd.prog W 0 (fun _ => true) true fuel T_sl_bool [v] = some x) : ∃ L, RowsIs boolcl 1 (allH W) v L := by
  rcases open_rows (d := 2) (ks := [.bool]) (show Tryd.prog.underlying T_sl_bool = some (.slice T_bool) by kernel_rfl) (by kernel_rfl) (by kernel_rfl) (by decide) h with rfl | ⟨a, len, cap, rfl, hlc, h0 | ⟨b, o, xs, te, fr, rfl, hb, hx⟩⟩
  · exact ⟨[], .inl ⟨⟨none, 0, rfl⟩, rfl⟩⟩
  · subst h0
    exact ⟨[], .inl ⟨⟨_, cap, rfl⟩, rfl⟩⟩
  · have each : ∀ i, i < len → ∃ s : Bool, V.cut xs (o + i * 1) 1 = some (boolcl s) := by
      intro i hi
      obtain ⟨cs, h1, h2, h3⟩ := hx i hi
      match cs, h2 with
      | [y], _ =>
        obtain ⟨s, rfl⟩ := h3 0 _ y rfl rfl
        exact ⟨s, h1⟩
    obtain ⟨q, hq⟩ := Go.Deep.choose_lt each
    refine ⟨(List.range len).map q, .inr ⟨b, o, cap, xs, te, fr, by simp, hb, fun i hi => ?_⟩⟩
    have hi' : i < len := by simpa using hi
    simpa using hq i hi'
end
end Go.Proofs.YtnjibajfmceeaaaDoor

namespace Go.Proofs
open Go Go.V Go.Lib
set_option maxRecDepth 100000
set_option linter.unusedVariables false

def intcl (n : Int) : List Value := [.int .i64 n]
/-- What one has after these. -/
def ups (v : Nat → Int) (l : List SH) : Nat → Int := l.foldl (fun v s => upv v s.rep.toNat s.n) v
theorem ups_snoc (v : Nat → Int) (l : List SH) (s : SH) : ups v (l ++ [s]) = upv (ups v l) s.rep.toNat s.n := by simp [ups]
theorem Dr.steps {v0 v : Nat → Int} {ms0 ms : SM} {c : Nat} {l : List SH} (hd : Dr v0 ms0 l v ms) (hb : BI v0 ms0 c) : BI v ms c ∧ v = ups v0 l ∧ ∀ q (hq : q < l.length), goodS l[q] = true ∧ readyB l[q] (ups v0 (l.take q)) = true ∧ l[q].n = ups v0 (l.take q) l[q].rep.toNat + 1 := by
  induction hd with
  | nil => exact ⟨hb, rfl, fun q hq => by simp at hq⟩
  | @snoc l v ms s hd1 hn ih =>
    obtain ⟨i1, i2, i3⟩ := ih
    obtain ⟨q1, q2, q3, q4, q5⟩ := i1.next hn
    refine ⟨q5, by rw [ups_snoc, ← i2], fun q hq => ?_⟩
    rw [List.length_append] at hq
    simp only [List.length_cons, List.length_nil] at hq
    by_cases e : q < l.length
    · have h1 := i3 q e
      rw [List.getElem_append_left e, List.take_append_of_le_length (Nat.le_of_lt e)]
      exact h1
    · have e : q = l.length := by omega
      subst e
      simp only [List.take_left, List.getElem_concat_length]
      rw [← i2]
      exact ⟨q2, q3, q4⟩
/-- What a table's own counter tells: the first i together. -/
def psum (v : Nat → Int) : Nat → Int
  | 0 => 0
  | i + 1 => psum v i + v i
theorem psum_le {v : Nat → Int} (hv : ∀ i, i < 7 → 0 ≤ v i ∧ v i ≤ 1099511627776) : ∀ i, i ≤ 7 → 0 ≤ psum v i ∧ psum v i ≤ i * 1099511627776
  | 0, _ => by simp [psum]
  | i + 1, h => by
    have h1 := psum_le hv i (by omega)
    have h2 := hv i (by omega)
    simp only [psum]; omega
theorem psum7 (v : Nat → Int) : psum v 7 = sumV v := by simp only [psum, sumV]; omega
structure ONX where
  t : Nat
  v : Nat → Int
  ms : SM
  c : Nat
  ys : List Value
  o : Nat
  cp : Nat
  n : Nat
  out : List SH
  S : List SH
structure OIX where
  i : Nat
  v : Nat → Int
  ms : SM
  c : Nat
  ys : List Value
  o : Nat
  cp : Nat
  n : Nat
  out : List SH
  S : List SH
structure OQX where
  q : Nat
  w : Nat → Int
/-- Where a row lies, if there is one. -/
theorem RowsIs.pos {α : Type} {cl : α → List Value} {k : Nat} {h : Nat → Option Obj} {a : Option Addr} {n c : Nat} {L : List α} (hv : RowsIs cl k h (.slice a n c) L) :
    ∃ (b o : Nat) (xs : List Value) (e : TypeId) (fr : Nat × Nat), 0 < L.length → a = some ⟨b, o, none⟩ ∧ h b = some (.cells xs.toArray e fr) ∧ ∀ j (hj : j < L.length), V.cut xs (o + j * k) k = some (cl L[j]) := by
  by_cases h0 : 0 < L.length
  · obtain ⟨b, o, xs, e, fr, h1⟩ := hv.at h0
    exact ⟨b, o, xs, e, fr, fun _ => h1⟩
  · exact ⟨0, 0, [], 0, (0, 0), fun h1 => absurd h1 h0⟩
theorem vcells_at (v : Nat → Int) {i : Nat} (hi : i < 7) : (vcells v)[i]? = some (iv (v i)) := by
  match i, hi with | 0, _ | 1, _ | 2, _ | 3, _ | 4, _ | 5, _ | 6, _ => rfl
set_option maxHeartbeats 40000000 in
theorem s_CausalOnce (h : Nat → Option Obj) (hu : Uni h) (v1 v2 : Value) (L : List SH) (Q : List Int) (hv1 : RowsIs shcl 14 h v1 L) (hv2 : RowsIs intcl 1 h v2 Q) (hpl : ∀ s, s ∈ L → Plain7 s) :
    Ctr Tryd.prog F_rostrumlaw16_CausalOnce [.raw v1, .raw v2] [.heap h] (fun x H => x = bv true ∧ H = [.heap h]) := by
  obtain ⟨la, lc, rfl⟩ := hv1.shape
  obtain ⟨qa, qc, rfl⟩ := hv2.shape
  obtain ⟨bL, oL, xL, eL, fL, HL⟩ := hv1.pos
  obtain ⟨bQ, oQ, xQ, eQ, fQ, HQ⟩ := hv2.pos
  refine i_rostrumlaw16_CausalOnce.spec follows ?_
  refine VCall.mk [0] (s_awake h hu) ⟨rfl, rfl, rfl⟩ ?_
  rintro _ _ ⟨rfl, rfl⟩
  refine And.intro (fun h => absurd h (by simp)) (fun _ => ?_)
  refine And.intro (fun k1 => ?_) (fun k1 => VRet.mk [0] (bv true) [.heap h] ⟨rfl, rfl, rfl⟩ ⟨rfl, rfl⟩)
  have k1 := of_decide_eq_false k1
  refine And.intro (fun k2 => VRet.mk [0] (bv true) [.heap h] ⟨rfl, rfl, rfl⟩ ⟨rfl, rfl⟩) (fun k2 => ?_)
  have k2 := of_decide_eq_false k2
  have hL40 : L.length ≤ 40 := by omega
  have hQ40 : Q.length ≤ 40 := by omega
  refine VLoop.mk Nat (fun i => [(0, .raw (.slice la L.length lc)), (1, .raw (.slice qa Q.length qc)), (5, iv i)]) (fun i => [.heap h]) (fun i => i ≤ L.length ∧ (∀ p, p < i → ∀ q, q < p → okAt L p q)) (fun i => L.length - i) 0 [0]
    ⟨⟨Nat.zero_le _, fun p hp => by omega⟩, rfl, rfl, rfl⟩ ?_
  rintro i ⟨hi, hone⟩ g
  refine And.intro (fun h1 => ?_) (fun h1 => ?_)
  · have h1 := of_decide_eq_true h1
    have hil : i < L.length := by omega
    have hwi : IntKind.i64.wrap ((i : Int) + 1) = ((i + 1 : Nat) : Int) := wrap64 (by omega)
    obtain ⟨bb, o, xs, e, fr, rfl, hh, hcut⟩ := hv1.at hil
    have hni : (0 : Int) ≤ (i : Int) ∧ (i : Int) < (L.length : Nat) := ⟨Int.natCast_nonneg i, by omega⟩
    refine VLoop.mk Nat (fun k => [(0, .raw (.slice (some ⟨bb, o, none⟩) L.length lc)), (1, .raw (.slice qa Q.length qc)), (5, iv i), (6, iv k)]) (fun k => [.heap h]) (fun k => k ≤ i ∧ ∀ q, q < k → okAt L i q) (fun k => i - k) 0 [0]
      ⟨⟨Nat.zero_le _, fun q hq => by omega⟩, rfl, rfl, rfl⟩ ?_
    rintro k ⟨hk, hkq⟩ g2
    refine And.intro (fun h2 => ?_) (fun h2 => ?_)
    · have h2 := of_decide_eq_true h2
      have hki : k < i := by omega
      have hwk : IntKind.i64.wrap ((k : Int) + 1) = ((k + 1 : Nat) : Int) := wrap64 (by omega)
      have hnk : (0 : Int) ≤ (k : Int) ∧ (k : Int) < (L.length : Nat) := ⟨Int.natCast_nonneg k, by omega⟩
      have ci := hcut i hil
      have ck := hcut k (by omega)
      have ci2 := cut_sub ci 0 2 (by omega)
      have ck2 := cut_sub ck 0 2 (by omega)
      refine And.intro hni ?_
      refine Exists.intro 0 (Exists.intro xs (Exists.intro e (Exists.intro fr (And.intro hh (Exists.intro _ (And.intro (by rw [Int.toNat_natCast]; exact ci2) ?_))))))
      refine And.intro hnk ?_
      refine Exists.intro 0 (Exists.intro xs (Exists.intro e (Exists.intro fr (And.intro hh (Exists.intro _ (And.intro (by rw [Int.toNat_natCast]; exact ck2) ?_))))))
      refine And.intro (fun hd => ?_) (fun hd => ?_)
      · refine And.intro hni ?_
        refine Exists.intro 0 (Exists.intro xs (Exists.intro e (Exists.intro fr (And.intro hh (Exists.intro _ (And.intro (by rw [Int.toNat_natCast]; exact ci) ?_))))))
        refine And.intro hnk ?_
        refine Exists.intro 0 (Exists.intro xs (Exists.intro e (Exists.intro fr (And.intro hh (Exists.intro _ (And.intro (by rw [Int.toNat_natCast]; exact ck) ?_))))))
        refine And.intro (fun hq => VRet.mk [0] (bv true) [.heap h] ⟨rfl, rfl, rfl⟩ ⟨rfl, rfl⟩) (fun hq => ?_)
        have hq : eqSH L[i] L[k] = true := by
          have hq : (!eqSH L[i] L[k]) = false := hq
          simpa using hq
        refine Exists.intro _ (And.intro hwk ?_)
        refine Exists.intro (k + 1) (Exists.intro [0] (And.intro ⟨⟨by omega, fun q hqk => ?_⟩, by omega⟩ ⟨rfl, rfl, rfl⟩))
        by_cases e : q = k
        · subst e; exact fun _ _ _ _ => hq
        · exact hkq q (by omega)
      · have hd : (decide (L[i].rep = L[k].rep) && decide (L[i].n = L[k].n)) = false := hd
        refine Exists.intro _ (And.intro hwk ?_)
        refine Exists.intro (k + 1) (Exists.intro [0] (And.intro ⟨⟨by omega, fun q hqk => ?_⟩, by omega⟩ ⟨rfl, rfl, rfl⟩))
        by_cases e : q = k
        · subst e; intro _ _ a1 a2; rw [decide_eq_true a1, decide_eq_true a2] at hd; cases hd
        · exact hkq q (by omega)
    · have h2 := of_decide_eq_false h2
      have hki : k = i := by omega
      subst hki
      refine Exists.intro _ (And.intro hwi ?_)
      refine Exists.intro (k + 1) (Exists.intro [0] (And.intro ⟨⟨hil, fun p hp q hqp => ?_⟩, by omega⟩ ⟨rfl, rfl, rfl⟩))
      · by_cases e : p = k
        · subst e; exact hkq q hqp
        · exact hone p (by omega) q hqp
  have h1 := of_decide_eq_false h1
  have hiL : i = L.length := by omega
  subst hiL
  have hL1 : OneEach L := by
    intro s hs t ht e1 e2
    obtain ⟨p, hp, rfl⟩ := List.mem_iff_getElem.1 hs
    obtain ⟨q, hq, rfl⟩ := List.mem_iff_getElem.1 ht
    rcases Nat.lt_trichotomy p q with hpq | hpq | hpq
    · exact (eqSH_eq (hpl _ ht) (hpl _ hs) (hone q hq p hpq hq hp e1.symm e2.symm)).symm
    · subst hpq; rfl
    · exact eqSH_eq (hpl _ hs) (hpl _ ht) (hone p hp q hpq hp hq e1 e2)
  refine VCall.mk [] s_New ⟨rfl, rfl, rfl⟩ ?_
  rintro _ _ ⟨rfl, rfl⟩
  refine VLoop.mk ONX (fun x => [(0, .raw (.slice la L.length lc)), (1, .raw (.slice qa Q.length qc)), (7, .ptr 1 0), (8, .ptr 4 0), (9, iv x.n), (10, iv x.t)])
    (fun x => [.heap h, .cells (vcells x.v ++ [.mp 2, .sl 3 x.o x.out.length x.cp]) T_causal_Buffer, smap x.ms x.c, .arr x.ys T_shadow_Shadow, .cells (vcells x.v) T_vec_Vec])
    (fun x => x.t ≤ 2 ∧ x.n = x.out.length ∧ BSt L x.v x.ms x.c x.ys x.o x.out.length x.cp x.out x.S (x.t * 80) ∧ (1 ≤ x.t → ∀ s, s ∈ L → s ∈ x.S) ∧ ∀ s, s ∈ x.S → s.key.size ≤ 4611686018427387904) (fun x => 2 - x.t)
    ⟨0, vz, [], 0, [], 0, 0, 0, [], []⟩ [0, 1, 2, 3, 4] ⟨⟨Nat.zero_le _, rfl, BSt.nil L, fun h => absurd h (by decide), fun s hs => by simp at hs⟩, rfl, rfl, rfl⟩ ?_
  rintro ⟨t, v, ms, c, ys, o, cp, n, out, S⟩ ⟨ht, hn, hB, hS, hZ⟩ g
  simp only at ht hn hB hS hZ
  subst hn
  refine And.intro (fun h3 => ?_) (fun h3 => ?_)
  · have h3 := of_decide_eq_true h3
    have ht1 : t ≤ 1 := by simp only at h3; omega
    have hwt : IntKind.i64.wrap ((t : Int) + 1) = ((t + 1 : Nat) : Int) := wrap64 (by omega)
    refine VLoop.mk OIX (fun x => [(0, .raw (.slice la L.length lc)), (1, .raw (.slice qa Q.length qc)), (7, .ptr 1 0), (8, .ptr 4 0), (9, iv x.n), (10, iv t), (11, iv x.i)])
      (fun x => [.heap h, .cells (vcells x.v ++ [.mp 2, .sl 3 x.o x.out.length x.cp]) T_causal_Buffer, smap x.ms x.c, .arr x.ys T_shadow_Shadow, .cells (vcells x.v) T_vec_Vec])
      (fun x => x.i ≤ L.length + Q.length ∧ x.n = x.out.length ∧ BSt L x.v x.ms x.c x.ys x.o x.out.length x.cp x.out x.S (t * 80 + x.i) ∧ (∀ p (hp : p < L.length), p < x.i → L[p] ∈ x.S) ∧ ∀ s, s ∈ x.S → s.key.size ≤ 4611686018427387904) (fun x => L.length + Q.length - x.i)
      ⟨0, v, ms, c, ys, o, cp, out.length, out, S⟩ [0, 1, 2, 3, 4] ⟨⟨Nat.zero_le _, rfl, hB, fun p hp h => absurd h (by simp), hZ⟩, rfl, rfl, rfl⟩ ?_
    rintro ⟨i, v, ms, c, ys, o, cp, n, out, S⟩ ⟨hi, hn, hB, hS, hZ⟩ g2
    simp only at hi hn hB hS hZ
    subst hn
    have hcB := hB.cnt
    have hwl : IntKind.i64.wrap ((L.length : Int) + (Q.length : Int)) = ((L.length + Q.length : Nat) : Int) := wrap64 (by omega)
    refine Exists.intro _ (And.intro hwl ?_)
    refine And.intro (fun h4 => ?_) (fun h4 => ?_)
    · have h4 := of_decide_eq_true h4
      have hil : i < L.length + Q.length := by simp only at h4; omega
      have hwi : IntKind.i64.wrap ((i : Int) + 1) = ((i + 1 : Nat) : Int) := wrap64 (by omega)
      refine And.intro (fun h5 => ?_) (fun h5 => ?_)
      · have h5 := of_decide_eq_true h5
        have hLi : L.length ≤ i := by simp only at h5; omega
        have hSi : ∀ p (hp : p < L.length), p < i + 1 → L[p] ∈ S := fun p hp _ => hS p hp (by omega)
        have skip : ∀ p (hp : p < L.length), p < i + 1 → L[p] ∈ S := hSi
        refine And.intro (fun h6 => ?_) (fun h6 => ?_)
        · have h6 := of_decide_eq_false h6
          have hL0 : 0 < L.length := by omega
          have hwd : IntKind.i64.wrap ((i : Int) - (L.length : Int)) = ((i - L.length : Nat) : Int) := by rw [wrap64 (by omega)]; omega
          have hiQ : i - L.length < Q.length := by omega
          have hnQ : (0 : Int) ≤ ((i - L.length : Nat) : Int) ∧ ((i - L.length : Nat) : Int) < (Q.length : Nat) := ⟨Int.natCast_nonneg _, by omega⟩
          have hqa := (HQ (by omega)).1
          have hhQ := (HQ (by omega)).2.1
          have cQ := cut_one ((HQ (by omega)).2.2 _ hiQ) 0 (by omega)
          subst hqa
          refine Exists.intro _ (And.intro hwd ?_)
          refine And.intro hnQ ?_
          refine Exists.intro 0 (Exists.intro xQ (Exists.intro eQ (Exists.intro fQ (And.intro hhQ (Exists.intro _ (And.intro (by rw [Int.toNat_natCast]; exact cQ) ?_))))))
          refine And.intro (fun h7 => ?_) (fun h7 => ?_)
          · refine Exists.intro _ (And.intro hwi ?_)
            exact Exists.intro ⟨i + 1, v, ms, c, ys, o, cp, out.length, out, S⟩ (Exists.intro [0, 1, 2, 3, 4] (And.intro ⟨⟨by simp only; omega, rfl, hB.up (Nat.le_succ _), skip, hZ⟩, by simp only; omega⟩ ⟨rfl, rfl, rfl⟩))
          · have h7 := of_decide_eq_false h7
            refine Exists.intro _ (And.intro hwd ?_)
            refine And.intro hnQ ?_
            refine Exists.intro 0 (Exists.intro xQ (Exists.intro eQ (Exists.intro fQ (And.intro hhQ (Exists.intro _ (And.intro (by rw [Int.toNat_natCast]; exact cQ) ?_))))))
            have hy0 : 0 ≤ Q[i - L.length] := by omega
            refine And.intro (by omega) (Exists.intro _ (And.intro rfl ?_))
            have hyk : Q[i - L.length].tmod (L.length : Int) = ((Q[i - L.length].toNat % L.length : Nat) : Int) := by
              rw [Int.tmod_eq_emod_of_nonneg hy0, Int.natCast_emod, Int.toNat_of_nonneg hy0]
            have hkl : Q[i - L.length].toNat % L.length < L.length := Nat.mod_lt _ hL0
            have hnk : (0 : Int) ≤ Q[i - L.length].tmod (L.length : Int) ∧ Q[i - L.length].tmod (L.length : Int) < (L.length : Nat) := by rw [hyk]; exact ⟨Int.natCast_nonneg _, by omega⟩
            have hKn : (Q[i - L.length].tmod (L.length : Int)).toNat = Q[i - L.length].toNat % L.length := by rw [hyk, Int.toNat_natCast]
            have hSk : ∀ s : SH, s = L[Q[i - L.length].toNat % L.length] → ∀ p (hp : p < L.length), p < i + 1 → L[p] ∈ s :: S := fun s _ p hp h => List.mem_cons_of_mem _ (skip p hp h)
            have hla := (HL (by omega)).1
            have hh := (HL (by omega)).2.1
            have ck := (HL (by omega)).2.2 (Q[i - L.length].toNat % L.length) hkl
            subst hla
            refine Exists.elim (⟨_, rfl⟩ : ∃ s, s = L[(Q[i - L.length].toNat % L.length)]) fun s hsk => ?_
            have hsL : s ∈ L := by rw [hsk]; exact List.getElem_mem hkl
            rw [← hsk] at ck
            refine And.intro hnk ?_
            refine Exists.intro 0 (Exists.intro xL (Exists.intro eL (Exists.intro fL (And.intro hh (Exists.intro _ (And.intro (by rw [hKn]; exact ck) ?_))))))
            refine VCall.mk [] (s_long s) ⟨rfl, rfl, rfl⟩ ?_
            rintro _ _ ⟨rfl, rfl⟩
            refine And.intro (fun hq => VRet.mk [0] (bv true) [.heap h] ⟨rfl, rfl, rfl⟩ ⟨rfl, rfl⟩) (fun hq => ?_)
            have hsz : s.key.size ≤ 4611686018427387904 := by
              have hq : longB s = false := hq
              simp only [longB, Bool.or_eq_false_iff, decide_eq_false_iff_not] at hq
              omega
            have hZ1 : ∀ r, r ∈ s :: S → r.key.size ≤ 4611686018427387904 := fun r hr => by
              rcases List.mem_cons.1 hr with h9 | h9
              · rw [h9]; exact hsz
              · exact hZ r h9
            refine And.intro hnk ?_
            refine Exists.intro 0 (Exists.intro xL (Exists.intro eL (Exists.intro fL (And.intro hh (Exists.intro _ (And.intro (by rw [hKn]; exact ck) ?_))))))
            refine VCall.mk [1, 2, 3, 0] (s_Take h hu v ms c ys o cp out hB.bi hB.row s hsz (by omega) (by omega)) ⟨rfl, rfl, rfl⟩ ?_
            rintro _ _ (⟨er, ys2, o2, cp2, hno2, rfl, rfl, hr2⟩ | ⟨l2, v2', ms2, c2, ys2, o2, cp2, zs2, p2, q2, hok2, hd2, hn2, hb2, hl2, rfl, rfl, hr2, hz2⟩)
            · have hB1 := hB.no hno2 (by omega) hr2
              refine VLoop.mk Nat (fun q => [(0, .raw (.slice (some ⟨bL, oL, none⟩) L.length lc)), (1, .raw (.slice (some ⟨bQ, oQ, .none⟩) Q.length qc)), (7, .ptr 1 0), (8, .ptr 4 0), (9, iv out.length), (10, iv t), (11, iv i), (13, .raw (.slice none 0 0)), (15, iv 0)])
                (fun q => [.heap h, .cells (vcells v ++ [.mp 2, .sl 3 o2 out.length cp2]) T_causal_Buffer, smap ms c, .arr ys2 T_shadow_Shadow, .cells (vcells v) T_vec_Vec]) (fun _ => True) (fun _ => 0) 0 [0, 1, 2, 3, 4] ⟨trivial, rfl, rfl, rfl⟩ ?_
              rintro _ _ g4
              refine And.intro (fun h5 => absurd h5 (by simp)) (fun _ => ?_)
              refine Exists.intro _ (And.intro hwi ?_)
              exact Exists.intro ⟨i + 1, v, ms, c, ys2, o2, cp2, out.length, out, s :: S⟩ (Exists.intro [0, 1, 2, 3, 4] (And.intro ⟨⟨by simp only; omega, rfl, hB1, hSk s hsk, hZ1⟩, by simp only; omega⟩ ⟨rfl, rfl, rfl⟩))
            · have hOB := hB.yes hsL hok2 hd2 hn2 hb2 hl2 hr2
              obtain ⟨hB1, _⟩ := hOB
              have hOB := hd2.steps (hB.bi.put hok2.1 hok2.2.1)
              obtain ⟨_, hv2', hst⟩ := hOB
              have hroom : p2 + l2.length * 14 ≤ zs2.length := by have := hz2.2.1; have := Nat.mul_le_mul_right 14 hz2.1; omega
              have hcl : ∀ x, (shcl x).length = 14 := fun _ => rfl
              have hcnt := hB1.cnt
              rw [List.length_append] at hcnt
              refine VLoop.mk OQX (fun x => [(0, .raw (.slice (some ⟨bL, oL, none⟩) L.length lc)), (1, .raw (.slice (some ⟨bQ, oQ, .none⟩) Q.length qc)), (7, .ptr 1 0), (8, .ptr 4 0), (9, iv ((out.length + x.q : Nat) : Int)), (10, iv t), (11, iv i), (13, .sl 5 p2 l2.length q2), (15, iv x.q)])
                (fun x => [.heap h, .cells (vcells v2' ++ [.mp 2, .sl 3 o2 (out ++ l2).length cp2]) T_causal_Buffer, smap ms2 c2, .arr ys2 T_shadow_Shadow, .cells (vcells x.w) T_vec_Vec, .arr zs2 T_shadow_Shadow])
                (fun x => x.q ≤ l2.length ∧ x.w = ups v (l2.take x.q)) (fun x => l2.length - x.q) ⟨0, v⟩ [0, 1, 2, 5, 4, 6] ⟨⟨Nat.zero_le _, rfl⟩, rfl, rfl, rfl⟩ ?_
              rintro ⟨q, w⟩ ⟨hq1, hw⟩ g4
              simp only at hq1 hw
              refine And.intro (fun h5 => ?_) (fun h5 => ?_)
              · have h5 := of_decide_eq_true h5
                have hql : q < l2.length := by simp only at h5; omega
                have hwq : IntKind.i64.wrap ((q : Int) + 1) = ((q + 1 : Nat) : Int) := wrap64 (by omega)
                have hwn : IntKind.i64.wrap (((out.length + q : Nat) : Int) + 1) = ((out.length + (q + 1) : Nat) : Int) := wrap64 (by omega)
                have hcutq := hz2.cut hcl hql
                have hOB := hst q hql
                obtain ⟨a1, a2, a3⟩ := hOB
                have htk : ups v (l2.take (q + 1)) = upv w l2[q].rep.toNat l2[q].n := by rw [← List.take_append_getElem hql, ups_snoc, hw]
                rw [← hw] at a2 a3
                refine And.intro ⟨Int.natCast_nonneg q, h5, hroom⟩ (Exists.intro _ (And.intro (by rw [Int.toNat_natCast]; exact hcutq) ?_))
                have hOB := goodS_iff a1
                obtain ⟨b1, b2, _⟩ := hOB
                have hOB := readyB_iff.1 a2
                obtain ⟨b3, b4⟩ := hOB
                refine And.intro (fun _ => ?_) (fun h6 => absurd (of_decide_eq_true h6) (by omega))
                refine And.intro (fun _ => ?_) (fun h6 => absurd (of_decide_eq_true h6) (by omega))
                refine VCall.mk [] (s_vec_Has w l2[q].rep l2[q].n) ⟨rfl, rfl, rfl⟩ ?_
                rintro _ _ ⟨rfl, rfl⟩
                refine And.intro (fun _ => ?_) (fun h6 => absurd (show has w l2[q].rep l2[q].n = true from h6) (by rw [b3]; simp))
                refine VCall.mk [] (s_vec_Le l2[q].seen w) ⟨rfl, rfl, rfl⟩ ?_
                rintro _ _ ⟨rfl, rfl⟩
                refine And.intro (fun h6 => absurd (show (!leB l2[q].seen w) = true from h6) (by rw [leB_iff.2 b4]; simp)) (fun _ => ?_)
                refine And.intro b1 (Exists.intro _ (And.intro (vcells_put w l2[q].n b1 []) ?_))
                refine Exists.intro _ (And.intro hwn ?_)
                refine Exists.intro _ (And.intro hwq ?_)
                exact Exists.intro ⟨q + 1, _⟩ (Exists.intro [0, 1, 2, 3, 4, 5] (And.intro ⟨⟨hql, htk.symm⟩, by simp only; omega⟩ ⟨rfl, rfl, rfl⟩))
              · have h5 := of_decide_eq_false h5
                have hql : q = l2.length := by simp only at h5; omega
                subst hql
                rw [List.take_length, ← hv2'] at hw
                subst hw
                refine Exists.intro _ (And.intro hwi ?_)
                exact Exists.intro ⟨i + 1, w, ms2, c2, ys2, o2, cp2, out.length + l2.length, out ++ l2, s :: S⟩ (Exists.intro [0, 1, 2, 3, 4] (And.intro ⟨⟨by simp only; omega, by simp only; rw [List.length_append], hB1, hSk s hsk, hZ1⟩, by simp only; omega⟩ ⟨rfl, rfl, rfl⟩))
        · refine Exists.intro _ (And.intro hwi ?_)
          exact Exists.intro ⟨i + 1, v, ms, c, ys, o, cp, out.length, out, S⟩ (Exists.intro [0, 1, 2, 3, 4] (And.intro ⟨⟨by simp only; omega, rfl, hB.up (Nat.le_succ _), skip, hZ⟩, by simp only; omega⟩ ⟨rfl, rfl, rfl⟩))
      · have h5 := of_decide_eq_false h5
        have hkl : i < L.length := by simp only at h5; omega
        have hnk : (0 : Int) ≤ (i : Int) ∧ (i : Int) < (L.length : Nat) := ⟨Int.natCast_nonneg i, by omega⟩
        have hKn : ((i : Nat) : Int).toNat = i := Int.toNat_natCast i
        have hSk : ∀ s : SH, s = L[i] → ∀ p (hp : p < L.length), p < i + 1 → L[p] ∈ s :: S := by
          intro s hs p hp hpi
          by_cases e : p = i
          · subst e; rw [hs]; exact List.mem_cons_self
          · exact List.mem_cons_of_mem _ (hS p hp (by omega))
        have hla := (HL (by omega)).1
        have hh := (HL (by omega)).2.1
        have ck := (HL (by omega)).2.2 i hkl
        subst hla
        refine Exists.elim (⟨_, rfl⟩ : ∃ s, s = L[i]) fun s hsk => ?_
        have hsL : s ∈ L := by rw [hsk]; exact List.getElem_mem hkl
        rw [← hsk] at ck
        refine And.intro hnk ?_
        refine Exists.intro 0 (Exists.intro xL (Exists.intro eL (Exists.intro fL (And.intro hh (Exists.intro _ (And.intro (by rw [hKn]; exact ck) ?_))))))
        refine VCall.mk [] (s_long s) ⟨rfl, rfl, rfl⟩ ?_
        rintro _ _ ⟨rfl, rfl⟩
        refine And.intro (fun hq => VRet.mk [0] (bv true) [.heap h] ⟨rfl, rfl, rfl⟩ ⟨rfl, rfl⟩) (fun hq => ?_)
        have hsz : s.key.size ≤ 4611686018427387904 := by
          have hq : longB s = false := hq
          simp only [longB, Bool.or_eq_false_iff, decide_eq_false_iff_not] at hq
          omega
        have hZ1 : ∀ r, r ∈ s :: S → r.key.size ≤ 4611686018427387904 := fun r hr => by
          rcases List.mem_cons.1 hr with h9 | h9
          · rw [h9]; exact hsz
          · exact hZ r h9
        refine And.intro hnk ?_
        refine Exists.intro 0 (Exists.intro xL (Exists.intro eL (Exists.intro fL (And.intro hh (Exists.intro _ (And.intro (by rw [hKn]; exact ck) ?_))))))
        refine VCall.mk [1, 2, 3, 0] (s_Take h hu v ms c ys o cp out hB.bi hB.row s hsz (by omega) (by omega)) ⟨rfl, rfl, rfl⟩ ?_
        rintro _ _ (⟨er, ys2, o2, cp2, hno2, rfl, rfl, hr2⟩ | ⟨l2, v2', ms2, c2, ys2, o2, cp2, zs2, p2, q2, hok2, hd2, hn2, hb2, hl2, rfl, rfl, hr2, hz2⟩)
        · have hB1 := hB.no hno2 (by omega) hr2
          refine VLoop.mk Nat (fun q => [(0, .raw (.slice (some ⟨bL, oL, none⟩) L.length lc)), (1, .raw (.slice qa Q.length qc)), (7, .ptr 1 0), (8, .ptr 4 0), (9, iv out.length), (10, iv t), (11, iv i), (13, .raw (.slice none 0 0)), (15, iv 0)])
            (fun q => [.heap h, .cells (vcells v ++ [.mp 2, .sl 3 o2 out.length cp2]) T_causal_Buffer, smap ms c, .arr ys2 T_shadow_Shadow, .cells (vcells v) T_vec_Vec]) (fun _ => True) (fun _ => 0) 0 [0, 1, 2, 3, 4] ⟨trivial, rfl, rfl, rfl⟩ ?_
          rintro _ _ g4
          refine And.intro (fun h5 => absurd h5 (by simp)) (fun _ => ?_)
          refine Exists.intro _ (And.intro hwi ?_)
          exact Exists.intro ⟨i + 1, v, ms, c, ys2, o2, cp2, out.length, out, s :: S⟩ (Exists.intro [0, 1, 2, 3, 4] (And.intro ⟨⟨by simp only; omega, rfl, hB1, hSk s hsk, hZ1⟩, by simp only; omega⟩ ⟨rfl, rfl, rfl⟩))
        · have hOB := hB.yes hsL hok2 hd2 hn2 hb2 hl2 hr2
          obtain ⟨hB1, _⟩ := hOB
          have hOB := hd2.steps (hB.bi.put hok2.1 hok2.2.1)
          obtain ⟨_, hv2', hst⟩ := hOB
          have hroom : p2 + l2.length * 14 ≤ zs2.length := by have := hz2.2.1; have := Nat.mul_le_mul_right 14 hz2.1; omega
          have hcl : ∀ x, (shcl x).length = 14 := fun _ => rfl
          have hcnt := hB1.cnt
          rw [List.length_append] at hcnt
          refine VLoop.mk OQX (fun x => [(0, .raw (.slice (some ⟨bL, oL, none⟩) L.length lc)), (1, .raw (.slice qa Q.length qc)), (7, .ptr 1 0), (8, .ptr 4 0), (9, iv ((out.length + x.q : Nat) : Int)), (10, iv t), (11, iv i), (13, .sl 5 p2 l2.length q2), (15, iv x.q)])
            (fun x => [.heap h, .cells (vcells v2' ++ [.mp 2, .sl 3 o2 (out ++ l2).length cp2]) T_causal_Buffer, smap ms2 c2, .arr ys2 T_shadow_Shadow, .cells (vcells x.w) T_vec_Vec, .arr zs2 T_shadow_Shadow])
            (fun x => x.q ≤ l2.length ∧ x.w = ups v (l2.take x.q)) (fun x => l2.length - x.q) ⟨0, v⟩ [0, 1, 2, 5, 4, 6] ⟨⟨Nat.zero_le _, rfl⟩, rfl, rfl, rfl⟩ ?_
          rintro ⟨q, w⟩ ⟨hq1, hw⟩ g4
          simp only at hq1 hw
          refine And.intro (fun h5 => ?_) (fun h5 => ?_)
          · have h5 := of_decide_eq_true h5
            have hql : q < l2.length := by simp only at h5; omega
            have hwq : IntKind.i64.wrap ((q : Int) + 1) = ((q + 1 : Nat) : Int) := wrap64 (by omega)
            have hwn : IntKind.i64.wrap (((out.length + q : Nat) : Int) + 1) = ((out.length + (q + 1) : Nat) : Int) := wrap64 (by omega)
            have hcutq := hz2.cut hcl hql
            have hOB := hst q hql
            obtain ⟨a1, a2, a3⟩ := hOB
            have htk : ups v (l2.take (q + 1)) = upv w l2[q].rep.toNat l2[q].n := by rw [← List.take_append_getElem hql, ups_snoc, hw]
            rw [← hw] at a2 a3
            refine And.intro ⟨Int.natCast_nonneg q, h5, hroom⟩ (Exists.intro _ (And.intro (by rw [Int.toNat_natCast]; exact hcutq) ?_))
            have hOB := goodS_iff a1
            obtain ⟨b1, b2, _⟩ := hOB
            have hOB := readyB_iff.1 a2
            obtain ⟨b3, b4⟩ := hOB
            refine And.intro (fun _ => ?_) (fun h6 => absurd (of_decide_eq_true h6) (by omega))
            refine And.intro (fun _ => ?_) (fun h6 => absurd (of_decide_eq_true h6) (by omega))
            refine VCall.mk [] (s_vec_Has w l2[q].rep l2[q].n) ⟨rfl, rfl, rfl⟩ ?_
            rintro _ _ ⟨rfl, rfl⟩
            refine And.intro (fun _ => ?_) (fun h6 => absurd (show has w l2[q].rep l2[q].n = true from h6) (by rw [b3]; simp))
            refine VCall.mk [] (s_vec_Le l2[q].seen w) ⟨rfl, rfl, rfl⟩ ?_
            rintro _ _ ⟨rfl, rfl⟩
            refine And.intro (fun h6 => absurd (show (!leB l2[q].seen w) = true from h6) (by rw [leB_iff.2 b4]; simp)) (fun _ => ?_)
            refine And.intro b1 (Exists.intro _ (And.intro (vcells_put w l2[q].n b1 []) ?_))
            refine Exists.intro _ (And.intro hwn ?_)
            refine Exists.intro _ (And.intro hwq ?_)
            exact Exists.intro ⟨q + 1, _⟩ (Exists.intro [0, 1, 2, 3, 4, 5] (And.intro ⟨⟨hql, htk.symm⟩, by simp only; omega⟩ ⟨rfl, rfl, rfl⟩))
          · have h5 := of_decide_eq_false h5
            have hql : q = l2.length := by simp only at h5; omega
            subst hql
            rw [List.take_length, ← hv2'] at hw
            subst hw
            refine Exists.intro _ (And.intro hwi ?_)
            exact Exists.intro ⟨i + 1, w, ms2, c2, ys2, o2, cp2, out.length + l2.length, out ++ l2, s :: S⟩ (Exists.intro [0, 1, 2, 3, 4] (And.intro ⟨⟨by simp only; omega, by simp only; rw [List.length_append], hB1, hSk s hsk, hZ1⟩, by simp only; omega⟩ ⟨rfl, rfl, rfl⟩))
    · have h4 := of_decide_eq_false h4
      have hil : i = L.length + Q.length := by simp only at h4; omega
      subst hil
      refine Exists.intro _ (And.intro hwt ?_)
      refine Exists.intro ⟨t + 1, v, ms, c, ys, o, cp, out.length, out, S⟩ (Exists.intro [0, 1, 2, 3, 4] (And.intro ⟨⟨by simp only; omega, rfl, hB.up (by simp only; omega), fun _ s hs => ?_, hZ⟩, by simp only; omega⟩ ⟨rfl, rfl, rfl⟩))
      obtain ⟨p, hp, rfl⟩ := List.mem_iff_getElem.1 hs
      exact hS p hp (by omega)
  have h3 := of_decide_eq_false h3
  have ht2 : t = 2 := by simp only at h3; omega
  subst ht2
  have hSS := hS (by decide)
  have hnv := hB.bi.hv
  have hsum := hB.ts.chain.sum
  refine VLoop.mk Nat (fun i => [(0, .raw (.slice la L.length lc)), (7, .ptr 1 0), (8, .ptr 4 0), (9, iv out.length), (17, iv (psum v i)), (18, iv i)])
    (fun _ => [.heap h, .cells (vcells v ++ [.mp 2, .sl 3 o out.length cp]) T_causal_Buffer, smap ms c, .arr ys T_shadow_Shadow, .cells (vcells v) T_vec_Vec]) (fun i => i ≤ 7) (fun i => 7 - i) 0 [0, 1, 2, 3, 4] ⟨Nat.zero_le _, rfl, rfl, rfl⟩ ?_
  rintro i hi g3
  refine And.intro (fun h4 => ?_) (fun h4 => ?_)
  · have h4 := of_decide_eq_true h4
    have hi7 : 0 ≤ (i : Int) ∧ (i : Int) < 7 := ⟨Int.natCast_nonneg i, h4⟩
    have hwi : IntKind.i64.wrap ((i : Int) + 1) = ((i + 1 : Nat) : Int) := wrap64 (by omega)
    have hps := psum_le hnv i (by omega)
    have hvi := hnv i (by omega)
    have hwa : IntKind.i64.wrap (psum v i + v (i : Int).toNat) = psum v (i + 1) := by rw [Int.toNat_natCast, wrap64 (by omega)]; rfl
    refine And.intro hi7 (Exists.intro _ (And.intro (by rw [Nat.zero_add]; exact vcells_getA v hi7) ?_))
    refine Exists.intro _ (And.intro hwa ?_)
    refine Exists.intro _ (And.intro hwi ?_)
    exact Exists.intro (i + 1) (Exists.intro [0, 1, 2, 3, 4] (And.intro ⟨by omega, by omega⟩ ⟨rfl, rfl, rfl⟩))
  have h4 := of_decide_eq_false h4
  have hi7 : i = 7 := by omega
  subst hi7
  refine VLoop.mk Nat (fun i => [(0, .raw (.slice la L.length lc)), (7, .ptr 1 0), (8, .ptr 4 0), (9, iv out.length), (17, iv (psum v 7)), (19, iv i)])
    (fun _ => [.heap h, .cells (vcells v ++ [.mp 2, .sl 3 o out.length cp]) T_causal_Buffer, smap ms c, .arr ys T_shadow_Shadow, .cells (vcells v) T_vec_Vec]) (fun i => i ≤ L.length) (fun i => L.length - i) 0 [0, 1, 2, 3, 4] ⟨Nat.zero_le _, rfl, rfl, rfl⟩ ?_
  rintro i hi g4
  refine And.intro (fun h5 => ?_) (fun h5 => ?_)
  · have h5 := of_decide_eq_true h5
    have hil : i < L.length := by omega
    have hwi : IntKind.i64.wrap ((i : Int) + 1) = ((i + 1 : Nat) : Int) := wrap64 (by omega)
    have hni : (0 : Int) ≤ (i : Int) ∧ (i : Int) < (L.length : Nat) := ⟨Int.natCast_nonneg i, by omega⟩
    have hla := (HL (by omega)).1
    have hh := (HL (by omega)).2.1
    have ci := (HL (by omega)).2.2 i hil
    subst hla
    have hgr : readyB L[i] v = true → goodS L[i] = false := fun hr => by
      cases hg : goodS L[i] with
      | false => rfl
      | true => rw [hB.ts.stuck hB.bi hL1 (hSS _ (List.getElem_mem hil)) (List.getElem_mem hil) hg] at hr; cases hr
    refine And.intro hni ?_
    refine Exists.intro 0 (Exists.intro xL (Exists.intro eL (Exists.intro fL (And.intro hh (Exists.intro _ (And.intro (by rw [Int.toNat_natCast]; exact ci) ?_))))))
    refine VCall.mk [] (s_shadow_Ready L[i] v) ⟨rfl, rfl, rfl⟩ ?_
    rintro _ _ ⟨rfl, rfl⟩
    refine And.intro (fun c1 => ?_) (fun c1 => ?_)
    · refine And.intro hni ?_
      refine Exists.intro 0 (Exists.intro xL (Exists.intro eL (Exists.intro fL (And.intro hh (Exists.intro _ (And.intro (by rw [Int.toNat_natCast]; exact ci) ?_))))))
      refine VCall.mk [0] (s_shadow_Good h hu L[i] (hZ _ (hSS _ (List.getElem_mem hil)))) ⟨rfl, rfl, rfl⟩ ?_
      rintro _ _ ⟨rfl, rfl⟩
      refine And.intro (fun c2 => absurd (show goodS L[i] = true from c2) (by rw [hgr c1]; simp)) (fun _ => ?_)
      refine Exists.intro _ (And.intro hwi ?_)
      exact Exists.intro (i + 1) (Exists.intro [0, 1, 2, 3, 4] (And.intro ⟨by omega, by omega⟩ ⟨rfl, rfl, rfl⟩))
    · refine Exists.intro _ (And.intro hwi ?_)
      exact Exists.intro (i + 1) (Exists.intro [0, 1, 2, 3, 4] (And.intro ⟨by omega, by omega⟩ ⟨rfl, rfl, rfl⟩))
  · have h5 := of_decide_eq_false h5
    refine VCall.mk [1, 2, 3] (s_Have v ms c ys o out.length cp) ⟨rfl, rfl, rfl⟩ ?_
    rintro _ _ ⟨rfl, rfl⟩
    have hs7 : (out.length : Int) = psum v 7 := by rw [psum7]; exact hsum
    have hall := hB.ts.chain.all
    refine And.intro rfl ?_
    refine And.intro (fun c1 => ?_) (fun c1 => absurd c1 (by simp))
    refine And.intro (fun c2 => ?_) (fun c2 => absurd hs7 (of_decide_eq_false c2))
    refine VCall.mk [1, 2, 3] (s_Behind v vz ms c ys o cp out hB.row (by have := hB.cnt; omega)) ⟨rfl, rfl, rfl⟩ ?_
    rintro _ _ ⟨zs5, o5, cp5, rfl, hz5, rfl⟩
    exact VRet.mk [0] (bv (decide (((lacks vz out).length : Int) = (out.length : Int)))) [.heap h] ⟨rfl, rfl, rfl⟩ ⟨by rw [hall]; simp, rfl⟩
end Go.Proofs

namespace Go.Proofs.YtnjibajfmceeaaaDoor
open Go.ChangeShapes Go.WideShapes Go.ChangeAt Go.RowKit Go.V Go.Joins Go.Shelf Go.Lib
set_option maxRecDepth 100000

section
open Go.Deep
variable {H : Type} {enc : TypeId × Value → H} {W : World}
theorem open_ints {fuel : Nat} {v : Value} {x : DataW H × List MemPlace} (h : DataW.trod enc Tryd.prog W 0 (fun _ => true) true fuel T_sl_int [v] = some x) : ∃ L, RowsIs intcl 1 (allH W) v L := by
  rcases open_rows (d := 2) (ks := [.int .i64]) (show Tryd.prog.underlying T_sl_int = some (.slice T_int) by kernel_rfl) (by kernel_rfl) (by kernel_rfl) (by decide) h with rfl | ⟨a, len, cap, rfl, hlc, h0 | ⟨b, o, xs, te, fr, rfl, hb, hx⟩⟩
  · exact ⟨[], .inl ⟨⟨none, 0, rfl⟩, rfl⟩⟩
  · subst h0
    exact ⟨[], .inl ⟨⟨_, cap, rfl⟩, rfl⟩⟩
  · have each : ∀ i, i < len → ∃ s : Int, V.cut xs (o + i * 1) 1 = some (intcl s) := by
      intro i hi
      obtain ⟨cs, h1, h2, h3⟩ := hx i hi
      match cs, h2 with
      | [y], _ =>
        obtain ⟨s, rfl⟩ := fit_int (h3 0 _ y rfl rfl)
        exact ⟨s, h1⟩
    obtain ⟨q, hq⟩ := Go.Deep.choose_lt each
    refine ⟨(List.range len).map q, .inr ⟨b, o, cap, xs, te, fr, by simp, hb, fun i hi => ?_⟩⟩
    have hi' : i < len := by simpa using hi
    simpa using hq i hi'
end
theorem xL : RExtra Tryd.prog Tryd.laysLetter_ren := ⟨by kernel_rfl, by kernel_rfl, by kernel_rfl, by kernel_rfl, by kernel_rfl, by kernel_rfl, by kernel_rfl, by kernel_rfl⟩
theorem xD : RExtra Tryd.prog Tryd.laysDigit_ren := ⟨by kernel_rfl, by kernel_rfl, by kernel_rfl, by kernel_rfl, by kernel_rfl, by kernel_rfl, by kernel_rfl, by kernel_rfl⟩
abbrev laidB : List (String × DataW Unit) := Rows.causalOnceRow.laid
theorem causalOnce_lifted (os : Os) (started : os.Started) (H : Type) (enc : TypeId × Value → H) :
    ReturnsInHanded {} Tryd.checked os 3 .any (fun w args => (Rows.causalOnceSpec.pre enc Tryd.prog Tryd.f3 [] false w args ∧ laidMetH Tryd.prog laidB w) ∧ sizedMet enc Tryd.prog Tryd.f3 (OpenSpec.ofChange Rows.causalOnceSpec) false w args)
      (Rows.causalOnceSpec.post enc Tryd.prog Tryd.f3 false true false false) := by
  refine returnsInHanded_of_change_and (C := Tryd.checked) (X := fun w _ => laidMetH Tryd.prog laidB w) (fun _ _ _ hh h => h.of_heap hh) own started (by kernel_rfl) Tryd.func3
    (ChangeSpec.witness_shaped (enc := enc) (C := Tryd.checked) (os := os) (X := fun w _ => laidMetH Tryd.prog laidB w) false (World.laidAll Tryd.prog os laidB) #[.slice none 0 0, .slice none 0 0] 8 (World.laidAll_os _ _ _)
      (World.shaped_of_ZipB (by kernel_rfl) (by kernel_rfl)) (by kernel_rfl) (by kernel_rfl) (by kernel_rfl)
      (by rw [MakeChecks.laidMetH_plain _ _ _ (by kernel_rfl)]; exact laidMet_laidAll _ (by kernel_rfl) (by kernel_rfl))) ?_
  intro W base args ds gs before hval0 hW _ _ hL _
  have hval : ∀ (j : Nat) t v, Tryd.f3.params[j]? = some t → args[j]? = some v → Value.okWide Tryd.prog W .any base t v := hval0
  have hW' := hW
  obtain ⟨p, q, hA0, hV, rfl, hfz, hnd⟩ := hW
  have hA : DataW.TrodAll enc Tryd.prog W 0 (fun _ => true) true Tryd.f3.params.toList args.toList ds p := hA0
  rw [Tryd.params3] at hA hval
  obtain ⟨v0, vs0, d0, ds0, p0, q0, hargs, rfl, rfl, h0, r0⟩ := trodAll_cons hA
  obtain ⟨v1, vs1, d1, ds1, p1, q1, rfl, rfl, rfl, h1, r1⟩ := trodAll_cons r0
  obtain ⟨rfl, rfl, rfl⟩ := trodAll_nil r1
  obtain rfl : args = #[v0, v1] := by cases args; simp_all
  obtain ⟨rfl, rfl⟩ := trodVars_none hV
  rw [MakeChecks.laidMetH_plain _ _ _ (by kernel_rfl)] at hL
  have hTL : RVar (Tryd.laysLetter_ren.g 8) letterT W := rvar_of_reads { Tryd.laysLetter with } xL (by kernel_rfl) (by kernel_rfl) ((show Rows.laid_unicode_Letter = rtabData letterT from Pinned.letter_eq) ▸ Lib.laidMet.reads hL (.tail _ (.tail _ (.head _))))
  have hTD : RVar (Tryd.laysDigit_ren.g 5) digitT W := rvar_of_reads { Tryd.laysDigit with } xD (by kernel_rfl) (by kernel_rfl) ((show Rows.laid_unicode_Digit = rtabData digitT from Pinned.digit_eq) ▸ Lib.laidMet.reads hL (.tail _ (.head _)))
  have hTP : TabIs Tryd.prog W "unicode.properties" .u8 propertiesTab := tabIs_of_head (g := Tryd.laysLetter_ren.g 7) (t := T_256_uint8) (e := T_uint8) (n := 256) (by kernel_rfl) (by kernel_rfl) (by kernel_rfl) (by kernel_rfl) (by kernel_rfl) (by kernel_rfl) hL
  have hU : Uni (allH W) := UniH.all hTP hTL hTD (fun b o e => e)
  have k0 := h0
  have k1 := h1
  have lt0 : ∀ x ∈ p0, x.block < W.heap.size := by obtain ⟨m, hm⟩ := k0; exact DataW.trod_lt m _ _ _ hm
  have lt1 : ∀ x ∈ p1, x.block < W.heap.size := by obtain ⟨m, hm⟩ := k1; exact DataW.trod_lt m _ _ _ hm
  obtain ⟨a0, len0, cap0, rfl⟩ := okWide_slice Tryd.underlying22 (hval 0 22 v0 rfl rfl)
  obtain ⟨a1, len1, cap1, rfl⟩ := okWide_slice Tryd.underlying23 (hval 1 23 v1 rfl rfl)
  obtain ⟨m0, h0⟩ := h0
  obtain ⟨m1, h1⟩ := h1
  obtain ⟨L0, hL0, hP0⟩ := open_shadows h0
  obtain ⟨L1, hL1⟩ := open_ints h1
  clear hA0 hval0
  refine Calls.mono (ctr_all (s_CausalOnce (allH W) hU _ _ L0 L1 hL0 hL1 hP0) rfl rfl (r := .bool true) ?_) fun e W' ⟨he, bel⟩ => ?_
  · rintro v H' ρ' ⟨rfl, rfl⟩; exact ⟨rfl, _, rfl, Sub.refl _⟩
  subst he
  exact ⟨_, rfl, _, _, _, [], _, [], hW', trodAll_mk1 (shut_bool Tryd.underlying4 _), (trodAll_cons_mk (Below.trod laidOut (by kernel_rfl) (of_decide_eq_true (by kernel_rfl)) k0 bel lt0) (trodAll_cons_mk (Below.trod laidOut (by kernel_rfl) (of_decide_eq_true (by kernel_rfl)) k1 bel lt1) trodAll_mk0)), rfl, bel.frame _, fun h => by cases h⟩
theorem causalOnce_row : Rows.causalOnceRow.holds Tryd.pinned (OpenSpec.ofChange Rows.causalOnceSpec) :=
  OpenClaim.holds_of_wide 3 Tryd.f3 rfl rfl rfl rfl rfl rfl rfl ⟨rfl, rfl, rfl, rfl, rfl⟩ rfl rfl rfl rfl rfl (by kernel_rfl) Tryd.func3 (by kernel_rfl)
    (of_decide_eq_true (by kernel_rfl)) (by unfold Func.isWrapper; first | (rw [if_pos (by decide +kernel)]; kernel_rfl) | (rw [if_neg (by decide +kernel)]; exact ⟨rfl, rfl⟩))
    (fun os started H enc _ => causalOnce_lifted os started H enc)
theorem causalOnceCard_holds : Rows.CausalOnceCardSaid :=
  Claim7.holds_tied_plain_at .later [] [.data, .pinned, .pinned] true (true, "8dfd6869943901ab86addb612e7393e77a640301410433515362e607dd21c7a0") false causalOnce_row (fun _ h => by cases h) (by kernel_rfl) (fun _ h => by cases h) causalOnce_row_tie rfl ⟨rfl, rfl⟩ (by kernel_rfl) rfl
    (fun f fn hf hfn => by
      obtain rfl : f = 3 := Option.some.inj ((show Tryd.prog.funcNamed "rostrum/rostrumlaw16.CausalOnce" = some 3 by kernel_rfl).symm.trans hf) |>.symm
      obtain rfl : fn = Tryd.f3 := (Option.some.inj (Tryd.func3.symm.trans hfn)).symm
      exact ⟨by kernel_rfl, fun j t ht => by
        rw [Tryd.params3] at ht
        have hm : t ∈ [22, 23] := by simpa using Array.mem_of_getElem? ht
        have hall : ([22, 23].all fun u => !Tryd.prog.wantsStandIn u) = true := by kernel_rfl
        exact (show Tryd.prog.wantsStandIn t = false by simpa using List.all_eq_true.1 hall t hm)⟩)
    (by kernel_rfl)
end Go.Proofs.YtnjibajfmceeaaaDoor

